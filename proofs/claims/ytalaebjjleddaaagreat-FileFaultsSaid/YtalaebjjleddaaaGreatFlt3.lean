/- Texts put together: AbsK, AbsL, AbsM, AbsN, AbsNl, AbsO. -/
import Derived.Test.YtalaebjjleddaaaGreatFlt2
import Derived.Recover
import Derived.RangeFuncCalls
import Derived.RangeFuncLeaves
import Derived.RecoverIn
import Derived.LoopNIn
import Derived.OrdersIn
set_option linter.unusedVariables false
set_option linter.unusedSimpArgs false
namespace Go.Abs
inductive Ex where
 | norm
 | exit (id:Nat)
 | ret
 | pan (v:AV)
inductive CRes where
 | ret (v:AV)
 | pan (v:AV)
inductive Md where
 | ret
 | pan (v:AV) (r:Bool)
inductive DI where
 | fn (f:FuncId) (args:List AV)
 | col (b:Nat)
structure St where
 tm:Tm
 h:zaa
 df:List DI
abbrev zba:=FuncId → List AV → zaa → Option (CRes × zaa)
noncomputable def ev (tm:Tm):Operand → Option AV
 | .tmp t=>some (tm.get t)
 | .const v=>ofV v
 | .global _=>none
 | .func f=>some (.fn (.func f) [] [])
noncomputable def putT (tm:Tm) (dst:Option Tmp) (v:AV):Tm :=
 match dst with
 | some d=>tm.set d v
 | none=>tm
noncomputable def zbf (ops:Array Oper) (o:Oper) (tm:Tm):Option Bool :=
 match o.guard with
 | none=>some true
 | some (j,want)=>match (ops[j]?).bind (·.dst) with
  | none=>none
  | some d=>match tm.get d with
   | .bool b=>some (b==want)
   | .tup []=>some false
   | _=>none
def dfr (ρ:Operand → Option AV) (c:Call) (P:Program):Option DI :=
 match c.callee,zb9 ρ c.args.toList with
 | .value f,some args=>match ρ f with
  | some (.fn (.func g) x y)=>if fnOk P g then some (.fn g (x++args++y)) else none
  | _=>none
 | _,_=>none
noncomputable def zgu (P:Program) (call:zba) (o:Oper) (st:St):Option (Ex × St) :=
 match o.op with
 | .defer c=>match dfr (ev st.tm) c P with
  | some d=>some (.norm,⟨putT st.tm o.dst (.tup []),st.h,d::st.df⟩)
  | none=>none
 | .panic x=>match ev st.tm x with
  | some (.ifc t v)=>some (.pan (.ifc t v),st)
  | _=>none
 | _=>match exOp P (ev st.tm) st.h o with
  | some (.val v)=>some (.norm,⟨putT st.tm o.dst v,st.h,st.df⟩)
  | some (.valh v h)=>some (.norm,⟨putT st.tm o.dst v,h,st.df⟩)
  | some (.call f args)=>match call f args st.h with
   | some (.ret v,h)=>some (.norm,⟨putT st.tm o.dst v,h,st.df⟩)
   | some (.pan v,h)=>some (.pan v,⟨st.tm,h,st.df⟩)
   | none=>none
  | _=>none
noncomputable def zdq (P:Program) (call:zba) (ops:Array Oper):List Oper → St → Option (Ex × St)
 | [],st=>some (.norm,st)
 | o::rest,st=>match zbf ops o st.tm with
  | some true=>match zgu P call o st with
   | some (.norm,st')=>zdq P call ops rest st'
   | r=>r
  | some false=>zdq P call ops rest ⟨putT st.tm o.dst (.tup []),st.h,st.df⟩
  | none=>none
def zp2 (body:St → Option (Ex × St)):Nat → St → Option (Ex × St)
 | 0,_=>none
 | n+1,st=>match body st with
  | some (.norm,st')=>zp2 body n st'
  | r=>r
noncomputable def zbc (P:Program) (call:zba) (draw:Array Oper → St → Option (Ex × St)) (n:Nat):Code → St → Option (Ex × St)
 | .skip,st=>some (.norm,st)
 | .region _ ops d,st=>if d then draw ops st else zdq P call ops ops.toList st
 | .seq a b,st=>match zbc P call draw n a st with
  | some (.norm,st')=>zbc P call draw n b st'
  | r=>r
 | .cond c x y,st=>match ev st.tm c with
  | some (.bool b)=>if b then zbc P call draw n x st else zbc P call draw n y st
  | _=>none
 | .block id c,st=>match zbc P call draw n c st with
  | some (.exit i,st')=>if i=id then some (.norm,st') else some (.exit i,st')
  | r=>r
 | .loop c,st=>zp2 (zbc P call draw n c) n st
 | .exit id,st=>some (.exit id,st)
 | .ret,st=>some (.ret,st)
 | .rangeFunc g ps asg body,st=>match ev st.tm g with
  | some (.fn (.func gf) x lb)=>if fnOk P gf then
    match call gf (x++[.fn (.yield (st.h.length+1)) [] []]++lb) ((st.h++[.dfd])++[.loop false st.tm ps asg body st.h.length]) with
    | some (.ret _,h')=>match h'[st.h.length+1]? with
     | some (.loop false _ _ _ _ _)=>some (.norm,⟨st.tm,h'.set (st.h.length+1) .dead,.col st.h.length::st.df⟩)
     | _=>none
    | some (.pan v,h')=>some (.pan v,⟨st.tm,h',.col st.h.length::st.df⟩)
    | none=>none
   else none
  | _=>none
 | _,_=>none
def zgm (o:Oper):Bool:=match o.op with
 | .defer _=>false
 | _=>true
def zcb:Code → Bool
 | .region _ ops _=>ops.toList.all zgm
 | .seq a b=>zcb a&&zcb b
 | .cond _ a b=>zcb a&&zcb b
 | .block _ c=>zcb c
 | .loop c=>zcb c
 | .rangeFunc _ _ _ _=>false
 | _=>true
noncomputable def resA (P:Program) (tm:Tm) (h:zaa):List ResultVar → Option (List AV)
 | []=>some []
 | .tmp t::r=>(resA P tm h r).map (tm.get t::·)
 | .cell a t::r=>match zbv P h t (tm.get a),resA P tm h r with
  | some v,some vs=>some (v::vs)
  | _,_=>none
noncomputable def retA (P:Program) (fn:Func) (tm:Tm) (h:zaa):Option AV :=
 match resA P tm h fn.results.toList with
 | some [v]=>some v
 | some vs=>some (.tup vs)
 | none=>none
def zpn:Md → Md
 | .pan _ true=>.ret
 | m=>m
noncomputable def zcd (fn:Func) (args:List AV):Tm:=Tm.setL args 0 (Tm.new (args.length+(fn.ntmps-args.length)))
def zff (ops:Array Oper):Option (Option Tmp × List Oper) :=
 match ops.toList with
 | o::rest=>match o.op,o.guard with
  | .call { callee:=.builtin .recover,.. },none=>some (o.dst,rest)
  | _,_=>none
 | _=>none
noncomputable def runV (P:Program) (ops:Array Oper):List Oper → St → Option St
 | [],st=>some st
 | o::rest,st=>match zbf ops o st.tm with
  | some true=>match exOp P (ev st.tm) st.h o with
   | some (.val v)=>runV P ops rest ⟨putT st.tm o.dst v,st.h,st.df⟩
   | some (.valh v h)=>runV P ops rest ⟨putT st.tm o.dst v,h,st.df⟩
   | _=>none
  | some false=>runV P ops rest ⟨putT st.tm o.dst (.tup []),st.h,st.df⟩
  | none=>none
noncomputable def ztm (P:Program) (call:zba) (draw:Array Oper → St → Option (Ex × St)) (n:Nat) (ops:Array Oper) (more:List Oper) (rest:Code) (st:St):Option (Ex × St) :=
 match runV P ops more st with
 | some st'=>zbc P call draw n rest st'
 | none=>none
noncomputable def zfk (P:Program) (fn:Func) (u':Md) (r:Option (Ex × St)):Option (Md × zaa):=match r with
 | some (.norm,st) | some (.ret,st)=>if st.df.isEmpty then (match retA P fn st.tm st.h with | some _=>some (u',st.h) | none=>none) else none
 | _=>none
noncomputable def zca (P:Program) (call:zba) (draw:Array Oper → St → Option (Ex × St)) (n:Nat) (f:FuncId) (args:List AV) (u:Md) (h:zaa):Option (Md × zaa) :=
 match P.funcs[f]? with
 | none=>none
 | some fn=>match fn.body with
  | none=>none
  | some c =>
   match c with
   | .seq (.region _ ops false) rest=>match zff ops with
    | some (dst,more)=>match u with
     | .pan v false=>zfk P fn (.pan v true) (ztm P call draw n ops more rest ⟨putT (zcd fn args) dst v,h,[]⟩)
     | u=>zfk P fn u (ztm P call draw n ops more rest ⟨putT (zcd fn args) dst .nili,h,[]⟩)
    | none=>zfk P fn u (zbc P call draw n c ⟨zcd fn args,h,[]⟩)
   | c=>zfk P fn u (zbc P call draw n c ⟨zcd fn args,h,[]⟩)
noncomputable def zcu (P:Program) (call:zba) (draw:Array Oper → St → Option (Ex × St)) (n:Nat) (fn:Func) (tm:Tm):List DI → Md → zaa → Option (CRes × zaa)
 | [],.ret,h=>(retA P fn tm h).map fun v=>(.ret v,h)
 | [],.pan v false,h=>some (.pan v,h)
 | [],.pan _ true,_=>none
 | .fn f args::ds,u,h=>if !fnOk P f then none else match zca P call draw n f args u h with
  | some (u',h')=>zcu P call draw n fn tm ds (zpn u') h'
  | none=>none
 | .col b::ds,u,h=>match h[b]? with
  | some .dfd=>zcu P call draw n fn tm ds u (h.set b .dead)
  | _=>none
noncomputable def zkr (P:Program) (call:zba) (draw:Array Oper → St → Option (Ex × St)) (n:Nat) (b:Nat) (args:List AV) (h:zaa):Option (CRes × zaa) :=
 match h[b]? with
 | some (.loop false tms ps asg body _)=>if ps.size=args.length ∧ zcb asg=true ∧ zcb body=true then
   match zbc P call draw n asg ⟨(ps.toList.zip args).foldl (fun l p=>Tm.set l p.1 p.2) tms,h,[]⟩ with
   | some (.norm,st1)=>match st1.h[b]? with
    | some (.loop false tms1 ps1 asg1 body1 db1) =>
     match zbc P call draw n body ⟨st1.tm,st1.h.set b (.loop true tms1 ps1 asg1 body1 db1),st1.df⟩ with
     | some (.norm,st2)=>match st2.h[b]? with
      | some (.loop _ tms2 ps2 asg2 body2 db2)=>some (.ret (.bool true),st2.h.set b (.loop false tms2 ps2 asg2 body2 db2))
      | _=>none
     | _=>none
    | _=>none
   | _=>none
  else none
 | _=>none
noncomputable def zm6 (P:Program) (call:zba) (draw:Array Oper → St → Option (Ex × St)) (n:Nat) (f:FuncId) (args:List AV) (h:zaa):Option (CRes × zaa) :=
 match P.funcs[f]? with
 | none=>none
 | some fn=>match fn.body with
  | none=>none
  | some c=>match zbc P call draw n c ⟨zcd fn args,h,[]⟩ with
   | some (.norm,st) | some (.ret,st)=>zcu P call draw n fn st.tm st.df .ret st.h
   | some (.pan v,st)=>zcu P call draw n fn st.tm st.df (.pan v false) st.h
   | _=>none
mutual
def AV.pureB:AV → Bool
 | .ptr _ _ _ | .sl _ _ _ _ _ | .map _=>false
 | .pin cs _=>zan cs
 | .lst _ xs _=>zan xs
 | .fn f x y=>!zhs f&&(zan x&&zan y)
 | .ifc _ x=>x.pureB
 | .agg cs=>zan cs
 | .tup cs=>zan cs
 | _=>true
def zan:List AV → Bool
 | []=>true
 | x::xs=>x.pureB&&zan xs
end
structure Cfg where
 inl:FuncId → Bool
 sum:FuncId → List AV → Option AV
 mem:FuncId → List AV → zaa → Option (AV × zaa)
 cold:FuncId → Bool
def DR (S:SM) (m:BM):List DI → List Deferred → Prop
 | [],ds=>ds=[]
 | .fn f args::r,ds=>∃ d ds' cap,ds=d::ds' ∧ d.target=.fn (.func f) cap ∧ VRs S m args (d.args++cap).toList ∧ DR S m r ds'
 | .col b::r,ds=>∃ d ds' B K,ds=d::ds' ∧ d.target=.collected B ∧ m b 0=some (B,K) ∧ DR S m r ds'
theorem DR.mono {S S':SM}{m m':BM}(hS:S.le S') (hm:m.le m'):∀ (l:List DI) {ds:List Deferred},DR S m l ds → DR S' m' l ds
 | [],_,h=>h
 | .fn f args::r,_,h=>by
  obtain ⟨d,ds',cap,h1,h2,h3,h4⟩:=h
  exact ⟨d,ds',cap,h1,h2,h3.mono hS hm,DR.mono hS hm r h4⟩
 | .col b::r,_,h=>by
  obtain ⟨d,ds',B,K,h1,h2,h3,h4⟩:=h
  exact ⟨d,ds',B,K,h1,h2,hm _ _ _ h3,DR.mono hS hm r h4⟩
def exR (S:SM) (m:BM):Ex → Exit → Prop
 | .norm,e=>e=.normal
 | .exit id,e=>e=.exit id
 | .ret,e=>e=.ret
 | .pan v,e=>∃ u,e=.panic [{ v:=u,recovered:=false }] ∧ VR S m v u
structure FR (n₀:Nat) (w₀:World) (S₀ S:SM) (m:BM) (st:St) (a:Act) (w:World):Prop where
 sim:Sim n₀ w₀ S₀ S m st.h w
 tm:TR S m st.tm a.tmps
 df:DR S m st.df a.defers
def QR (n₀:Nat) (w₀:World) (S₀ S:SM) (m:BM) (out:Ex × St):Exit → Act → World → Prop:=fun e a w =>
 ∃ S' m',S.le S' ∧ m.le m' ∧ FR n₀ w₀ S₀ S' m' out.2 a w ∧ exR S' m' out.1 e
def CRes.R (S:SM) (m:BM):CRes → Ending → Prop
 | .ret v,e=>∃ u,e=.returned u ∧ VR S m v u
 | .pan v,e=>∃ u,e=.panicked [{ v:=u,recovered:=false }] ∧ VR S m v u
def CQ (n₀:Nat) (w₀:World) (S₀ S:SM) (m:BM) (r:CRes) (h':zaa):Ending → World → Prop:=fun e w' =>
 ∃ S' m',S.le S' ∧ m.le m' ∧ Sim n₀ w₀ S₀ S' m' h' w' ∧ r.R S' m' e
abbrev FW (r:Option Nat):Fence:={ Fence.wide with round:=r }
theorem zsb {P:Program}{f:FuncId}{vs:Array Value}{w:World}{R:Ending → World → Prop}(h:Calls P f vs w R):∀ (r:Option Nat),CallsIn (FW r) 0 P f vs w R
 | none=>callsIn_wide.2 h
 | some l=>CallsIn.inRound l (callsIn_wide (n:=0).2 h)
def zc1 (P:Program) (call:zba):Prop :=
 (∀ f args h r h',call f args h=some (r,h') → f<P.funcs.size → ∀ n₀ w₀ S₀ S m w (vs:Array Value),Sim n₀ w₀ S₀ S m h w → VRs S m args vs.toList →
  Calls P f vs w (CQ n₀ w₀ S₀ S m r h')) ∧
 (∀ b args h r h',call (P.funcs.size+b) args h=some (r,h') → ∀ n₀ w₀ S₀ S m w (vs:Array Value) B K,m b 0=some (B,K) → Sim n₀ w₀ S₀ S m h w → VRs S m args vs.toList →
  ∃ fn tmps assign body,(Instr.yield B vs).run P w=.ok (.round B fn tmps assign body) w ∧ ∀ rd,RoundIn (FW rd) 0 P B fn tmps assign body w (CQ n₀ w₀ S₀ S m r h'))
def zhf (P:Program) (draw:Array Oper → St → Option (Ex × St)):Prop:=∀ id ops st out,draw ops st=some out → ∀ r,(r=none ∨ ops.toList.all zgm=true) → ∀ n₀ w₀ S₀ S m a w,FR n₀ w₀ S₀ S m st a w →
 (Code.region id ops true).wpIn (FW r) 0 P (QR n₀ w₀ S₀ S m out) a w
section
variable {P:Program}{n₀:Nat}{w₀:World}{S₀ S:SM}{m:BM}{w:World}{call:zba}{draw:Array Oper → St → Option (Ex × St)}{r:Option Nat}
theorem QR.up {S':SM}{m':BM}(hS:S.le S') (hm:m.le m') {out:Ex × St}{e:Exit}{a:Act}(h:QR n₀ w₀ S₀ S' m' out e a w):QR n₀ w₀ S₀ S m out e a w:=by
 obtain ⟨S'',m'',h1,h2,h3,h4⟩:=h
 exact ⟨S'',m'',SM.le_trans hS h1,BM.le_trans hm h2,h3,h4⟩
theorem zq9:VR S m (.tup []) Go.undef:=by unfold VR;exact ⟨#[],rfl,by unfold VRs;rfl⟩
theorem zfz {tm:Tm}{ts:Array Value}(h:TR S m tm ts) (t:Nat):VR S m (tm.get t) (ts.getD t Go.undef):=h.2 t
theorem zg8 {tm:Tm}{a:Act}(h:TR S m tm a.tmps) (x:Operand) (v:AV) (hx:ev tm x=some v):VR S m v (a.eval x):=by
 cases x with
 | tmp t=>simp only [ev,Option.some.injEq] at hx;subst hx;exact zfz h t
 | const c=>exact zn3 hx
 | global g=>cases hx
 | func f =>
  simp only [ev,Option.some.injEq] at hx;subst hx
  show VR S m _ (.func (.func f) #[] #[])
  unfold VR
  exact ⟨#[],#[],⟨_,rfl,rfl⟩,by unfold VRs;rfl,by unfold VRs;rfl⟩
theorem zi8 {tm:Tm}{a:Act}(h:TR S m tm a.tmps) (dst:Option Tmp) {x:AV}{v:Value}(hx:VR S m x v):TR S m (putT tm dst x) (a.put dst v).tmps:=by
 cases dst with
 | none=>exact h
 | some d=>exact h.set d hx
theorem zhl (a:Act) (dst:Option Tmp) (v:Value):(a.put dst v).defers=a.defers:=by cases dst<;>rfl
theorem FR.put {S':SM}{m':BM}{st:St}{a:Act}(f:FR n₀ w₀ S₀ S m st a w) (hS:S.le S') (hm:m.le m') {h':zaa}{w':World}(s':Sim n₀ w₀ S₀ S' m' h' w') (dst:Option Tmp) {x:AV}{v:Value}(hx:VR S' m' x v) :
  FR n₀ w₀ S₀ S' m' ⟨putT st.tm dst x,h',st.df⟩ (a.put dst v) w' :=
 ⟨s',zi8 (f.tm.mono hS hm) dst hx,by rw [zhl];exact f.df.mono hS hm⟩
theorem zej {ops:Array Oper}{o:Oper}{tm:Tm}{ts:Array Value}{b:Bool}(h:TR S m tm ts) (hg:zbf ops o tm=some b):Region.wanted o (yielded ops ts)=b:=by
 unfold zbf at hg
 unfold Region.wanted
 cases ho:o.guard with
 | none=>rw [ho] at hg;cases hg;rfl
 | some p =>
  obtain ⟨j,want⟩:=p
  rw [ho] at hg
  simp only at hg ⊢
  unfold yielded
  cases hd:(ops[j]?).bind (·.dst) with
  | none=>simp [hd] at hg
  | some d =>
   simp only [hd] at hg
   have hv:=h.2 d
   split at hg
   ·rename_i c hc
    cases hg
    rw [hc] at hv
    unfold VR at hv
    have hlt:d<ts.size:=by
     rcases Nat.lt_or_ge d ts.size with q | q
     ·exact q
     ·rw [show ts.getD d (.tuple #[])=.tuple #[] by simp [Array.getD,Nat.not_lt.2 q]] at hv;cases hv
    have g1':ts[d]?=some (.bool c):=by
     rw [Array.getElem?_eq_getElem hlt]
     simp only [Array.getD,hlt,dif_pos] at hv
     exact congrArg some hv
    simp only [Option.bind_some,g1']
    cases c<;>cases want<;>rfl
   ·rename_i hc
    cases hg
    rw [hc] at hv
    unfold VR at hv
    obtain ⟨vs,e,g3⟩:=hv
    rcases Nat.lt_or_ge d ts.size with q | q
    ·have g1':ts[d]?=some (.tuple vs):=by
      rw [Array.getElem?_eq_getElem q]
      simp only [Array.getD,q,dif_pos] at e
      exact congrArg some e
     simp only [Option.bind_some,g1']
     rfl
    ·rw [Option.bind_some,Array.getElem?_eq_none q];rfl
   ·cases hg
theorem zfs (hcall:zc1 P call) {o:Oper}{st:St}{out:Ex × St}(hs:zgu P call o st=some out) {a:Act}(f:FR n₀ w₀ S₀ S m st a w)
  {next:Act → World → Prop}{Q:Exit → Act → World → Prop}(hn:∀ S' m' st' a' w',out=(.norm,st') → S.le S' → m.le m' → FR n₀ w₀ S₀ S' m' st' a' w' → next a' w')
  (hp:∀ S' m' v st' u w',out=(.pan v,st') → S.le S' → m.le m' → FR n₀ w₀ S₀ S' m' st' a w' → VR S' m' v u → Q (.panic [{ v:=u,recovered:=false }]) a w') (hcalm:r=none ∨ zgm o=true):o.wpIn (FW r) 0 P a w next Q:=by
 refine ⟨fun _ _=>trivial,?_⟩
 have hsem:o.semAt (FW r).round a.eval=execOp a.eval o:=by
  rcases hcalm with rfl | hc
  ·rfl
  ·exact Oper.semAt_eq _ _ _ fun c e=>by simp [zgm,e] at hc
 rw [hsem]
 have hρ:=fun x v hx=>zg8 f.tm x v hx
 unfold zgu at hs
 split at hs
 ·rename_i c hop
  split at hs
  ·rename_i d hd
   cases hs
   unfold dfr at hd
   split at hd
   ·rename_i fo args hc ha
    split at hd
    ·rename_i g x y hx
     split at hd
     ·rename_i hok
      cases hd
      have va:=zd1 hρ ha
      have vx:=hρ _ _ hx
      unfold VR at vx
      obtain ⟨x',y',⟨f',e,hf'⟩,h1,h2⟩:=vx
      have hf'':=(zb5 rfl).1 hf';subst hf''
      have hrun:(execOp a.eval o).run P w=.ok (.defer { target:=.fn (.func g) y',args:=x'++c.args.map a.eval }) w:=by
       simp [execOp,hop,resolve,hc,e,Deferred.ofValue]
      rw [hrun]
      refine hn S m _ _ w rfl (SM.le_refl _) (BM.le_refl _) ⟨f.sim,zi8 (a:={ a with defers:={ target:=.fn (.func g) y',args:=x'++c.args.map a.eval }::a.defers }) f.tm o.dst zq9,?_⟩
      rw [zhl]
      exact ⟨_,_,_,rfl,rfl,by simpa using (h1.append va).append h2,f.df⟩
     ·cases hd
    ·cases hd
   ·cases hd
  ·cases hs
 ·rename_i x hop
  split at hs
  ·rename_i t v hx
   cases hs
   have vx:=hρ _ _ hx
   have h0:=vx
   unfold VR at h0
   obtain ⟨u,e,hu⟩:=h0
   have hrun:(execOp a.eval o).run P w=.halt (.panic (.iface t u)) w:=by
    simp [execOp,hop,e,Instr.panic]
   rw [hrun]
   rw [e] at vx
   exact hp S m _ _ _ w rfl (SM.le_refl _) (BM.le_refl _) f vx
  ·cases hs
 ·split at hs
  ·rename_i v hv
   cases hs
   obtain ⟨nx,u,w',S',m',e1,e2,e3,e4,e5,e6⟩:=zd8 (P:=P) f.sim hρ hv
   rw [e1]
   rcases e2 with rfl | ⟨rfl,rfl⟩
   ·exact hn S' m' _ _ w' rfl e3 e4 (f.put e3 e4 e6 o.dst e5)
   ·exact hn S' m' _ _ w' rfl e3 e4 (f.put e3 e4 e6 o.dst e5)
  ·rename_i v h' hv
   cases hs
   obtain ⟨nx,u,w',S',m',e1,e2,e3,e4,e5,e6⟩:=zd8 (P:=P) f.sim hρ hv
   rw [e1]
   rcases e2 with rfl | ⟨rfl,rfl⟩
   ·exact hn S' m' _ _ w' rfl e3 e4 (f.put e3 e4 e6 o.dst e5)
   ·exact hn S' m' _ _ w' rfl e3 e4 (f.put e3 e4 e6 o.dst e5)
  ·rename_i g args hv
   obtain ⟨vs,e1,e2⟩:=zd8 (P:=P) f.sim hρ hv
   have key:∀ rr h',call g args st.h=some (rr,h') → (∀ e w',CQ n₀ w₀ S₀ S m rr h' e w' → (match e with | .returned v=>next (a.put o.dst v) w' | .panicked chain=>Q (.panic chain) a w' | .outgrown=>LetsOut Q)) →
     o.uponIn (FW r) 0 P a next Q ((execOp a.eval o).run P w):=fun rr h' hc hq=>by
    rcases e1 with ⟨hlt,e1⟩ | ⟨b,B,K,rfl,hB,e1⟩
    ·rw [e1]
     exact ⟨fun h=>(by cases h),(zsb (hcall.1 g args _ _ _ hc hlt _ _ _ _ _ _ vs f.sim e2) r).mono fun e w' he=>by have:=hq e w' he;cases e<;>exact this⟩
    ·rw [e1]
     obtain ⟨fn,ts,asg,body,e3,e4⟩:=hcall.2 b args _ _ _ hc _ _ _ _ _ _ vs B K hB f.sim e2
     rw [e3]
     exact ⟨fun h=>(by cases h),(e4 r).mono fun e w' he=>by have:=hq e w' he;cases e<;>exact this⟩
   split at hs
   ·rename_i v h' hc
    cases hs
    refine key _ _ hc fun e w' he=>?_
    obtain ⟨S',m',g1,g2,g3,u,rfl,g4⟩:=he
    exact hn S' m' _ _ w' rfl g1 g2 (f.put g1 g2 g3 o.dst g4)
   ·rename_i v h' hc
    cases hs
    refine key _ _ hc fun e w' he=>?_
    obtain ⟨S',m',g1,g2,g3,u,rfl,g4⟩:=he
    exact hp S' m' _ _ _ w' rfl g1 g2 ⟨g3,f.tm.mono g1 g2,f.df.mono g1 g2⟩ g4
   ·cases hs
  ·cases hs
theorem ze2 (hcall:zc1 P call) {ops:Array Oper}{Sb:SM}{mb:BM}:∀ {l:List Oper}{st:St}{out:Ex × St},zdq P call ops l st=some out → ∀ {S:SM}{m:BM}{a:Act}{w:World},Sb.le S → mb.le m → FR n₀ w₀ S₀ S m st a w → (r=none ∨ l.all zgm=true) → ∀ (k:Nat),(∀ j,l[j]?=ops[k+j]?) →
  wpOpsIn (FW r) 0 P ops (QR n₀ w₀ S₀ Sb mb out) (List.range' k l.length) a w
 | [],st,out,hr,S,m,a,w,hS,hm,f,hcm,k,hk=>by
  unfold zdq at hr;cases hr
  exact ⟨S,m,hS,hm,f,rfl⟩
 | o::l,st,out,hr,S,m,a,w,hS,hm,f,hcm,k,hk=>by
  have hc1:r=none ∨ zgm o=true:=hcm.imp (fun e=>e) fun h=>by simp at h;exact h.1
  have hc2:r=none ∨ l.all zgm=true:=hcm.imp (fun e=>e) fun h=>by simp at h ⊢;exact h.2
  have h0:ops[k]?=some o:=by simpa using (hk 0).symm
  have hk':∀ j,l[j]?=ops[k+1+j]?:=fun j=>by have:=hk (j+1);simpa [Nat.add_assoc,Nat.add_comm 1 j] using this
  simp only [List.length_cons,List.range'_succ,wpOpsIn,h0]
  unfold zdq at hr
  split at hr
  ·rename_i hg
   rw [zej f.tm hg,if_pos rfl]
   split at hr
   ·rename_i st' hst
    refine zfs hcall hst f (fun S' m' st'' a' w' e h1 h2 f'=>?_) (fun S' m' v st'' u w' e=>by cases e) hc1
    cases e
    exact ze2 hcall hr (SM.le_trans hS h1) (BM.le_trans hm h2) f' hc2 (k+1) hk'
   ·rename_i hnn
    refine zfs hcall hr f (fun S' m' st'' a' w' e h1 h2 f'=>by subst e;exact (hnn _ hr).elim) (fun S' m' v st'' u w' e h1 h2 f' hu=>?_) hc1
    subst e
    exact ⟨S',m',SM.le_trans hS h1,BM.le_trans hm h2,f',u,rfl,hu⟩
  ·rename_i hg
   rw [zej f.tm hg]
   simp only [Bool.false_eq_true,if_false]
   have f':FR n₀ w₀ S₀ S m ⟨putT st.tm o.dst (.tup []),st.h,st.df⟩ (a.put o.dst Go.undef) w:=f.put (SM.le_refl _) (BM.le_refl _) f.sim o.dst zq9
   exact ⟨fun _ _=>trivial,ze2 hcall hr hS hm f' hc2 (k+1) hk'⟩
  ·cases hr
theorem zle {c:Code}{ev:St → Option (Ex × St)}(hc:∀ {st:St}{out:Ex × St},ev st=some out → ∀ {S:SM}{m:BM}{a:Act}{w:World},FR n₀ w₀ S₀ S m st a w → c.wpIn (FW r) 0 P (QR n₀ w₀ S₀ S m out) a w) {Sb:SM}{mb:BM} :
  ∀ (k:Nat) {st:St}{out:Ex × St},zp2 ev k st=some out → ∀ {S:SM}{m:BM}{a:Act}{w:World},Sb.le S → mb.le m → FR n₀ w₀ S₀ S m st a w → Code.roundsIn (FW r) 0 P c (QR n₀ w₀ S₀ Sb mb out) k a w
 | 0,st,out,hr,S,m,a,w,hS,hm,f=>by unfold zp2 at hr;cases hr
 | k+1,st,out,hr,S,m,a,w,hS,hm,f=>by
  unfold zp2 at hr
  rw [roundsIn_succ]
  split at hr
  ·rename_i st' hx
   refine wpIn_mono (hc hx f) fun e a' w' hq=>?_
   obtain ⟨S',m',h1,h2,f',he⟩:=hq
   change e=.normal at he;subst he
   exact zle hc k hr (SM.le_trans hS h1) (BM.le_trans hm h2) f'
  ·rename_i hnn
   refine wpIn_mono (hc hr f) fun e a' w' hq=>?_
   obtain ⟨S',m',h1,h2,f',he⟩:=hq
   obtain ⟨ex,st'⟩:=out
   have h1':=SM.le_trans hS h1
   have h2':=BM.le_trans hm h2
   cases ex with
   | norm=>exact (hnn st' hr).elim
   | exit id=>change e=.exit id at he;subst he;exact ⟨S',m',h1',h2',f',rfl⟩
   | ret=>change e=.ret at he;subst he;exact ⟨S',m',h1',h2',f',rfl⟩
   | pan v=>obtain ⟨u,he,hv⟩:=he;subst he;exact ⟨S',m',h1',h2',f',u,rfl,hv⟩
theorem za5 (hcall:zc1 P call) (hdraw:zhf P draw) (n:Nat):∀ (c:Code) {st:St}{out:Ex × St},zbc P call draw n c st=some out → ∀ {S:SM}{m:BM}{a:Act}{w:World},FR n₀ w₀ S₀ S m st a w → (r=none ∨ zcb c=true) →
  c.wpIn (FW r) 0 P (QR n₀ w₀ S₀ S m out) a w
 | .skip,st,out,hr,S,m,a,w,f,hcm=>by
  unfold zbc at hr;cases hr
  exact wpIn_skip ⟨S,m,SM.le_refl _,BM.le_refl _,f,rfl⟩
 | .region id ops d,st,out,hr,S,m,a,w,f,hcm=>by
  unfold zbc at hr
  cases d with
  | true=>exact hdraw id ops st out (by simpa using hr) r (by simpa [zcb] using hcm) _ _ _ _ _ _ _ f
  | false =>
   simp only [Bool.false_eq_true,if_false] at hr
   refine wpIn_region ?_
   have:=ze2 hcall hr (SM.le_refl S) (BM.le_refl m) f (by simpa [zcb] using hcm) 0 (by simp)
   rw [List.range_eq_range']
   simpa using this
 | .seq x y,st,out,hr,S,m,a,w,f,hcm=>by
  have hc1:r=none ∨ zcb x=true:=hcm.imp (fun e=>e) fun h=>by simp [zcb] at h;exact h.1
  have hc2:r=none ∨ zcb y=true:=hcm.imp (fun e=>e) fun h=>by simp [zcb] at h;exact h.2
  unfold zbc at hr
  refine wpIn_seq ?_
  split at hr
  ·rename_i st' hx
   refine wpIn_mono (za5 hcall hdraw n x hx f hc1) fun e a' w' hq=>?_
   obtain ⟨S',m',h1,h2,f',he⟩:=hq
   change e=.normal at he
   subst he
   exact wpIn_mono (za5 hcall hdraw n y hr f' hc2) fun e a'' w'' hq=>hq.up h1 h2
  ·rename_i hnn
   refine wpIn_mono (za5 hcall hdraw n x hr f hc1) fun e a' w' hq=>?_
   obtain ⟨S',m',h1,h2,f',he⟩:=hq
   obtain ⟨ex,st'⟩:=out
   cases ex with
   | norm=>exact (hnn st' hr).elim
   | exit id=>change e=.exit id at he;subst he;exact ⟨S',m',h1,h2,f',rfl⟩
   | ret=>change e=.ret at he;subst he;exact ⟨S',m',h1,h2,f',rfl⟩
   | pan v=>obtain ⟨u,he,hv⟩:=he;subst he;exact ⟨S',m',h1,h2,f',u,rfl,hv⟩
 | .cond c x y,st,out,hr,S,m,a,w,f,hcm=>by
  have hc1:r=none ∨ zcb x=true:=hcm.imp (fun e=>e) fun h=>by simp [zcb] at h;exact h.1
  have hc2:r=none ∨ zcb y=true:=hcm.imp (fun e=>e) fun h=>by simp [zcb] at h;exact h.2
  unfold zbc at hr
  split at hr
  ·rename_i b hb
   have hv:=zg8 f.tm _ _ hb
   unfold VR at hv
   refine wpIn_cond hv ?_
   cases b with
   | true=>exact za5 hcall hdraw n x (by simpa using hr) f hc1
   | false=>exact za5 hcall hdraw n y (by simpa using hr) f hc2
  ·cases hr
 | .block id c,st,out,hr,S,m,a,w,f,hcm=>by
  have hc1:r=none ∨ zcb c=true:=hcm.imp (fun e=>e) fun h=>by simpa [zcb] using h
  unfold zbc at hr
  refine wpIn_block ?_
  split at hr
  ·rename_i i st' hx
   refine wpIn_mono (za5 hcall hdraw n c hx f hc1) fun e a' w' hq=>?_
   obtain ⟨S',m',h1,h2,f',he⟩:=hq
   change e=.exit i at he;subst he
   simp only [Exit.inBlock]
   split at hr
   ·rename_i e;cases hr;rw [if_pos e];exact ⟨S',m',h1,h2,f',rfl⟩
   ·rename_i e;cases hr;rw [if_neg e];exact ⟨S',m',h1,h2,f',rfl⟩
  ·rename_i hnn
   refine wpIn_mono (za5 hcall hdraw n c hr f hc1) fun e a' w' hq=>?_
   obtain ⟨S',m',h1,h2,f',he⟩:=hq
   obtain ⟨ex,st'⟩:=out
   cases ex with
   | norm=>change e=.normal at he;subst he;exact ⟨S',m',h1,h2,f',rfl⟩
   | exit id=>exact (hnn _ _ hr).elim
   | ret=>change e=.ret at he;subst he;exact ⟨S',m',h1,h2,f',rfl⟩
   | pan v=>obtain ⟨u,he,hv⟩:=he;subst he;exact ⟨S',m',h1,h2,f',u,rfl,hv⟩
 | .loop c,st,out,hr,S,m,a,w,f,hcm=>by
  have hc1:r=none ∨ zcb c=true:=hcm.imp (fun e=>e) fun h=>by simpa [zcb] using h
  unfold zbc at hr
  have hc:=fun {st:St}{out:Ex × St}(h:zbc P call draw n c st=some out) {S:SM}{m:BM}{a:Act}{w:World}(f:FR n₀ w₀ S₀ S m st a w)=>za5 hcall hdraw n c h f hc1
  exact wpIn_loop_rounds n (zle hc n hr (SM.le_refl S) (BM.le_refl m) f)
 | .exit id,st,out,hr,S,m,a,w,f,hcm=>by
  unfold zbc at hr;cases hr
  exact wpIn_exit ⟨S,m,SM.le_refl _,BM.le_refl _,f,rfl⟩
 | .ret,st,out,hr,S,m,a,w,f,hcm=>by
  unfold zbc at hr;cases hr
  exact wpIn_ret ⟨S,m,SM.le_refl _,BM.le_refl _,f,rfl⟩
 | .rangeFunc g ps asg body,st,out,hr,S,m,a,w,f,hcm=>by
  have hr0:r=none:=hcm.resolve_right (by simp [zcb])
  subst hr0
  unfold zbc at hr
  split at hr
  ·rename_i gf x lb hg
   split at hr
   ·rename_i hok
    have vg:=zg8 f.tm _ _ hg
    unfold VR at vg
    obtain ⟨x',y',⟨f',e,hf'⟩,h1,h2⟩:=vg
    have hf'':=(zb5 rfl).1 hf';subst hf''
    refine wpIn_rangeFunc fun fn _=>?_
    obtain ⟨k1,s1⟩:=f.sim.push .dfd (.deferred (some [])) 0 rfl ⟨w.heap.size,0,BM.put_eq _ _ _ _,f.sim.size,by simp,f.sim.none (Nat.le_refl _),fun v hv=>by
     rw [BM.put_ne' _ _ (by omega)]
     cases e:m st.h.length v with
     | none=>rfl
     | some x=>exact absurd (f.sim.lt _ _ _ e) (by omega)⟩
    have hl1:(st.h++[AB.dfd]).length=st.h.length+1:=by simp
    have hw1:(w.alloc (.deferred (some []))).heap.size=w.heap.size+1:=World.size_alloc _ _
    obtain ⟨k2,s2⟩:=s1.push (.loop false st.tm ps asg body st.h.length) (.loop { state:=.ready,pending:=none,fn,tmps:=a.tmps,params:=ps,assign:=asg,body,defers:=w.heap.size }) 0 rfl
     ⟨_,0,w.heap.size,fn,a.tmps,BM.put_eq _ _ _ _,s1.size,by simp only [Array.getElem?_push,if_true];rfl,f.tm.mono (SM.le_refl _) (BM.le_trans k1 (fun b v y hy=>by
      have:=s1.lt b v y hy
      rw [BM.put_ne _ _ (by omega)];exact hy)),s1.none (Nat.le_refl _),fun v hv=>by
     rw [BM.put_ne' _ _ (by omega)]
     cases e:(m.put st.h.length 0 (w.heap.size,0)) (st.h++[AB.dfd]).length v with
     | none=>rfl
     | some x=>exact absurd (s1.lt _ _ _ e) (by omega)⟩
    have k12:=BM.le_trans k1 k2
    obtain ⟨w2,hw2⟩ : ∃ w2,(w.alloc (.deferred (some []))).alloc (.loop { state:=.ready,pending:=none,fn,tmps:=a.tmps,params:=ps,assign:=asg,body,defers:=w.heap.size })=w2:=⟨_,rfl⟩
    have s2':Sim n₀ w₀ S₀ S ((m.put st.h.length 0 (w.heap.size,0)).put (st.h++[AB.dfd]).length 0 ((w.alloc (.deferred (some []))).heap.size,0)) ((st.h++[.dfd])++[.loop false st.tm ps asg body st.h.length]) w2:=hw2 ▸ s2
    refine ⟨w.heap.size+1,[{ target:=.collected w.heap.size,args:=#[] }],w2,{ target:=.fn (.func gf) y',args:=x'++#[.func (.yield (w.heap.size+1)) #[] #[]] },w2,gf,x'++#[.func (.yield (w.heap.size+1)) #[] #[]]++y',w2,?_,?_,?_,?_,?_,?_⟩
    ·rw [← hw2];exact run_enterLoop_outer fn a.tmps ps asg body
    ·have hc0:a.eval (.const (Value.func (.yield (w.heap.size+1)) #[] #[]))=Value.func (.yield (w.heap.size+1)) #[] #[]:=rfl
     simp [resolve,rangeCall,e,Deferred.ofValue,hc0]
    ·exact fun _ _=>trivial
    ·simp only [invoke]
     exact zln hok _
    ·exact fun h=>(by cases h)
    ·have hy:VRs S ((m.put st.h.length 0 (w.heap.size,0)).put (st.h++[AB.dfd]).length 0 ((w.alloc (.deferred (some []))).heap.size,0)) (x++[.fn (.yield (st.h.length+1)) [] []]++lb) (x'++#[Value.func (.yield (w.heap.size+1)) #[] #[]]++y').toList:=by
      have hone:VRs S ((m.put st.h.length 0 (w.heap.size,0)).put (st.h++[AB.dfd]).length 0 ((w.alloc (.deferred (some []))).heap.size,0)) [AV.fn (.yield (st.h.length+1)) [] []] [Value.func (.yield (w.heap.size+1)) #[] #[]]:=by
       unfold VRs
       refine ⟨_,_,rfl,?_,by unfold VRs;rfl⟩
       unfold VR
       exact ⟨#[],#[],⟨_,rfl,w.heap.size+1,0,by rw [← hl1,← hw1];exact BM.put_eq _ _ _ _,rfl⟩,by unfold VRs;rfl,by unfold VRs;rfl⟩
      simpa using ((h1.mono (SM.le_refl _) k12).append hone).append (h2.mono (SM.le_refl _) k12)
     have post:∀ rr h',call gf (x++[.fn (.yield (st.h.length+1)) [] []]++lb) ((st.h++[.dfd])++[.loop false st.tm ps asg body st.h.length])=some (rr,h') →
       (∀ e w',CQ n₀ w₀ S₀ S ((m.put st.h.length 0 (w.heap.size,0)).put (st.h++[AB.dfd]).length 0 ((w.alloc (.deferred (some []))).heap.size,0)) rr h' e w' → rangePost (FW none) 0 P (w.heap.size+1) (QR n₀ w₀ S₀ S m out) { a with defers:=[{ target:=.collected w.heap.size,args:=#[] }]++a.defers } e w') →
       CallsIn (FW none) (0-1) P gf (x'++#[.func (.yield (w.heap.size+1)) #[] #[]]++y') w2 (rangePost (FW none) 0 P (w.heap.size+1) (QR n₀ w₀ S₀ S m out) { a with defers:=[{ target:=.collected w.heap.size,args:=#[] }]++a.defers }):=fun rr h' hc hq =>
      (zsb (hcall.1 gf _ _ _ _ hc (zqe hok) _ _ _ _ _ _ _ s2' hy) none).mono hq
     have hmb:∀ {m':BM},((m.put st.h.length 0 (w.heap.size,0)).put (st.h++[AB.dfd]).length 0 ((w.alloc (.deferred (some []))).heap.size,0)).le m' → m' st.h.length 0=some (w.heap.size,0) ∧ m' (st.h.length+1) 0=some (w.heap.size+1,0):=fun {m'} hm'=>by
      refine ⟨hm' _ _ _ (by rw [BM.put_ne _ _ (by omega)];exact BM.put_eq _ _ _ _),hm' _ _ _ (by rw [← hl1,← hw1];exact BM.put_eq _ _ _ _)⟩
     split at hr
     ·rename_i v h' hc
      split at hr
      ·rename_i tms2 ps2 asg2 body2 db2 hlp
       cases hr
       refine post _ _ hc fun e w' he=>?_
       obtain ⟨S',m',g1,g2,g3,u,rfl,g4⟩:=he
       obtain ⟨q1,q2⟩:=hmb g2
       obtain ⟨B,K,D,fn2,ts2,a1,a2,a3,a4,a5,a6⟩:=g3.blk _ _ hlp
       rw [q2] at a1;cases a1
       refine ⟨none,_,run_endLoop a3 (by simp),?_⟩
       have s3:=g3.turn hlp rfl q2 .dead (.loop { state:=.exhausted,pending:=none,fn:=fn2,tmps:=ts2,params:=ps2,assign:=asg2,body:=body2,defers:=D }) (fun _ h=>by cases h) a5 trivial
       exact ⟨S',m',g1,BM.le_trans k12 g2,⟨s3,f.tm.mono g1 (BM.le_trans k12 g2),⟨_,_,_,_,rfl,rfl,q1,f.df.mono g1 (BM.le_trans k12 g2)⟩⟩,rfl⟩
      ·cases hr
     ·rename_i v h' hc
      cases hr
      refine post _ _ hc fun e w' he=>?_
      obtain ⟨S',m',g1,g2,g3,u,rfl,g4⟩:=he
      obtain ⟨q1,q2⟩:=hmb g2
      exact ⟨S',m',g1,BM.le_trans k12 g2,⟨g3,f.tm.mono g1 (BM.le_trans k12 g2),⟨_,_,_,_,rfl,rfl,q1,f.df.mono g1 (BM.le_trans k12 g2)⟩⟩,u,rfl,g4⟩
     ·cases hr
   ·cases hr
  ·cases hr
 | .scope _,st,out,hr,S,m,a,w,f,hcm=>by unfold zbc at hr;cases hr
 | .label _,st,out,hr,S,m,a,w,f,hcm=>by unfold zbc at hr;cases hr
 | .goto _,st,out,hr,S,m,a,w,f,hcm=>by unfold zbc at hr;cases hr
 | .refuse _,st,out,hr,S,m,a,w,f,hcm=>by unfold zbc at hr;cases hr
def zri (ts:Array Value):ResultVar → Sem Value
 | .tmp t=>pure (ts.getD t Go.undef)
 | .cell a t=>do loadVar t (← asAddr (ts.getD a Go.undef))
theorem zst (fn:Func) (ts:Array Value):results fn ts=(do let vs ← fn.results.mapM (zri ts);pure (if h:vs.size=1 then vs[0] else .tuple vs)):=rfl
theorem zgz {tm:Tm}{ts:Array Value}{h:zaa}(s:Sim n₀ w₀ S₀ S m h w) (hv:TR S m tm ts):∀ {l:List ResultVar}{vs:List AV},resA P tm h l=some vs →
  ∃ us:List Value,(l.mapM (zri ts)).run P w=.ok us w ∧ VRs S m vs us
 | [],vs,hr=>by unfold resA at hr;cases hr;exact ⟨[],rfl,by unfold VRs;rfl⟩
 | .tmp t::r,vs,hr=>by
  unfold resA at hr
  cases hx:resA P tm h r with
  | none=>simp [hx] at hr
  | some vs' =>
   simp only [hx,Option.map_some,Option.some.injEq] at hr
   subst hr
   obtain ⟨us,h1,h2⟩:=zgz s hv hx
   refine ⟨ts.getD t Go.undef::us,?_,by unfold VRs;exact ⟨_,_,rfl,zfz hv t,h2⟩⟩
   rw [List.mapM_cons]
   simp only [Sem.run_bind,zri,Sem.run_pure,Result.andThen_ok,h1]
 | .cell a t::r,vs,hr=>by
  unfold resA at hr
  split at hr
  ·rename_i v vs' hl hx
   cases hr
   obtain ⟨us,h1,h2⟩:=zgz s hv hx
   obtain ⟨u,g1,g2⟩:=zlf (P:=P) s hl (zfz hv a)
   refine ⟨u::us,?_,by unfold VRs;exact ⟨_,_,rfl,g2,h2⟩⟩
   have g1':(zri ts (.cell a t)).run P w=.ok u w:=by
    have h0:=zfz hv a
    unfold zbv at hl
    show (do loadVar t (← asAddr (ts.getD a Go.undef)):Sem Value).run P w=.ok u w
    cases hp:tm.get a<;>rw [hp] at hl<;>simp only at hl<;>first | (cases hl;done) | skip
    all_goals
     rw [hp] at h0
     unfold VR at h0
    ·obtain ⟨B,K,_,e⟩:=h0
     rw [e] at g1 ⊢
     simpa [Instr.loadAt,Instr.sureAddr,asAddr] using g1
    ·obtain ⟨B,q,e,_⟩:=h0
     rw [e] at g1 ⊢
     simpa [Instr.loadAt,Instr.sureAddr,asAddr] using g1
   rw [List.mapM_cons]
   simp only [Sem.run_bind,g1',Sem.run_pure,Result.andThen_ok,h1]
  ·cases hr
theorem zi4 {fn:Func}{tm:Tm}{ts:Array Value}{h:zaa}(s:Sim n₀ w₀ S₀ S m h w) (hv:TR S m tm ts) {v:AV}(hr:retA P fn tm h=some v):∃ u,(results fn ts).run P w=.ok u w ∧ VR S m v u:=by
 unfold retA at hr
 rw [zst,Array.mapM_eq_mapM_toList]
 split at hr
 ·rename_i v' hx
  cases hr
  obtain ⟨us,h1,h2⟩:=zgz s hv hx
  unfold VRs at h2
  obtain ⟨u,us',rfl,h3,h4⟩:=h2
  unfold VRs at h4
  subst h4
  refine ⟨u,?_,h3⟩
  simp only [Sem.run_bind,Sem.run_map,h1,Result.andThen_ok]
  simp
 ·rename_i vs hnn hx
  cases hr
  obtain ⟨us,h1,h2⟩:=zgz s hv hx
  refine ⟨.tuple us.toArray,?_,by unfold VR;exact ⟨_,rfl,by simpa using h2⟩⟩
  have hl:=h2.length
  have hne:¬ us.toArray.size=1:=fun e=>by
   have e':vs.length=1:=by simpa [hl] using e
   match vs,e' with
   | [v],_=>exact hnn v rfl
  simp only [Sem.run_bind,Sem.run_map,h1,Result.andThen_ok,Sem.run_pure]
  rw [dif_neg hne]
 ·cases hr
end
def mdR (S:SM) (m:BM):Md → FrameMode → Prop
 | .ret,u=>u=.returning
 | .pan v r,u=>∃ x,u=.panicking [{ v:=x,recovered:=r }] ∧ VR S m v x
theorem mdR.mono {S S':SM}{m m':BM}(hS:S.le S') (hm:m.le m') {u:Md}{u':FrameMode}(h:mdR S m u u'):mdR S' m' u u':=by
 cases u with
 | ret=>exact h
 | pan v r=>obtain ⟨x,h1,h2⟩:=h;exact ⟨x,h1,h2.mono hS hm⟩
theorem mdR.settle {S:SM}{m:BM}{u:Md}{u':FrameMode}(h:mdR S m u u'):mdR S m (zpn u) (Go.settle u'):=by
 cases u with
 | ret=>change u'=.returning at h;subst h;rfl
 | pan v r =>
  obtain ⟨x,rfl,hx⟩:=h
  cases r with
  | true=>rfl
  | false=>exact ⟨x,rfl,hx⟩
section
variable {P:Program}{n₀:Nat}{w₀:World}{S₀ S:SM}{m:BM}{w:World}{call:zba}{draw:Array Oper → St → Option (Ex × St)}
theorem CQ.up {S':SM}{m':BM}(hS:S.le S') (hm:m.le m') {r:CRes}{h':zaa}{e:Ending}(h:CQ n₀ w₀ S₀ S' m' r h' e w):CQ n₀ w₀ S₀ S m r h' e w:=by
 obtain ⟨S'',m'',h1,h2,h3⟩:=h
 exact ⟨S'',m'',SM.le_trans hS h1,BM.le_trans hm h2,h3⟩
theorem zk5:∀ {args:List AV}{vs:List Value}{i:Nat}{x:Tm}{ts:Array Value},VRs S m args vs → TR S m x ts → TR S m (Tm.setL args i x) ((vs.zipIdx i).foldl (fun t p=>t.setIfInBounds p.2 p.1) ts)
 | [],vs,i,x,ts,ha,ht=>by unfold VRs at ha;subst ha;exact ht
 | a::args,vs,i,x,ts,ha,ht=>by
  unfold VRs at ha
  obtain ⟨v,vs',rfl,hx,ha⟩:=ha
  unfold Tm.setL
  rw [List.zipIdx_cons,List.foldl_cons]
  exact zk5 ha (ht.set i hx)
theorem setAll (vs:List Value):∀ (i:Nat) (pre:List Value) (k:Nat),pre.length=i → ((vs.zipIdx i).foldl (fun t p=>t.setIfInBounds p.2 p.1) (pre.toArray++Array.replicate (vs.length+k) Go.undef))=pre.toArray++vs.toArray++Array.replicate k Go.undef:=by
 induction vs with
 | nil=>intro i pre k hp;simp
 | cons v vs ih =>
  intro i pre k hp
  rw [List.zipIdx_cons,List.foldl_cons]
  have e:(pre.toArray++Array.replicate ((v::vs).length+k) Go.undef).setIfInBounds i v=(pre++[v]).toArray++Array.replicate (vs.length+k) Go.undef:=by
   apply Array.ext'
   rw [Array.toList_setIfInBounds]
   simp only [Array.toList_append,Array.toList_replicate,List.length_cons]
   rw [show vs.length+1+k=(vs.length+k)+1 by omega,List.replicate_succ,← hp,List.set_append_right _ _ (Nat.le_refl _)]
   simp
  rw [e,ih (i+1) (pre++[v]) k (by simp [hp])]
  simp
theorem zgd {fn:Func}{args:List AV}{vs:Array Value}(hv:VRs S m args vs.toList):TR S m (zcd fn args) (vs++Array.replicate (fn.ntmps-vs.size) Go.undef):=by
 have hl:=hv.length
 simp at hl
 unfold zcd
 have h0:TR S m (Tm.new (args.length+(fn.ntmps-args.length))) (Array.replicate (args.length+(fn.ntmps-args.length)) Go.undef):=by
  refine ⟨by simp [Tm.new],fun i=>by rw [Tm.get_new];unfold VR;trivial⟩
 have:=zk5 (i:=0) hv h0
 have e:=setAll vs.toList 0 [] (fn.ntmps-args.length) rfl
 simp only [Array.length_toList,← hl] at e
 rw [hl] at this e ⊢
 simpa using (show _ from by
  have e':(vs.toList.zipIdx 0).foldl (fun t p=>t.setIfInBounds p.2 p.1) (Array.replicate (vs.size+(fn.ntmps-vs.size)) Go.undef)=vs++Array.replicate (fn.ntmps-vs.size) Go.undef:=by
   simpa using e
  rw [e'] at this
  exact this)
theorem zr7 {fn:Func}{u':Md}{o:Option (Ex × St)}{u₂:Md}{h':zaa}(hf:zfk P fn u' o=some (u₂,h')):u₂=u' ∧ ∃ ex st,o=some (ex,st) ∧ (ex=.norm ∨ ex=.ret) ∧ st.df=[] ∧ st.h=h' ∧ ∃ v,retA P fn st.tm st.h=some v:=by
 unfold zfk at hf
 split at hf
 ·split at hf
  ·rename_i he
   split at hf
   ·rename_i v hv;cases hf;exact ⟨rfl,_,_,rfl,.inl rfl,by simpa using he,rfl,v,hv⟩
   ·cases hf
  ·cases hf
 ·split at hf
  ·rename_i he
   split at hf
   ·rename_i v hv;cases hf;exact ⟨rfl,_,_,rfl,.inr rfl,by simpa using he,rfl,v,hv⟩
   ·cases hf
  ·cases hf
 ·cases hf
theorem zox (hcall:zc1 P call) (hdraw:zhf P draw) {n:Nat}{f:FuncId}{fn:Func}{c:Code}(hfn:P.funcs[f]?=some fn) (hb:fn.body=some c) {args:List AV}{vs:Array Value}{u u₂:Md}{h h':zaa}{uu:FrameMode}
  (hr:zfk P fn u (zbc P call draw n c ⟨zcd fn args,h,[]⟩)=some (u₂,h')) (s:Sim n₀ w₀ S₀ S m h w) (hv:VRs S m args vs.toList) (hu:mdR S m u uu) :
  CallsDIn (FW none) 0 P f vs uu w fun e u' w'=>(∃ x,e=.returned x) ∧ ∃ S' m',S.le S' ∧ m.le m' ∧ Sim n₀ w₀ S₀ S' m' h' w' ∧ mdR S' m' u₂ u':=by
 obtain ⟨rfl,ex,st,he,hex,hdf,rfl,v,hret⟩:=zr7 hr
 have hwp:=za5 (r:=none) (n₀:=n₀) (w₀:=w₀) (S₀:=S₀) hcall hdraw n c he (a:={ tmps:=vs++Array.replicate (fn.ntmps-vs.size) Go.undef,defers:=[] }) ⟨s,zgd hv,rfl⟩ (.inl rfl)
 refine (callsDIn_of_wp (u:=uu) (R:=fun e w'=>(∃ x,e=.returned x) ∧ ∃ S' m',S.le S' ∧ m.le m' ∧ Sim n₀ w₀ S₀ S' m' st.h w') hfn hb trivial (wpIn_mono hwp fun e a w' hq=>?_)).mono fun e u' w' hq=>?_
 ·obtain ⟨S',m',h1,h2,f',hx⟩:=hq
  have hdf':a.defers=[]:=by have:=f'.df;simp only [hdf] at this;exact this
  obtain ⟨x,g1,g2⟩:=zi4 f'.sim f'.tm hret
  rcases hex with rfl | rfl
  ·change e=.normal at hx;subst hx
   exact ⟨hdf',x,g1,⟨x,rfl⟩,S',m',h1,h2,f'.sim⟩
  ·change e=.ret at hx;subst hx
   exact ⟨hdf',x,g1,⟨x,rfl⟩,S',m',h1,h2,f'.sim⟩
 ·obtain ⟨rfl,h0,S',m',h1,h2,h3⟩:=hq
  exact ⟨h0,S',m',h1,h2,h3,hu.mono h1 h2⟩
theorem zkm {ops:Array Oper}{dst:Option Tmp}{more:List Oper}(h:zff ops=some (dst,more)):∃ o,ops.toList=o::more ∧ o.dst=dst ∧ o.guard=none ∧ ∃ as ts,o.op=.call { callee:=.builtin .recover,args:=as,argTypes:=ts }:=by
 unfold zff at h
 split at h
 ·rename_i o rest ho
  split at h
  ·rename_i as ts hop hg
   cases h
   exact ⟨o,ho,rfl,hg,_,_,hop⟩
  ·cases h
 ·cases h
theorem zdy {ops:Array Oper}{Sb:SM}{mb:BM}{Q:Exit → Act → List Frame → World → Prop}{cs:List Frame}{st':St}(hQ:∀ S' m' a' w',Sb.le S' → mb.le m' → FR n₀ w₀ S₀ S' m' st' a' w' → Q .normal a' cs w') :
  ∀ {l:List Oper}{st:St},runV P ops l st=some st' → ∀ {S:SM}{m:BM}{a:Act}{w:World},Sb.le S → mb.le m → FR n₀ w₀ S₀ S m st a w → ∀ (k:Nat),(∀ j,l[j]?=ops[k+j]?) → wpOpsSIn (FW none) 0 P ops Q (List.range' k l.length) a cs w
 | [],st,hr,S,m,a,w,hS,hm,f,k,hk=>by
  unfold runV at hr;cases hr
  exact hQ S m a w hS hm f
 | o::l,st,hr,S,m,a,w,hS,hm,f,k,hk=>by
  have h0:ops[k]?=some o:=by simpa using (hk 0).symm
  have hk':∀ j,l[j]?=ops[k+1+j]?:=fun j=>by have:=hk (j+1);simpa [Nat.add_assoc,Nat.add_comm 1 j] using this
  simp only [List.length_cons,List.range'_succ,wpOpsSIn,h0]
  refine ⟨fun _ _=>trivial,?_⟩
  unfold runV at hr
  split at hr
  ·rename_i hg
   rw [zej f.tm hg,if_pos rfl]
   have go:∀ {v:AV}{h':zaa},runV P ops l ⟨putT st.tm o.dst v,h',st.df⟩=some st' → (∃ nx u w' S' m',(execOp a.eval o).run P w=.ok nx w' ∧ zxw nx u ∧ S.le S' ∧ m.le m' ∧ VR S' m' v u ∧ Sim n₀ w₀ S₀ S' m' h' w') →
     (match (execOp a.eval o).run P w with
      | .ok .recover w'=>match recoverD cs with
       | some (v,cs')=>wpOpsSIn (FW none) 0 P ops Q (List.range' (k+1) l.length) (a.put o.dst v) cs' w'
       | none=>wpOpsSIn (FW none) 0 P ops Q (List.range' (k+1) l.length) (a.put o.dst .nilIface) cs w'
      | .ok (.value v) w'=>wpOpsSIn (FW none) 0 P ops Q (List.range' (k+1) l.length) (a.put o.dst v) cs w'
      | .ok .skip w'=>wpOpsSIn (FW none) 0 P ops Q (List.range' (k+1) l.length) (a.put o.dst Go.undef) cs w'
      | .halt (.panic v) w'=>Q (.panic [{ v,recovered:=false }]) a cs w'
      | _=>False):=fun {v h'} hr ⟨nx,u,w',S',m',e1,e2,e3,e4,e5,e6⟩=>by
    rw [e1]
    rcases e2 with rfl | ⟨rfl,rfl⟩
    ·exact zdy hQ hr (SM.le_trans hS e3) (BM.le_trans hm e4) (f.put e3 e4 e6 o.dst e5) (k+1) hk'
    ·exact zdy hQ hr (SM.le_trans hS e3) (BM.le_trans hm e4) (f.put e3 e4 e6 o.dst e5) (k+1) hk'
   split at hr
   ·rename_i v hv
    exact go hr (zd8 (P:=P) f.sim (fun x v hx=>zg8 f.tm x v hx) hv)
   ·rename_i v h' hv
    exact go hr (zd8 (P:=P) f.sim (fun x v hx=>zg8 f.tm x v hx) hv)
   ·cases hr
  ·rename_i hg
   rw [zej f.tm hg]
   simp only [Bool.false_eq_true,if_false]
   exact zdy hQ hr hS hm (f.put (SM.le_refl _) (BM.le_refl _) f.sim o.dst zq9) (k+1) hk'
  ·cases hr
theorem zjy (hcall:zc1 P call) (hdraw:zhf P draw) {n:Nat}{f:FuncId}{fn:Func}{id:Nat}{ops:Array Oper}{rest:Code}(hfn:P.funcs[f]?=some fn) (hb:fn.body=some (.seq (.region id ops false) rest)) {dst:Option Tmp}{more:List Oper}(hrec:zff ops=some (dst,more))
  {args:List AV}{vs:Array Value}{u u₁ u₂:Md}{h h':zaa}{uu:FrameMode}{x:AV}
  (hx:(∃ v,u=.pan v false ∧ u₁=.pan v true ∧ x=v) ∨ ((∀ v,u≠.pan v false) ∧ u₁=u ∧ x=.nili))
  (hr:zfk P fn u₁ (ztm P call draw n ops more rest ⟨putT (zcd fn args) dst x,h,[]⟩)=some (u₂,h')) (s:Sim n₀ w₀ S₀ S m h w) (hv:VRs S m args vs.toList) (hu:mdR S m u uu) :
  CallsDIn (FW none) 0 P f vs uu w fun e u' w'=>(∃ x,e=.returned x) ∧ ∃ S' m',S.le S' ∧ m.le m' ∧ Sim n₀ w₀ S₀ S' m' h' w' ∧ mdR S' m' u₂ u':=by
 obtain ⟨rfl,ex,st,he,hex,hdf,rfl,v,hret⟩:=zr7 hr
 obtain ⟨o,hops,rfl,hg,as,ts,hop⟩:=zkm hrec
 unfold ztm at he
 split at he
 case h_2=>cases he
 rename_i stv hrv
 refine callsDIn_of_wpSIn hfn hb trivial fun c₀ cs hc=>wpSIn_seq (wpSIn_region ?_)
 have hrun:(execOp ({ tmps:=vs++Array.replicate (fn.ntmps-vs.size) Go.undef,defers:=[] }:Act).eval o).run P w=.ok .recover w:=by
  simp [execOp,hop,resolve,invoke,builtin]
 have hst:=zgd (fn:=fn) hv
 obtain ⟨S₁,hS₁⟩ : ∃ S₁,S₁=S:=⟨_,rfl⟩
 obtain ⟨m₁,hm₁⟩ : ∃ m₁,m₁=m:=⟨_,rfl⟩
 rw [← hS₁,← hm₁]
 -- what the rest does,from whatever frame
 have hrest:∀ {S m w}(a':Act) (uu':FrameMode),mdR S m u₂ uu' → FR n₀ w₀ S₀ S m stv a' w → S₁.le S → m₁.le m →
   rest.wpSIn (FW none) 0 P (bodyPostS P fn c₀ cs fun e u' w'=>(∃ x,e=.returned x) ∧ ∃ S' m',S₁.le S' ∧ m₁.le m' ∧ Sim n₀ w₀ S₀ S' m' st.h w' ∧ mdR S' m' u₂ u') a' ({ c₀ with mode:=uu' }::cs) w:=fun {S m w} a' uu' hu' f hSb hmb=>by
  refine wpSIn_of_wpIn rfl (wpIn_mono (za5 (r:=none) hcall hdraw n rest he f (.inl rfl)) fun e a w' hq=>?_)
  obtain ⟨S',m',h1,h2,f',hx⟩:=hq
  have hdf':a.defers=[]:=by have:=f'.df;simp only [hdf] at this;exact this
  obtain ⟨y,g1,g2⟩:=zi4 f'.sim f'.tm hret
  rcases hex with rfl | rfl
  ·change e=.normal at hx;subst hx
   exact ⟨hdf',uu',rfl,y,g1,⟨y,rfl⟩,S',m',SM.le_trans hSb h1,BM.le_trans hmb h2,f'.sim,hu'.mono h1 h2⟩
  ·change e=.ret at hx;subst hx
   exact ⟨hdf',uu',rfl,y,g1,⟨y,rfl⟩,S',m',SM.le_trans hSb h1,BM.le_trans hmb h2,f'.sim,hu'.mono h1 h2⟩
 have hw:∀ ts,Region.wanted o (yielded ops ts)=true:=fun ts=>by simp [Region.wanted,hg]
 have h0:ops[0]?=some o:=by rw [← Array.getElem?_toList,hops];rfl
 have hrg:List.range ops.size=0::List.range' 1 more.length:=by
  rw [List.range_eq_range',← Array.length_toList,hops,List.length_cons,List.range'_succ]
 have hk:∀ j,more[j]?=ops[1+j]?:=fun j=>by rw [← Array.getElem?_toList,hops,Nat.add_comm];rfl
 show wpOpsSIn (FW none) 0 P ops _ (List.range ops.size) _ _ _
 rw [hrg]
 simp only [wpOpsSIn,h0,hw,if_true,hrun]
 refine ⟨fun _ _=>trivial,?_⟩
 have f0:∀ y:Value,VR S m x y → FR n₀ w₀ S₀ S m ⟨putT (zcd fn args) o.dst x,h,[]⟩ (({ tmps:=vs++Array.replicate (fn.ntmps-vs.size) Go.undef,defers:=[] }:Act).put o.dst y) w:=fun y hy =>
  ⟨s,zi8 (a:={ tmps:=vs++Array.replicate (fn.ntmps-vs.size) Go.undef,defers:=[] }) hst o.dst hy,by rw [zhl];rfl⟩
 rcases hx with ⟨v',rfl,rfl,rfl⟩ | ⟨hne,rfl,rfl⟩
 ·obtain ⟨y,rfl,hy⟩:=hu
  have hrc:recoverD (c₀::cs)=some (y,{ c₀ with mode:=.panicking [{ v:=y,recovered:=true }] }::cs):=by
   simp [recoverD,hc]
  simp only [hrc]
  exact zdy (Sb:=S) (mb:=m) (fun S' m' a' w' g1 g2 g3=>hrest a' _ ⟨y,rfl,hy.mono g1 g2⟩ g3 (hS₁ ▸ g1) (hm₁ ▸ g2)) hrv (SM.le_refl _) (BM.le_refl _) (f0 y hy) 1 hk
 ·have hrc:recoverD (c₀::cs)=none:=by
   cases u₂ with
   | ret=>change uu=.returning at hu;simp [recoverD,hc,hu]
   | pan v r =>
    obtain ⟨y,rfl,hy⟩:=hu
    cases r with
    | true=>simp [recoverD,hc]
    | false=>exact (hne v rfl).elim
  simp only [hrc]
  have hcm:(c₀::cs)=({ c₀ with mode:=uu }:Frame)::cs:=by rw [← hc]
  rw [hcm]
  exact zdy (Sb:=S) (mb:=m) (fun S' m' a' w' g1 g2 g3=>hrest a' _ (hu.mono g1 g2) g3 (hS₁ ▸ g1) (hm₁ ▸ g2)) hrv (SM.le_refl _) (BM.le_refl _) (f0 .nilIface (by unfold VR;rfl)) 1 hk
theorem zw6 (hcall:zc1 P call) (hdraw:zhf P draw) {n:Nat}{f:FuncId}{args:List AV}{vs:Array Value}{u u₂:Md}{h h':zaa}{uu:FrameMode}
  (hr:zca P call draw n f args u h=some (u₂,h')) (s:Sim n₀ w₀ S₀ S m h w) (hv:VRs S m args vs.toList) (hu:mdR S m u uu) :
  CallsDIn (FW none) 0 P f vs uu w fun e u' w'=>(∃ x,e=.returned x) ∧ ∃ S' m',S.le S' ∧ m.le m' ∧ Sim n₀ w₀ S₀ S' m' h' w' ∧ mdR S' m' u₂ u':=by
 unfold zca at hr
 split at hr
 ·cases hr
 ·rename_i fn hfn
  split at hr
  ·cases hr
  ·rename_i c hb
   split at hr
   ·rename_i id ops rest
    split at hr
    ·rename_i dst more hrec
     split at hr
     ·rename_i v
      exact zjy hcall hdraw hfn hb hrec (.inl ⟨v,rfl,rfl,rfl⟩) hr s hv hu
     ·rename_i hne
      exact zjy hcall hdraw hfn hb hrec (.inr ⟨fun v e=>hne v e,rfl,rfl⟩) hr s hv hu
    ·exact zox hcall hdraw hfn hb hr s hv hu
   ·exact zox hcall hdraw hfn hb hr s hv hu
theorem zdm (hcall:zc1 P call) (hdraw:zhf P draw) {n:Nat}{fn:Func}{tm:Tm}{ts:Array Value}{Sb:SM}{mb:BM}:∀ {ds:List DI}{u:Md}{h:zaa}{r:CRes}{h':zaa},zcu P call draw n fn tm ds u h=some (r,h') →
  ∀ {S:SM}{m:BM}{w:World}{dl:List Deferred}{uu:FrameMode},Sb.le S → mb.le m → Sim n₀ w₀ S₀ S m h w → TR S m tm ts → DR S m ds dl → mdR S m u uu → LeavesInM (FW none) 0 P fn ts (CQ n₀ w₀ S₀ Sb mb r h') dl uu w
 | [],.ret,h,r,h',hr,S,m,w,dl,uu,hS,hm,s,hv,hd,hu=>by
  unfold zcu at hr
  cases hx:retA P fn tm h with
  | none=>simp [hx] at hr
  | some v =>
   simp [hx] at hr
   obtain ⟨rfl,rfl⟩:=hr
   change dl=[] at hd;subst hd
   change uu=.returning at hu;subst hu
   obtain ⟨y,g1,g2⟩:=zi4 s hv hx
   exact ⟨y,g1,S,m,hS,hm,s,y,rfl,g2⟩
 | [],.pan v false,h,r,h',hr,S,m,w,dl,uu,hS,hm,s,hv,hd,hu=>by
  unfold zcu at hr;cases hr
  change dl=[] at hd;subst hd
  obtain ⟨y,rfl,hy⟩:=hu
  exact ⟨S,m,hS,hm,s,y,rfl,hy⟩
 | [],.pan v true,h,r,h',hr,S,m,w,dl,uu,hS,hm,s,hv,hd,hu=>by unfold zcu at hr;cases hr
 | .col b::ds,u,h,r,h',hr,S,m,w,dl,uu,hS,hm,s,hv,hd,hu=>by
  unfold zcu at hr
  split at hr
  ·rename_i hb
   obtain ⟨d,ds',B,K,rfl,e1,e2,e3⟩:=hd
   obtain ⟨B',K',a1,a2,a3,a5,a6⟩:=s.blk _ _ hb
   rw [e2] at a1;cases a1
   have huu:uu≠.run:=fun e=>by
    cases u with
    | ret=>change uu=.returning at hu;rw [hu] at e;cases e
    | pan v r=>obtain ⟨y,e',_⟩:=hu;rw [e'] at e;cases e
   have s':=s.turn hb rfl e2 .dead (.deferred none) (fun _ h=>by cases h) a5 trivial
   exact ⟨huu,.inl ⟨B,_,e1,run_takeDeferred a3,zdm hcall hdraw hr hS hm s' hv e3 hu⟩⟩
  ·cases hr
 | .fn f args::ds,u,h,r,h',hr,S,m,w,dl,uu,hS,hm,s,hv,hd,hu=>by
  unfold zcu at hr
  split at hr
  ·cases hr
  rename_i hok0
  split at hr
  ·rename_i u' h'' hdf
   obtain ⟨d,ds',cap,rfl,e1,e2,e3⟩:=hd
   obtain ⟨target,dargs⟩:=d
   simp only at e1;subst e1
   have huu:uu≠.run:=fun e=>by
    cases u with
    | ret=>change uu=.returning at hu;rw [hu] at e;cases e
    | pan v r=>obtain ⟨y,e',_⟩:=hu;rw [e'] at e;cases e
   have hok:fnOk P f=true:=by simpa using hok0
   refine ⟨huu,.inr ⟨fun h=>(by cases h),.func f,cap,f,dargs++cap,rfl,?_,fun _ _=>trivial,?_⟩⟩
   ·unfold fnOk at hok
    split at hok
    ·rename_i fn' hfn
     simp only [Bool.and_eq_true,Bool.not_eq_true',beq_eq_false_iff_ne,ne_eq] at hok
     obtain ⟨k1,k2⟩:=hok
     simp [invoke,callFunc,hfn,k1]
     intro hbn;simp [hbn] at k2
    ·cases hok
   ·refine (zw6 hcall hdraw hdf s e2 hu).mono fun e u₃ w' hq=>?_
    obtain ⟨⟨x,rfl⟩,S',m',h1,h2,h3,h4⟩:=hq
    exact zdm hcall hdraw hr (SM.le_trans hS h1) (BM.le_trans hm h2) h3 (hv.mono h1 h2) (e3.mono h1 h2) h4.settle
  ·cases hr
theorem zlv (hcall:zc1 P call) (hdraw:zhf P draw) {n:Nat}{f:FuncId}{args:List AV}{vs:Array Value}{h h':zaa}{r:CRes}(hr:zm6 P call draw n f args h=some (r,h'))
  (s:Sim n₀ w₀ S₀ S m h w) (hv:VRs S m args vs.toList):Calls P f vs w (CQ n₀ w₀ S₀ S m r h'):=by
 unfold zm6 at hr
 split at hr
 ·cases hr
 ·rename_i fn hfn
  split at hr
  ·cases hr
  ·rename_i c hb
   have hwp:=fun {out:Ex × St}(he:zbc P call draw n c ⟨zcd fn args,h,[]⟩=some out)=>za5 (r:=none) (n₀:=n₀) (w₀:=w₀) (S₀:=S₀) hcall hdraw n c he (a:={ tmps:=vs++Array.replicate (fn.ntmps-vs.size) Go.undef,defers:=[] }) ⟨s,zgd hv,rfl⟩ (.inl rfl)
   refine (callsIn_wide (n:=0)).1 (callsIn_of_wp_marks hfn hb trivial ?_)
   split at hr
   ·rename_i st he
    refine wpIn_mono (hwp he) fun e a w' hq=>?_
    obtain ⟨S',m',h1,h2,f',hx⟩:=hq
    change e=.normal at hx;subst hx
    exact zdm hcall hdraw hr h1 h2 f'.sim f'.tm f'.df rfl
   ·rename_i st he
    refine wpIn_mono (hwp he) fun e a w' hq=>?_
    obtain ⟨S',m',h1,h2,f',hx⟩:=hq
    change e=.ret at hx;subst hx
    exact zdm hcall hdraw hr h1 h2 f'.sim f'.tm f'.df rfl
   ·rename_i v st he
    refine wpIn_mono (hwp he) fun e a w' hq=>?_
    obtain ⟨S',m',h1,h2,f',u,rfl,hu⟩:=hq
    exact zdm hcall hdraw hr h1 h2 f'.sim f'.tm f'.df ⟨u,rfl,hu⟩
   ·cases hr
theorem zk4:∀ (ps:List Tmp) {args:List AV}{tm:Tm}{vs:List Value}{ts:Array Value},VRs S m args vs → TR S m tm ts →
  TR S m ((ps.zip args).foldl (fun l p=>Tm.set l p.1 p.2) tm) ((ps.zip vs).foldl (fun t p=>t.setIfInBounds p.1 p.2) ts)
 | [],_,_,_,_,_,ht=>by simpa using ht
 | p::ps,[],tm,vs,ts,ha,ht=>by unfold VRs at ha;subst ha;simpa using ht
 | p::ps,x::args,tm,vs,ts,ha,ht=>by
  unfold VRs at ha
  obtain ⟨v,vs',rfl,hx,ha⟩:=ha
  simp only [List.zip_cons_cons,List.foldl_cons]
  exact zk4 ps ha (ht.set p hx)
theorem zpi (hcall:zc1 P call) (hdraw:zhf P draw) {n b:Nat}{args:List AV}{vs:Array Value}{h h':zaa}{r:CRes}{B K:Nat}(hr:zkr P call draw n b args h=some (r,h'))
  (hB:m b 0=some (B,K)) (s:Sim n₀ w₀ S₀ S m h w) (hv:VRs S m args vs.toList) :
  ∃ fn tmps assign body,(Instr.yield B vs).run P w=.ok (.round B fn tmps assign body) w ∧ ∀ rd,RoundIn (FW rd) 0 P B fn tmps assign body w (CQ n₀ w₀ S₀ S m r h'):=by
 unfold zkr at hr
 split at hr
 ·rename_i tms ps asg body db hb
  split at hr
  ·rename_i hc
   obtain ⟨c1,c2,c3⟩:=hc
   obtain ⟨B',K',D,fn,ts,a1,a2,a3,a4,a5,a6⟩:=s.blk _ _ hb
   rw [hB] at a1;cases a1
   have hl:=hv.length
   refine ⟨fn,_,asg,body,run_yield a3 (by simpa using (show vs.size=ps.size by simp at hl;omega)),fun rd=>roundIn_of_wpIn trivial ?_⟩
   split at hr
   ·rename_i st1 h1
    split at hr
    ·rename_i tms1 ps1 asg1 body1 db1 hb1
     split at hr
     ·rename_i st2 h2
      split at hr
      ·rename_i bz tms2 ps2 asg2 body2 db2 hb2
       cases hr
       have f0:FR n₀ w₀ S₀ S m ⟨(ps.toList.zip args).foldl (fun l p=>Tm.set l p.1 p.2) tms,h,[]⟩ { tmps:=(ps.zip vs).foldl (fun t (p,v)=>t.setIfInBounds p v) ts,defers:=[] } w:=by
        refine ⟨s,?_,rfl⟩
        have:=zk4 ps.toList hv a4
        rw [← Array.foldl_toList,Array.toList_zip]
        exact this
       refine wpIn_mono (za5 (r:=some B) hcall hdraw n asg h1 f0 (.inr c2)) fun e a1' w1 hq=>?_
       obtain ⟨S1,m1,g1,g2,f1,he⟩:=hq
       change e=.normal at he;subst he
       obtain ⟨B1,K1,D1,fn1,ts1,q1,q2,q3,q4,q5,q6⟩:=f1.sim.blk _ _ hb1
       have hB1:=g2 _ _ _ hB
       rw [hB1] at q1;cases q1
       have s1:=f1.sim.turn hb1 rfl hB1 (.loop true tms1 ps1 asg1 body1 db1) (.loop { state:=.busy,pending:=none,fn:=fn1,tmps:=ts1,params:=ps1,assign:=asg1,body:=body1,defers:=D1 }) (fun v hv=>by cases hv;rfl) q5
        ⟨B,K,D1,fn1,ts1,hB1,q2,by simp only [if_true];exact World.putObj_heap_same (Array.getElem?_eq_some_iff.1 q3).1,q4,q5,q6⟩
       refine ⟨_,run_beginRound q3 rfl,?_⟩
       refine wpIn_mono (za5 (r:=some B) hcall hdraw n body h2 ⟨s1,f1.tm,f1.df⟩ (.inr c3)) fun e a2' w2 hq=>?_
       obtain ⟨S2,m2,j1,j2,f2,he⟩:=hq
       change e=.normal at he;subst he
       obtain ⟨B2,K2,D2,fn2,ts2,r1,r2,r3,r4,r5,r6⟩:=f2.sim.blk _ _ hb2
       have hB2:=j2 _ _ _ hB1
       rw [hB2] at r1;cases r1
       have s2:=f2.sim.turn hb2 rfl hB2 (.loop false tms2 ps2 asg2 body2 db2) (.loop { state:=.ready,pending:=none,fn:=fn2,tmps:=ts2,params:=ps2,assign:=asg2,body:=body2,defers:=D2 }) (fun v hv=>by cases hv;rfl) r5
        ⟨B,K,D2,fn2,ts2,hB2,r2,by simp only [Bool.false_eq_true,if_false];exact World.putObj_heap_same (Array.getElem?_eq_some_iff.1 r3).1,r4,r5,r6⟩
       exact ⟨.bool true,_,run_endRound none r3,S2,m2,SM.le_trans g1 j1,BM.le_trans g2 j2,s2,.bool true,rfl,by unfold VR;rfl⟩
      ·cases hr
     ·cases hr
    ·cases hr
   ·cases hr
  ·cases hr
 ·cases hr
end
def allM (f:AV → Option AV):List AV → Option (List AV)
 | []=>some []
 | x::xs=>match f x,allM f xs with
  | some y,some ys=>some (y::ys)
  | _,_=>none
def frz (h:zaa):Nat → AV → Option AV
 | 0,_=>none
 | n+1,x=>match x with
  | .ptr b ver o=>match h[b]? with
   | some (.cells ver' _ cs _)=>if ver'=ver then (allM (frz h n) cs).map fun ds=>.pin ds o else none
   | _=>none
  | .sl sz b ver o len=>match h[b]? with
   | some (.cells ver' _ cs _)=>if ver'=ver ∧ o+len*sz ≤ cs.length then match allM (frz h n) ((cs.drop o).take (len*sz)) with
     | some ds=>if ds.all AV.scal then some (.lst sz (zf9 ⟨if sz=1 then .bool else .struct #[],sz,0,[]⟩ len ds) false) else none
     | none=>none
    else none
   | _=>none
  | .map _=>none
  | .pin cs o=>(allM (frz h n) cs).map fun ds=>.pin ds o
  | .lst sz xs c=>(allM (frz h n) xs).map fun ys=>.lst sz ys c
  | .fn f a b=>match allM (frz h n) a,allM (frz h n) b with
   | some a',some b'=>if zhs f then none else some (.fn f a' b')
   | _,_=>none
  | .ifc t x=>(frz h n x).map (.ifc t)
  | .agg cs=>(allM (frz h n) cs).map .agg
  | .tup cs=>(allM (frz h n) cs).map .tup
  | x=>some x
def Loc (S:SM) (m:BM) (x:AV) (B q:Nat):Prop:=match x with
 | .agg cs=>CR S m cs B q
 | x=>∃ v,S B q=some v ∧ VR S m x v
theorem ER.cons_iff {S:SM}{m:BM}{sz:Nat}{x:AV}{xs:List AV}{B q:Nat}:ER S m sz (x::xs) B q ↔ Loc S m x B q ∧ ER S m sz xs B (q+sz):=by
 cases x<;>simp only [ER,Loc]
section
variable {S S':SM}{m m':BM}{h:zaa}
theorem zf4 {f:AV → Option AV}(hf:∀ x y v,f x=some y → VR S m x v → VR S' m' y v):∀ {l l':List AV}{vs:List Value},allM f l=some l' → VRs S m l vs → VRs S' m' l' vs
 | [],_,_,ha,hv=>by unfold allM at ha;cases ha;unfold VRs at *;exact hv
 | x::xs,_,_,ha,hv=>by
  unfold allM at ha
  split at ha
  ·rename_i y ys h1 h2
   cases ha
   unfold VRs at hv
   obtain ⟨v,vs',rfl,g1,g2⟩:=hv
   unfold VRs
   exact ⟨v,vs',rfl,hf _ _ _ h1 g1,zf4 hf h2 g2⟩
  ·cases ha
theorem zq0 {f:AV → Option AV}(hS:S.le S') (hf:∀ x y v,f x=some y → VR S m x v → VR S' m' y v):∀ {l l':List AV}{B q:Nat},allM f l=some l' → CR S m l B q → CR S' m' l' B q
 | [],_,_,_,ha,hv=>by unfold allM at ha;cases ha;unfold CR;trivial
 | x::xs,_,_,_,ha,hv=>by
  unfold allM at ha
  split at ha
  ·rename_i y ys h1 h2
   cases ha
   unfold CR at hv
   obtain ⟨⟨v,g0,g1⟩,g2⟩:=hv
   unfold CR
   exact ⟨⟨v,hS _ _ _ g0,hf _ _ _ h1 g1⟩,zq0 hS hf h2 g2⟩
  ·cases ha
theorem zm7 {f:AV → Option AV}:∀ {l l':List AV},allM f l=some l' → l'.length=l.length
 | [],_,ha=>by unfold allM at ha;cases ha;rfl
 | x::xs,_,ha=>by
  unfold allM at ha
  split at ha
  ·rename_i y ys h1 h2;cases ha;simp [zm7 h2]
  ·cases ha
theorem zxu {f:AV → Option AV}(hf:∀ x y B q,f x=some y → Loc S m x B q → Loc S' m' y B q) {sz:Nat}:∀ {l l':List AV}{B q:Nat},allM f l=some l' → ER S m sz l B q → ER S' m' sz l' B q
 | [],_,_,_,ha,hv=>by unfold allM at ha;cases ha;unfold ER;trivial
 | x::xs,_,_,_,ha,hv=>by
  unfold allM at ha
  split at ha
  ·rename_i y ys h1 h2
   cases ha
   obtain ⟨g1,g2⟩:=ER.cons_iff.1 hv
   exact ER.cons_iff.2 ⟨hf _ _ _ _ h1 g1,zxu hf h2 g2⟩
  ·cases ha
def z3x (h:zaa) (S:SM) (m:BM) (S':SM):Prop:=S.le S' ∧ ∀ b ver el cs f B K,h[b]?=some (.cells ver el cs f) → m b ver=some (B,K) → ∀ i x,cs[i]?=some x → ∃ v,S' B i=some v ∧ VR S m x v
theorem zth {n:Nat}{x y:AV}(hx:frz h n x=some y) (hne:∀ cs,x≠.agg cs):∀ ds,y≠.agg ds:=by
 intro ds e
 subst e
 cases n with
 | zero=>unfold frz at hx;cases hx
 | succ n =>
  have opt:∀ {o:Option (List AV)}{g:List AV → AV}{y:AV},o.map g=some y → ∃ l,o=some l ∧ y=g l:=fun {o g y} e=>by
   cases o with
   | none=>cases e
   | some l=>simp at e;exact ⟨l,rfl,e.symm⟩
  cases x<;>simp only [frz] at hx
  case agg cs=>exact hne _ rfl
  case ptr b ver o =>
   split at hx
   ·split at hx
    ·obtain ⟨_,_,e⟩:=opt hx;cases e
    ·cases hx
   ·cases hx
  case sl sz b ver o len =>
   split at hx
   ·split at hx
    ·split at hx
     ·split at hx<;>cases hx
     ·cases hx
    ·cases hx
   ·cases hx
  case fn f a b =>
   split at hx
   ·split at hx<;>cases hx
   ·cases hx
  case ifc t z =>
   cases hz:frz h n z<;>simp [hz] at hx
  all_goals first
   | (cases hx;done)
   | (obtain ⟨_,_,e⟩:=opt hx;cases e;done)
theorem zjl (hk:z3x h S m S'):∀ (n:Nat),(∀ x y v,frz h n x=some y → VR S m x v → VR S' m' y v) ∧ (∀ x y B q,frz h n x=some y → Loc S m x B q → Loc S' m' y B q)
 | 0=>⟨(fun x y v hx=>by unfold frz at hx;cases hx),(fun x y B q hx=>by unfold frz at hx;cases hx)⟩
 | n+1=>by
  obtain ⟨ih1,ih2⟩:=zjl hk n
  have opt:∀ {o:Option (List AV)}{g:List AV → AV}{y:AV},o.map g=some y → ∃ l,o=some l ∧ y=g l:=fun {o g y} e=>by
   cases o with
   | none=>cases e
   | some l=>simp at e;exact ⟨l,rfl,e.symm⟩
  -- cells of a block,frozen,where they stand
  have hcr:∀ {b ver:Nat}{el:Option TypeId}{cs:List AV}{f B K:Nat},h[b]?=some (.cells ver el cs f) → m b ver=some (B,K) → ∀ {o:Nat}{l ds:List AV},(∀ i x,l[i]?=some x → cs[o+i]?=some x) → allM (frz h n) l=some ds → CR S' m' ds B o:=by
   intro b ver el cs f B K hb hm o l ds hl ha
   have hcs:=hk.2 b ver el cs f B K hb hm
   induction l generalizing o ds with
   | nil=>unfold allM at ha;cases ha;unfold CR;trivial
   | cons x xs ihl =>
    unfold allM at ha
    split at ha
    ·rename_i y ys h1 h2
     cases ha
     obtain ⟨v,g1,g2⟩:=hcs o x (by simpa using hl 0 x rfl)
     unfold CR
     refine ⟨⟨v,g1,ih1 _ _ _ h1 g2⟩,ihl (fun i z hz=>?_) h2⟩
     have:=hl (i+1) z (by simpa using hz)
     rwa [show o+(i+1)=o+1+i by omega] at this
    ·cases ha
  have main:∀ x y v,frz h (n+1) x=some y → VR S m x v → VR S' m' y v:=fun x y v hx hv=>by
   cases x<;>simp only [frz] at hx
   case ptr b ver o =>
    split at hx
    ·rename_i ver' cs f hb
     split at hx
     ·rename_i e;subst e
      obtain ⟨ds,ha,rfl⟩:=opt hx
      unfold VR at hv
      obtain ⟨B,K,g1,rfl⟩:=hv
      unfold VR
      exact ⟨B,0,by simp,hcr hb g1 (fun i x hx=>by simpa using hx) ha⟩
     ·cases hx
    ·cases hx
   case sl sz b ver o len =>
    split at hx
    ·rename_i ver' cs f hb
     split at hx
     ·rename_i hc
      obtain ⟨rfl,hle⟩:=hc
      split at hx
      ·rename_i ds ha
       split at hx
       ·rename_i hsc
        cases hx
        unfold VR at hv
        obtain ⟨B,K,cap,g1,rfl,g2,g3⟩:=hv
        have hl:ds.length=len*sz:=by rw [zm7 ha];simp;omega
        have hcrs:=hcr hb g1 (o:=o) (fun i x hx=>by
         rw [List.getElem?_take] at hx
         split at hx
         ·rwa [List.getElem?_drop] at hx
         ·cases hx) ha
        obtain ⟨d,hd⟩ : ∃ d:TI,d=⟨if sz=1 then .bool else .struct #[],sz,0,[]⟩:=⟨_,rfl⟩
        rw [← hd]
        have hds:d.size=sz:=by rw [hd]
        have hag:za9 d.desc=false → sz=1:=fun h=>by
         rw [hd] at h
         by_cases e:sz=1
         ·exact e
         ·simp [e,za9] at h
        have hel:(zf9 d len ds).length=len:=by
         unfold zf9
         cases hg:za9 d.desc with
         | true =>
          simp only [hg,if_true,List.length_map]
          have:∀ n (l:List AV),(zj0 d.size n l).length=n:=fun n=>by
           induction n with
           | zero=>intro l;rfl
           | succ n ih=>intro l;simp [zj0,ih]
          exact this len ds
         | false =>
          simp only [hg,Bool.false_eq_true,if_false]
          rw [hl,hag hg];omega
        unfold VR
        exact ⟨_,cap,by rw [hel],by rw [hel];exact g2,(fun h=>by cases h),fun _=>⟨B,o,rfl,ER.of_cells hds len hcrs hl hsc hag⟩⟩
       ·cases hx
      ·cases hx
     ·cases hx
    ·cases hx
   case map b=>cases hx
   case pin cs o =>
    obtain ⟨ds,ha,rfl⟩:=opt hx
    unfold VR at hv ⊢
    obtain ⟨B,q,rfl,hc⟩:=hv
    exact ⟨B,q,rfl,zq0 hk.1 ih1 ha hc⟩
   case lst sz xs c =>
    obtain ⟨ds,ha,rfl⟩:=opt hx
    have hl:=zm7 ha
    unfold VR at hv ⊢
    obtain ⟨a,cap,rfl,g1,g2,g3⟩:=hv
    refine ⟨a,cap,by rw [hl],by rw [hl];exact g1,fun hc=>by rw [hl];exact g2 hc,fun hne=>?_⟩
    obtain ⟨B,q,e,he⟩:=g3 (fun e=>by subst e;simp at hl;exact hne hl)
    exact ⟨B,q,e,zxu ih2 ha he⟩
   case fn f a b =>
    split at hx
    ·rename_i a' b' h1 h2
     split at hx
     ·cases hx
     rename_i hy
     cases hx
     unfold VR at hv ⊢
     obtain ⟨x',y',⟨f',rfl,hf'⟩,g1,g2⟩:=hv
     have hy':zhs f=false:=by simpa using hy
     exact ⟨x',y',⟨f',rfl,(zb5 hy').2 ((zb5 hy').1 hf')⟩,zf4 ih1 h1 g1,zf4 ih1 h2 g2⟩
    ·cases hx
   case ifc t z =>
    cases hz:frz h n z with
    | none=>simp [hz] at hx
    | some z' =>
     simp [hz] at hx;subst hx
     unfold VR at hv ⊢
     obtain ⟨u,rfl,g1⟩:=hv
     exact ⟨u,rfl,ih1 _ _ _ hz g1⟩
   case agg cs =>
    obtain ⟨ds,ha,rfl⟩:=opt hx
    unfold VR at hv ⊢
    obtain ⟨vs,rfl,g1⟩:=hv
    exact ⟨vs,rfl,zf4 ih1 ha g1⟩
   case tup cs =>
    obtain ⟨ds,ha,rfl⟩:=opt hx
    unfold VR at hv ⊢
    obtain ⟨vs,rfl,g1⟩:=hv
    exact ⟨vs,rfl,zf4 ih1 ha g1⟩
   all_goals (cases hx;unfold VR at *;exact hv)
  refine ⟨main,fun x y B q hx hl=>?_⟩
  have one:(∀ cs,x≠.agg cs) → Loc S' m' y B q:=fun hne=>by
   have hl':∃ v,S B q=some v ∧ VR S m x v:=by
    cases x<;>first | exact hl | exact (hne _ rfl).elim
   obtain ⟨v,g1,g2⟩:=hl'
   have hv:=main x y v hx g2
   have hy:∀ cs,y≠.agg cs:=zth hx hne
   have hyl:Loc S' m' y B q=∃ v,S' B q=some v ∧ VR S' m' y v:=by cases y<;>first | rfl | exact (hy _ rfl).elim
   rw [hyl]
   exact ⟨v,hk.1 _ _ _ g1,hv⟩
  cases x
  case agg cs =>
   simp only [frz] at hx
   obtain ⟨ds,ha,rfl⟩:=opt hx
   exact zq0 hk.1 ih1 ha hl
  all_goals exact one (fun _ e=>by cases e)
end
def lockB:AB → AB
 | .cells v el cs f=>.cells v el cs (max f cs.length)
 | x=>x
def zn6 (h:zaa) (R:List Nat):zaa:=h.mapIdx fun i x=>if R.contains i then lockB x else x
def zn5 (h:zaa) (R:List Nat):zaa:=h.mapIdx fun i x=>if R.contains i then x else .dead
def rchV (h:zaa):Nat → AV → List Nat
 | 0,_=>[]
 | n+1,x=>match x with
  | .ptr b _ _=>b::(match h[b]? with
   | some (.cells _ _ cs _)=>cs.flatMap (rchV h n)
   | _=>[])
  | .sl _ b _ _ _=>b::(match h[b]? with
   | some (.cells _ _ cs _)=>cs.flatMap (rchV h n)
   | _=>[])
  | .pin cs _=>cs.flatMap (rchV h n)
  | .lst _ xs _=>xs.flatMap (rchV h n)
  | .fn _ a b=>a.flatMap (rchV h n)++b.flatMap (rchV h n)
  | .ifc _ x=>rchV h n x
  | .agg cs=>cs.flatMap (rchV h n)
  | .tup cs=>cs.flatMap (rchV h n)
  | _=>[]
theorem zrr (h:zaa) (R:List Nat) (b:Nat):(zn6 h R)[b]?=(h[b]?).map fun x=>if R.contains b then lockB x else x:=by
 unfold zn6
 rw [List.getElem?_mapIdx]
theorem zrp (h:zaa) (R:List Nat) (b:Nat):(zn5 h R)[b]?=(h[b]?).map fun x=>if R.contains b then x else .dead:=by
 unfold zn5
 rw [List.getElem?_mapIdx]
theorem zzr (h:zaa) (R:List Nat):(zn6 h R).length=h.length:=by unfold zn6;simp
theorem zf3 {f g:AV → Option AV}:∀ {l:List AV},(∀ x∈l,f x=g x) → allM f l=allM g l
 | [],_=>rfl
 | x::xs,h=>by
  unfold allM
  rw [h x (List.mem_cons_self ..),zf3 fun y hy=>h y (List.mem_cons_of_mem _ hy)]
theorem zr0 {h:zaa}{R:List Nat}:∀ (n:Nat) (x:AV),(∀ b∈rchV h n x,b∈R) → frz (zn5 h R) n x=frz h n x
 | 0,x,_=>by unfold frz;rfl
 | n+1,x,hr=>by
  have ih:=zr0 (h:=h) (R:=R) n
  have flat:∀ {l:List AV},(∀ b∈l.flatMap (rchV h n),b∈R) → allM (frz (zn5 h R) n) l=allM (frz h n) l:=fun {l} hl =>
   zf3 fun x hx=>ih x fun b hb=>hl b (List.mem_flatMap.2 ⟨x,hx,hb⟩)
  have blk:∀ {b:Nat},b∈R → (zn5 h R)[b]?=h[b]?:=fun {b} hb=>by
   rw [zrp,show R.contains b=true from List.contains_iff_mem.2 hb]
   simp only [if_true,Option.map_id']
  cases x with
  | ptr b ver o =>
   simp only [rchV] at hr
   have hb:=blk (hr b (List.mem_cons_self ..))
   simp only [frz,hb]
   cases hc:h[b]? with
   | none=>rfl
   | some y =>
    cases y with
    | cells v el cs f =>
     simp only [hc] at hr
     simp only
     rw [flat fun c q=>hr c (List.mem_cons_of_mem _ q)]
    | _=>rfl
  | sl sz b ver o len =>
   simp only [rchV] at hr
   have hb:=blk (hr b (List.mem_cons_self ..))
   simp only [frz,hb]
   cases hc:h[b]? with
   | none=>rfl
   | some y =>
    cases y with
    | cells v el cs f =>
     simp only [hc] at hr
     have e:allM (frz (zn5 h R) n) ((cs.drop o).take (len*sz))=allM (frz h n) ((cs.drop o).take (len*sz)):=zf3 fun x hx=>ih x fun c q=>hr c (List.mem_cons_of_mem _ (List.mem_flatMap.2 ⟨x,List.mem_of_mem_drop (List.mem_of_mem_take hx),q⟩))
     simp only
     rw [e]
    | _=>rfl
  | pin cs o=>simp only [rchV] at hr;simp only [frz];rw [flat hr]
  | lst sz xs c=>simp only [rchV] at hr;simp only [frz];rw [flat hr]
  | fn f a b =>
   simp only [rchV,List.mem_append] at hr
   simp only [frz]
   rw [flat fun c q=>hr c (.inl q),flat fun c q=>hr c (.inr q)]
  | ifc t x=>simp only [rchV] at hr;simp only [frz];rw [ih x hr]
  | agg cs=>simp only [rchV] at hr;simp only [frz];rw [flat hr]
  | tup cs=>simp only [rchV] at hr;simp only [frz];rw [flat hr]
  | _=>rfl
section
variable {n₀:Nat}{w₀ w:World}{S₀ S:SM}{m:BM}{h:zaa}
open Classical in
noncomputable def SM.lock (S:SM) (m:BM) (h:zaa) (R:List Nat) (w:World):SM:=fun B o=>if ∃ i ver el cs f K,i∈R ∧ h[i]?=some (.cells ver el cs f) ∧ m i ver=some (B,K) ∧ o<cs.length then w.cell? ⟨B,o,none⟩ else S B o
theorem zzq (s:Sim n₀ w₀ S₀ S m h w) (R:List Nat):S.le (S.lock m h R w) ∧ Sim n₀ w₀ S₀ (S.lock m h R w) m (zn6 h R) w ∧ z3x (zn5 h R) S m (S.lock m h R w):=by
 have hle:S.le (S.lock m h R w):=fun b o v hv=>by
  unfold SM.lock
  split
  ·exact s.stable b o v hv
  ·exact hv
 -- a block's row,apart from all others
 have own:∀ {c:Nat}{x:AB}{ver B K:Nat},h[c]?=some x → x.ver?=some ver → m c ver=some (B,K) → ∀ o,S B o=none → (∀ v el cs f,x=.cells v el cs f → c∈R → cs.length ≤ o) → S.lock m h R w B o=none:=fun {c x ver B K} hx hv hm o ho hc=>by
  unfold SM.lock
  rw [if_neg]
  ·exact ho
  ·rintro ⟨i,ver',el,cs,f,K',hi,hb,hm',hlt⟩
   by_cases e:i=c
   ·subst e
    rw [hx] at hb;cases hb
    have:=hc _ _ _ _ rfl hi
    omega
   ·exact s.inj i c _ _ ver' ver B K' K e hb hx rfl hv hm' hm
 refine ⟨hle,⟨fun b o v hv=>?_,s.size,s.old,fun b o v hv=>?_,fun c x hx=>?_,?_,fun b ver x hx=>?_,s.env⟩,hle,fun b ver el cs f B K hb hm i x hx=>?_⟩
 ·unfold SM.lock at hv
  split at hv
  ·exact hv
  ·exact s.stable b o v hv
 ·unfold SM.lock at hv
  split at hv
  ·rename_i hc
   obtain ⟨i,ver',el,cs,f,K',hi,hb,hm',hlt⟩:=hc
   exact .inr (s.img hb rfl hm').1
  ·exact s.new b o v hv
 ·rw [zrr] at hx
  cases hc:h[c]? with
  | none=>rw [hc] at hx;cases hx
  | some y =>
   rw [hc] at hx
   simp only [Option.map_some,Option.some.injEq] at hx
   subst hx
   have hb:=s.blk c y hc
   cases y with
   | dead=>split<;>trivial
   | cells ver el' cs frz =>
    obtain ⟨B,K,el,vs,fz,h1,h2,h3,h4,h5,h6,h7,h8⟩:=hb
    split
    ·rename_i hR
     refine ⟨B,K,el,vs,fz,h1,h2,h3,h4,h5.mono hle (BM.le_refl _),fun o ho=>own hc rfl h1 o (h6 o (by omega)) fun _ _ _ _ e _=>by cases e;omega,fun o ho hk=>h7 o (by omega) hk,h8⟩
    ·rename_i hR
     refine ⟨B,K,el,vs,fz,h1,h2,h3,h4,h5.mono hle (BM.le_refl _),fun o ho=>own hc rfl h1 o (h6 o ho) fun _ _ _ _ e hm=>?_,h7,h8⟩
     exact (hR (List.contains_iff_mem.2 hm)).elim
   | map es =>
    obtain ⟨B,K,en,cl,h1,h2,h3,h4,h5,h6⟩:=hb
    split<;>exact ⟨B,K,en,cl,h1,h2,h3,h4.mono hle (BM.le_refl _) _,fun o=>own hc rfl h1 o (h5 o) fun _ _ _ _ e _=>(by cases e),h6⟩
   | dfd =>
    obtain ⟨B,K,h1,h2,h3,h5,h6⟩:=hb
    split<;>exact ⟨B,K,h1,h2,h3,fun o=>own hc rfl h1 o (h5 o) fun _ _ _ _ e _=>(by cases e),h6⟩
   | loop busy tms ps asg body db =>
    obtain ⟨B,K,D,fn,ts,h1,h2,h3,h4,h5,h6⟩:=hb
    split<;>exact ⟨B,K,D,fn,ts,h1,h2,h3,h4.mono hle (BM.le_refl _),fun o=>own hc rfl h1 o (h5 o) fun _ _ _ _ e _=>(by cases e),h6⟩
 ·have back:∀ {c:Nat}{x:AB}{v:Nat},(zn6 h R)[c]?=some x → x.ver?=some v → ∃ y,h[c]?=some y ∧ y.ver?=some v:=fun {c x v} hx hv=>by
   rw [zrr] at hx
   cases hc:h[c]? with
   | none=>rw [hc] at hx;cases hx
   | some y =>
    rw [hc] at hx
    simp only [Option.map_some,Option.some.injEq] at hx
    subst hx
    refine ⟨y,rfl,?_⟩
    split at hv
    ·cases y<;>exact hv
    ·exact hv
  intro b b' x x' ver ver' B K K' hne hx hx' hv hv' h1 h2
  obtain ⟨y,e1,e2⟩:=back hx hv
  obtain ⟨y',e1',e2'⟩:=back hx' hv'
  exact s.inj b b' y y' ver ver' B K K' hne e1 e1' e2 e2' h1 h2
 ·rw [zzr];exact s.lt b ver x hx
 ·rw [zrp] at hb
  cases hc:h[b]? with
  | none=>rw [hc] at hb;cases hb
  | some y =>
   rw [hc] at hb
   simp only [Option.map_some,Option.some.injEq] at hb
   split at hb
   ·rename_i hR
    subst hb
    obtain ⟨B',K',el₁,vs,fz,h1,h2,h3,h4,h5,h6,h7,h8⟩:=s.blk b _ hc
    rw [hm] at h1;cases h1
    obtain ⟨v,g1,g2⟩:=h5.get _ i x hx
    have hi:i<cs.length:=(List.getElem?_eq_some_iff.1 hx).1
    refine ⟨v,?_,g2⟩
    unfold SM.lock
    rw [if_pos ⟨b,ver,el,cs,f,K,List.contains_iff_mem.1 hR,hc,hm,hi⟩]
    rw [List.getElem?_take,if_pos hi] at g1
    unfold World.cell?
    simp only [h3]
    simpa using g1
   ·cases hb
theorem zv4 (s:Sim n₀ w₀ S₀ S m h w) {args args':List AV}{vs:List Value}(ha:allM (frz h 64) args=some args') (hv:VRs S m args vs) :
  ∃ S',S.le S' ∧ Sim n₀ w₀ S₀ S' m (zn6 h (args.flatMap (rchV h 64))) w ∧ ∀ m',VRs S' m' args' vs:=by
 obtain ⟨k1,k2,k3⟩:=zzq s (args.flatMap (rchV h 64))
 refine ⟨_,k1,k2,fun m'=>?_⟩
 have ha':allM (frz (zn5 h (args.flatMap (rchV h 64))) 64) args=some args':=by
  rw [← ha]
  exact zf3 fun x hx=>zr0 64 x fun b hb=>List.mem_flatMap.2 ⟨x,hx,hb⟩
 exact zf4 (fun x y v hx hxv=>(zjl k3 64).1 x y v hx hxv) ha' hv
end
abbrev zq5:=zba → Array Oper → St → Option (Ex × St)
def CRes.map? (g:AV → Option AV):CRes → Option CRes
 | .ret v=>(g v).map .ret
 | .pan v=>(g v).map .pan
noncomputable def zhm (P:Program) (call:zba) (draw:zq5) (k:Nat) (f:FuncId) (args:List AV):Option CRes :=
 match zm6 P call (draw call) k f args [] with
 | some (r,h)=>r.map? (frz h 64)
 | none=>none
noncomputable def zb4 (P:Program) (cfg:Cfg) (draw:zq5) (k:Nat):Nat → zba
 | 0=>fun _ _ _=>none
 | n+1=>fun f args h =>
  if cfg.inl f then (if P.funcs.size ≤ f then zkr P (zb4 P cfg draw k n) (draw (zb4 P cfg draw k n)) k (f-P.funcs.size) args h else match cfg.mem f args h with
   | some (v,h')=>some (.ret v,h')
   | none=>if cfg.cold f then (if zan args then (zhm P (zb4 P cfg draw k n) draw k f args).map fun r=>(r,h) else match allM (frz h 64) args with
     | some args'=>(zhm P (zb4 P cfg draw k n) draw k f args').map fun r=>(r,zn6 h (args.flatMap (rchV h 64)))
     | none=>none)
    else zm6 P (zb4 P cfg draw k n) (draw (zb4 P cfg draw k n)) k f args h)
  else if zan args&&decide (f<P.funcs.size) then match cfg.sum f args with
   | some v=>some (.ret v,h)
   | none=>(zhm P (zb4 P cfg draw k n) draw k f args).map fun r=>(r,h)
  else none
def noBM:BM:=fun _ _=>none
def zaj (P:Program) (f:FuncId) (args:List AV) (r:CRes):Prop:=∀ (S:SM) (w:World) (vs:Array Value),(∀ b o v,S b o=some v → w.cell? ⟨b,o,none⟩=some v) → VRs S noBM args vs.toList →
 Calls P f vs w fun e w'=>∃ S',S.le S' ∧ (∀ b o v,S' b o=some v → w'.cell? ⟨b,o,none⟩=some v) ∧ (∀ b o v,S' b o=some v → S b o=some v ∨ w.heap.size ≤ b) ∧
  w.heap.size ≤ w'.heap.size ∧ (∀ b,b<w.heap.size → w'.heap[b]?=w.heap[b]?) ∧ Env w w' ∧ r.R S' noBM e
def zx7 (P:Program) (mem:FuncId → List AV → zaa → Option (AV × zaa)):Prop:=∀ f args h v h',mem f args h=some (v,h') → ∀ n₀ w₀ S₀ S m w (vs:Array Value),Sim n₀ w₀ S₀ S m h w → VRs S m args vs.toList → Calls P f vs w (CQ n₀ w₀ S₀ S m (.ret v) h')
theorem noMem (P:Program):zx7 P fun _ _ _=>none:=fun _ _ _ _ _ h=>by cases h
def zx5 (P:Program) (cfg:Cfg):Prop:=(∀ f args v,cfg.sum f args=some v → zaj P f args (.ret v)) ∧ zx7 P cfg.mem
def zph (inl:FuncId → Bool) (call:zba):Prop:=∀ f args h r h',inl f=false → call f args h=some (r,h') → h'=h ∧ ∀ h2,call f args h2=some (r,h2)
theorem zcn (P:Program) (cfg:Cfg) (draw:zq5) (k:Nat):∀ n,zph cfg.inl (zb4 P cfg draw k n)
 | 0=>fun f args h r h' _ hr=>by unfold zb4 at hr;cases hr
 | n+1=>fun f args h r h' hi hr=>by
  unfold zb4 at hr ⊢
  simp only [hi,Bool.false_eq_true,if_false] at hr ⊢
  split at hr
  ·rename_i hp
   simp only [hp,if_true]
   cases hs:cfg.sum f args with
   | some v=>simp only [hs] at hr ⊢;cases hr;exact ⟨rfl,fun _=>rfl⟩
   | none =>
    simp only [hs] at hr ⊢
    cases hpu:zhm P (zb4 P cfg draw k n) draw k f args with
    | none=>simp [hpu] at hr
    | some r'=>simp [hpu] at hr ⊢;obtain ⟨rfl,rfl⟩:=hr;exact ⟨rfl,rfl⟩
  ·cases hr
def zq4 (P:Program) (inl:FuncId → Bool) (draw:zq5):Prop:=∀ call,zc1 P call → zph inl call → zhf P (draw call)
section
variable {S:SM}{m m':BM}
mutual
theorem VR.pure:∀ (x:AV) {v:Value},x.pureB=true → VR S m x v → VR S m' x v
 | .undef,_,_,_=>by unfold VR;trivial
 | .bool b,_,_,h=>by unfold VR at *;exact h
 | .int k n,_,_,h=>by unfold VR at *;exact h
 | .flt k n,_,_,h=>by unfold VR at *;exact h
 | .str s,_,_,h=>by unfold VR at *;exact h
 | .nilp,_,_,h=>by unfold VR at *;exact h
 | .ptr b ver o,_,hp,h=>by simp [AV.pureB] at hp
 | .pin cs o,_,hp,h=>by unfold VR at *;obtain ⟨B,q,h1,h2⟩:=h;exact ⟨B,q,h1,CR.pure cs (by simpa [AV.pureB] using hp) h2⟩
 | .lst sz xs c0,_,hp,h=>by
  unfold VR at *
  obtain ⟨a,cap,h1,h2,h3,h4⟩:=h
  exact ⟨a,cap,h1,h2,h3,fun hne=>let ⟨B,q,h5,h6⟩:=h4 hne;⟨B,q,h5,ER.pure sz xs (by simpa [AV.pureB] using hp) h6⟩⟩
 | .sl sz b ver o len,_,hp,h=>by simp [AV.pureB] at hp
 | .mapn,_,_,h=>by unfold VR at *;exact h
 | .map b,_,hp,h=>by simp [AV.pureB] at hp
 | .fn f x y,_,hp,h=>by
  simp [AV.pureB] at hp
  unfold VR at *;obtain ⟨x',y',⟨f',h1,h4⟩,h2,h3⟩:=h;exact ⟨x',y',⟨f',h1,(zb5 hp.1).2 ((zb5 hp.1).1 h4)⟩,VRs.pure x hp.2.1 h2,VRs.pure y hp.2.2 h3⟩
 | .nilf,_,_,h=>by unfold VR at *;exact h
 | .ifc t x,_,hp,h=>by unfold VR at *;obtain ⟨u,h1,h2⟩:=h;exact ⟨u,h1,VR.pure x (by simpa [AV.pureB] using hp) h2⟩
 | .nili,_,_,h=>by unfold VR at *;exact h
 | .agg cs,_,hp,h=>by unfold VR at *;obtain ⟨vs,h1,h2⟩:=h;exact ⟨vs,h1,VRs.pure cs (by simpa [AV.pureB] using hp) h2⟩
 | .tup cs,_,hp,h=>by unfold VR at *;obtain ⟨vs,h1,h2⟩:=h;exact ⟨vs,h1,VRs.pure cs (by simpa [AV.pureB] using hp) h2⟩
theorem VRs.pure:∀ (xs:List AV) {vs:List Value},zan xs=true → VRs S m xs vs → VRs S m' xs vs
 | [],_,_,h=>by unfold VRs at *;exact h
 | x::xs,_,hp,h=>by
  simp [zan] at hp
  unfold VRs at *;obtain ⟨v,vs',h1,h2,h3⟩:=h;exact ⟨v,vs',h1,VR.pure x hp.1 h2,VRs.pure xs hp.2 h3⟩
theorem CR.pure:∀ (xs:List AV) {B q:Nat},zan xs=true → CR S m xs B q → CR S m' xs B q
 | [],_,_,_,_=>by unfold CR;trivial
 | x::xs,_,_,hp,h=>by
  simp [zan] at hp
  unfold CR at *;obtain ⟨⟨v,h1,h2⟩,h3⟩:=h;exact ⟨⟨v,h1,VR.pure x hp.1 h2⟩,CR.pure xs hp.2 h3⟩
theorem ER.pure (sz:Nat):∀ (xs:List AV) {B q:Nat},zan xs=true → ER S m sz xs B q → ER S m' sz xs B q
 | [],_,_,_,_=>by unfold ER;trivial
 | .agg cs::xs,_,_,hp,h=>by
  simp [zan,AV.pureB] at hp
  unfold ER at *;exact ⟨CR.pure cs hp.1 h.1,ER.pure sz xs hp.2 h.2⟩
 | .undef::xs,_,_,hp,h=>by simp [zan] at hp;unfold ER at *;obtain ⟨⟨v,h1,h2⟩,h3⟩:=h;exact ⟨⟨v,h1,VR.pure _ hp.1 h2⟩,ER.pure sz xs hp.2 h3⟩
 | .bool _::xs,_,_,hp,h=>by simp [zan] at hp;unfold ER at *;obtain ⟨⟨v,h1,h2⟩,h3⟩:=h;exact ⟨⟨v,h1,VR.pure _ hp.1 h2⟩,ER.pure sz xs hp.2 h3⟩
 | .int _ _::xs,_,_,hp,h=>by simp [zan] at hp;unfold ER at *;obtain ⟨⟨v,h1,h2⟩,h3⟩:=h;exact ⟨⟨v,h1,VR.pure _ hp.1 h2⟩,ER.pure sz xs hp.2 h3⟩
 | .flt _ _::xs,_,_,hp,h=>by simp [zan] at hp;unfold ER at *;obtain ⟨⟨v,h1,h2⟩,h3⟩:=h;exact ⟨⟨v,h1,VR.pure _ hp.1 h2⟩,ER.pure sz xs hp.2 h3⟩
 | .str _::xs,_,_,hp,h=>by simp [zan] at hp;unfold ER at *;obtain ⟨⟨v,h1,h2⟩,h3⟩:=h;exact ⟨⟨v,h1,VR.pure _ hp.1 h2⟩,ER.pure sz xs hp.2 h3⟩
 | .nilp::xs,_,_,hp,h=>by simp [zan] at hp;unfold ER at *;obtain ⟨⟨v,h1,h2⟩,h3⟩:=h;exact ⟨⟨v,h1,VR.pure _ hp.1 h2⟩,ER.pure sz xs hp.2 h3⟩
 | .ptr a b c::xs,_,_,hp,h=>by simp [zan] at hp;unfold ER at *;obtain ⟨⟨v,h1,h2⟩,h3⟩:=h;exact ⟨⟨v,h1,VR.pure (.ptr a b c) hp.1 h2⟩,ER.pure sz xs hp.2 h3⟩
 | .pin a b::xs,_,_,hp,h=>by simp [zan] at hp;unfold ER at *;obtain ⟨⟨v,h1,h2⟩,h3⟩:=h;exact ⟨⟨v,h1,VR.pure (.pin a b) hp.1 h2⟩,ER.pure sz xs hp.2 h3⟩
 | .lst a b c::xs,_,_,hp,h=>by simp [zan] at hp;unfold ER at *;obtain ⟨⟨v,h1,h2⟩,h3⟩:=h;exact ⟨⟨v,h1,VR.pure (.lst a b c) hp.1 h2⟩,ER.pure sz xs hp.2 h3⟩
 | .sl a b c d e::xs,_,_,hp,h=>by simp [zan] at hp;unfold ER at *;obtain ⟨⟨v,h1,h2⟩,h3⟩:=h;exact ⟨⟨v,h1,VR.pure (.sl a b c d e) hp.1 h2⟩,ER.pure sz xs hp.2 h3⟩
 | .mapn::xs,_,_,hp,h=>by simp [zan] at hp;unfold ER at *;obtain ⟨⟨v,h1,h2⟩,h3⟩:=h;exact ⟨⟨v,h1,VR.pure _ hp.1 h2⟩,ER.pure sz xs hp.2 h3⟩
 | .map a::xs,_,_,hp,h=>by simp [zan] at hp;unfold ER at *;obtain ⟨⟨v,h1,h2⟩,h3⟩:=h;exact ⟨⟨v,h1,VR.pure (.map a) hp.1 h2⟩,ER.pure sz xs hp.2 h3⟩
 | .fn a b c::xs,_,_,hp,h=>by simp [zan] at hp;unfold ER at *;obtain ⟨⟨v,h1,h2⟩,h3⟩:=h;exact ⟨⟨v,h1,VR.pure (.fn a b c) hp.1 h2⟩,ER.pure sz xs hp.2 h3⟩
 | .nilf::xs,_,_,hp,h=>by simp [zan] at hp;unfold ER at *;obtain ⟨⟨v,h1,h2⟩,h3⟩:=h;exact ⟨⟨v,h1,VR.pure _ hp.1 h2⟩,ER.pure sz xs hp.2 h3⟩
 | .ifc a b::xs,_,_,hp,h=>by simp [zan] at hp;unfold ER at *;obtain ⟨⟨v,h1,h2⟩,h3⟩:=h;exact ⟨⟨v,h1,VR.pure (.ifc a b) hp.1 h2⟩,ER.pure sz xs hp.2 h3⟩
 | .nili::xs,_,_,hp,h=>by simp [zan] at hp;unfold ER at *;obtain ⟨⟨v,h1,h2⟩,h3⟩:=h;exact ⟨⟨v,h1,VR.pure _ hp.1 h2⟩,ER.pure sz xs hp.2 h3⟩
 | .tup a::xs,_,_,hp,h=>by simp [zan] at hp;unfold ER at *;obtain ⟨⟨v,h1,h2⟩,h3⟩:=h;exact ⟨⟨v,h1,VR.pure (.tup a) hp.1 h2⟩,ER.pure sz xs hp.2 h3⟩
end
end
section
variable {P:Program}{n₀:Nat}{w₀:World}{S₀ S S':SM}{m:BM}{h:zaa}{w w':World}
theorem zmj (m:BM):noBM.le m:=fun _ _ _ h=>by cases h
theorem Sim.called (s:Sim n₀ w₀ S₀ S m h w) (hS:S.le S') (hst:∀ b o v,S' b o=some v → w'.cell? ⟨b,o,Option.none⟩=some v) (hnew:∀ b o v,S' b o=some v → S b o=some v ∨ w.heap.size ≤ b) (hsz:w.heap.size ≤ w'.heap.size) (hold:∀ b,b<w.heap.size → w'.heap[b]?=w.heap[b]?) (henv:Env w w') :
  Sim n₀ w₀ S₀ S' m h w' where
 stable:=hst
 size:=Nat.le_trans s.size hsz
 old b hb:=by rw [hold b (by have:=s.size;omega)];exact s.old b hb
 new b o v hv:=by
  rcases hnew b o v hv with h | h
  ·exact s.new b o v h
  ·exact .inr (Nat.le_trans s.size h)
 blk b x hx:=(s.blk b x hx).same hS (BM.le_refl _) (fun ver B K h1 h2=>by
  obtain ⟨g2,g3⟩:=s.img hx h1 h2
  refine ⟨hold B g3,fun o ho=>?_⟩
  cases hso:S' B o with
  | none=>rfl
  | some v =>
   rcases hnew B o v hso with h | h
   ·rw [ho] at h;cases h
   ·omega) (fun ver hv=>s.top hx hv)
 inj:=s.inj
 lt:=s.lt
 env:=s.env.trans henv
theorem zuz (S:SM) (w:World) (hst:∀ b o v,S b o=some v → w.cell? ⟨b,o,none⟩=some v):Sim w.heap.size w S S noBM [] w where
 stable:=hst
 size:=Nat.le_refl _
 old _ _:=rfl
 new _ _ _ h:=.inl h
 blk b x hx:=by simp at hx
 inj b b' x x' ver ver' B K K' _ hx:=by simp at hx
 lt b ver x hx:=by cases hx
 env:=Env.refl _
def SM.keep (S:SM) (n:Nat) (w:World):SM:=fun b o=>if n ≤ b then w.cell? ⟨b,o,none⟩ else S b o
theorem z21 (s:Sim n₀ w₀ S₀ S m h w):S.le (S.keep n₀ w) ∧ (∀ b o v,S.keep n₀ w b o=some v → w.cell? ⟨b,o,none⟩=some v) ∧ (∀ b o v,S.keep n₀ w b o=some v → S₀ b o=some v ∨ n₀ ≤ b) ∧ z3x h S m (S.keep n₀ w):=by
 have hle:S.le (S.keep n₀ w):=fun b o v hv=>by
  unfold SM.keep
  split
  ·exact s.stable b o v hv
  ·exact hv
 refine ⟨hle,fun b o v hv=>?_,fun b o v hv=>?_,hle,fun b ver el cs f B K hb hm i x hx=>?_⟩
 ·unfold SM.keep at hv
  split at hv
  ·exact hv
  ·exact s.stable b o v hv
 ·unfold SM.keep at hv
  split at hv
  ·rename_i hn;exact .inr hn
  ·exact s.new b o v hv
 ·obtain ⟨B',K',el₀,vs,fz,e1,e2,e3,e4,e5,e6,e7⟩:=zh9 s hb
  rw [hm] at e1;cases e1
  obtain ⟨v,g1,g2⟩:=e6 i x hx
  have hn:=(s.img hb rfl hm).1
  refine ⟨v,?_,g2⟩
  unfold SM.keep
  rw [if_pos hn]
  simpa using g1
theorem zs8 {g:AV → Option AV}{r r':CRes}{m':BM}(hr:r.map? g=some r') {e:Ending}(hg:∀ x y v,g x=some y → VR S m x v → VR S' m' y v) (hR:r.R S m e):r'.R S' m' e:=by
 cases r with
 | ret v =>
  unfold CRes.map? at hr
  cases hv:g v with
  | none=>simp [hv] at hr
  | some y =>
   simp [hv] at hr;subst hr
   obtain ⟨u,e1,h1⟩:=hR
   exact ⟨u,e1,hg _ _ _ hv h1⟩
 | pan v =>
  unfold CRes.map? at hr
  cases hv:g v with
  | none=>simp [hv] at hr
  | some y =>
   simp [hv] at hr;subst hr
   obtain ⟨u,e1,h1⟩:=hR
   exact ⟨u,e1,hg _ _ _ hv h1⟩
theorem zee {call:zba}{draw:zq5}(hcall:zc1 P call) {inl:FuncId → Bool}(hap:zph inl call) (hdraw:zq4 P inl draw) {k:Nat}{f:FuncId}{args:List AV}{r:CRes}(hr:zhm P call draw k f args=some r):zaj P f args r:=by
 intro S w vs hst hv
 unfold zhm at hr
 split at hr
 ·rename_i r' h hb
  refine (zlv hcall (hdraw call hcall hap) hb (zuz S w hst) hv).mono fun e w' hq=>?_
  obtain ⟨S',m',h1,h2,s',hR⟩:=hq
  obtain ⟨k1,k2,k3,k4⟩:=z21 s'
  refine ⟨S'.keep w.heap.size w',SM.le_trans h1 k1,k2,k3,s'.size,s'.old,s'.env,?_⟩
  exact zs8 hr (fun x y v hx hxv=>(zjl k4 64).1 x y v hx hxv) hR
 ·cases hr
theorem zj1 {cfg:Cfg}{draw:zq5}(hsum:zx5 P cfg) (hdraw:zq4 P cfg.inl draw) (k:Nat):∀ n,zc1 P (zb4 P cfg draw k n)
 | 0=>⟨fun f args h r h' hr=>(by unfold zb4 at hr;cases hr),fun b args h r h' hr=>(by unfold zb4 at hr;cases hr)⟩
 | n+1=>by
  have ih:=zj1 hsum hdraw k n
  refine ⟨?_,fun b args h r h' hr n₀ w₀ S₀ S m w vs B K hB s hv=>?_⟩
  case refine_2 =>
   unfold zb4 at hr
   split at hr
   ·rw [if_pos (Nat.le_add_right _ _),Nat.add_sub_cancel_left] at hr
    exact zpi ih (hdraw _ ih (zcn P cfg draw k n)) hr hB s hv
   ·rename_i hi
    exfalso
    rw [if_neg (by simp)] at hr
    cases hr
  intro f args h r h' hr hlt n₀ w₀ S₀ S m w vs s hv
  have pur:∀ {r':CRes},zaj P f args r' → zan args=true → r'=r → h'=h → Calls P f vs w (CQ n₀ w₀ S₀ S m r h'):=fun {r'} hp hpu e1 e2=>by
   subst e1 e2
   refine (hp S w vs s.stable (VRs.pure args hpu hv)).mono fun e w' hq=>?_
   obtain ⟨S',g1,g2,g3,g4,g5,genv,g6⟩:=hq
   refine ⟨S',m,g1,BM.le_refl _,s.called g1 g2 g3 g4 g5 genv,?_⟩
   cases r' with
   | ret v=>obtain ⟨u,e1,h1⟩:=g6;exact ⟨u,e1,h1.mono (SM.le_refl _) (zmj m)⟩
   | pan v=>obtain ⟨u,e1,h1⟩:=g6;exact ⟨u,e1,h1.mono (SM.le_refl _) (zmj m)⟩
  unfold zb4 at hr
  split at hr
  ·rw [if_neg (Nat.not_le.2 hlt)] at hr
   split at hr
   ·rename_i hm
    cases hr
    exact hsum.2 _ _ _ _ _ hm _ _ _ _ _ _ _ s hv
   split at hr
   ·split at hr
    ·rename_i hpu
     cases hp:zhm P (zb4 P cfg draw k n) draw k f args with
     | none=>simp [hp] at hr
     | some r' =>
      simp [hp] at hr
      obtain ⟨e1,e2⟩:=hr
      exact pur (zee ih (zcn P cfg draw k n) hdraw hp) hpu e1 e2.symm
    ·split at hr
     ·rename_i args' ha
      cases hp:zhm P (zb4 P cfg draw k n) draw k f args' with
      | none=>simp [hp] at hr
      | some r' =>
       simp [hp] at hr
       obtain ⟨e1,e2⟩:=hr
       subst e1 e2
       obtain ⟨S1,k1,k2,k3⟩:=zv4 s ha hv
       refine (zee ih (zcn P cfg draw k n) hdraw hp S1 w vs k2.stable (k3 noBM)).mono fun e w' hq=>?_
       obtain ⟨S',g1,g2,g3,g4,g5,genv,g6⟩:=hq
       refine ⟨S',m,SM.le_trans k1 g1,BM.le_refl _,k2.called g1 g2 g3 g4 g5 genv,?_⟩
       cases r' with
       | ret v=>obtain ⟨u,e1,h1⟩:=g6;exact ⟨u,e1,h1.mono (SM.le_refl _) (zmj m)⟩
       | pan v=>obtain ⟨u,e1,h1⟩:=g6;exact ⟨u,e1,h1.mono (SM.le_refl _) (zmj m)⟩
     ·cases hr
   ·exact zlv ih (hdraw _ ih (zcn P cfg draw k n)) hr s hv
  ·split at hr
   ·rename_i hpu0
    have hpu:zan args=true:=by simp only [Bool.and_eq_true] at hpu0;exact hpu0.1
    split at hr
    ·rename_i v hs
     cases hr
     exact pur (hsum.1 _ _ _ hs) hpu rfl rfl
    ·cases hp:zhm P (zb4 P cfg draw k n) draw k f args with
     | none=>simp [hp] at hr
     | some r' =>
      simp [hp] at hr
      obtain ⟨e1,e2⟩:=hr
      exact pur (zee ih (zcn P cfg draw k n) hdraw hp) hpu e1 e2.symm
   ·cases hr
end
end Go.Abs
