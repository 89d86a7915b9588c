/- Texts put together: AbsP. -/
import Derived.Test.YtalaebjjleddaaaGreatFlt3
set_option linter.unusedVariables false
set_option linter.unusedSimpArgs false
namespace Go.Abs
inductive Kind where
 | k0 | k1 | k2 | k3
 deriving DecidableEq
def zch (P:Program) (inl:FuncId → Bool) (o:Oper):Kind :=
 match o.op with
 | .move _ | .assign _ | .pick _ _ _ | .build _ _ | .buildSlice _ _ _ | .nilCheck _ | .binOp _ _ _ _ _ | .unOp _ _ _ | .makeInterface _ _ | .makeFunc _ _ _ | .fieldAddr _ _ _ | .field _ _ _ | .indexAddr _ _ _ | .index _ _ _ | .extract _ _ | .sliceToArrayPointer _ _ | .typeAssert _ _ _ _=>.k0
 | .load _ _ | .slice _ _ _ _ _=>.k1
 | .alloc _ | .box _ _ | .makeSlice _ _ _=>.k2
 | .convert _ d _=>match P.underlying d with
  | some (.int _)=>.k0
  | _=>.k3
 | .call c=>match c.callee with
  | .builtin .len=>if (c.argTypes.toList.any fun t=>match P.underlying t with | some (.map _ _)=>true | _=>false) then .k3 else .k0
  | .builtin .min=>.k0
  | .builtin .max=>.k0
  | .builtin .cap=>.k0
  | .builtin .unsafeSliceData=>.k0
  | .value (.func f)=>if !fnOk P f then .k2 else if inl f then .k3 else .k0
  | _=>.k3
 | _=>.k3
noncomputable def valA (P:Program) (call:zba) (ops:Array Oper) (o:Oper) (tm:Tm) (h:zaa):Option (AV × zaa) :=
 match zbf ops o tm with
 | some false=>some (.tup [],h)
 | some true=>match exOp P (ev tm) h o with
  | some (.val v)=>some (v,h)
  | some (.valh v h')=>some (v,h')
  | some (.call f args)=>match call f args h with
   | some (.ret v,h')=>some (v,h')
   | _=>none
  | _=>none
 | none=>none
abbrev Mon:=List (Oper × AV)
def offM (ops:Array Oper) (M:Mon) (o:Oper):Bool :=
 match o.dst with
 | some d=>M.all fun p=>!(p.1.looksAt ops).contains d
 | none=>true
def zed (P:Program) (inl:FuncId → Bool) (ops:Array Oper) (L:Array Bool) (M:Mon) (i:Nat):Bool :=
 match ops[i]? with
 | none=>false
 | some o=>match zch P inl o with
  | .k0=>Region.free .any ops L i&&offM ops M o
  | .k1=>Region.free .any ops L i&&(offM ops M o&&offM ops [(o,.undef)] o)
  | _=>false
def zgc (P:Program) (inl:FuncId → Bool) (o:Oper) (v:AV) (M:Mon):Mon:=if zch P inl o=.k1 then (o,v)::M else M
mutual
def beqV:AV → AV → Bool
 | .undef,.undef=>true
 | .bool a,.bool b=>a==b
 | .int k n,.int k' n'=>decide (k=k')&&decide (n=n')
 | .flt k n,.flt k' n'=>decide (k=k')&&decide (n=n')
 | .str s,.str t=>decide (s=t)
 | .nilp,.nilp=>true
 | .ptr b v o,.ptr b' v' o'=>decide (b=b')&&(decide (v=v')&&decide (o=o'))
 | .pin cs o,.pin cs' o'=>decide (o=o')&&zf6 cs cs'
 | .lst sz xs c,.lst sz' xs' c'=>decide (sz=sz')&&(zf6 xs xs'&&(c==c'))
 | .sl sz b v o l,.sl sz' b' v' o' l'=>decide (sz=sz')&&(decide (b=b')&&(decide (v=v')&&(decide (o=o')&&decide (l=l'))))
 | .mapn,.mapn=>true
 | .map b,.map b'=>decide (b=b')
 | .fn f x y,.fn f' x' y'=>decide (f=f')&&(zf6 x x'&&zf6 y y')
 | .nilf,.nilf=>true
 | .ifc t x,.ifc t' x'=>decide (t=t')&&beqV x x'
 | .nili,.nili=>true
 | .agg cs,.agg cs'=>zf6 cs cs'
 | .tup cs,.tup cs'=>zf6 cs cs'
 | _,_=>false
def zf6:List AV → List AV → Bool
 | [],[]=>true
 | x::xs,y::ys=>beqV x y&&zf6 xs ys
 | _,_=>false
end
mutual
theorem zhz:∀ (x:AV) {y:AV},beqV x y=true → x=y
 | .undef,y,h=>by cases y<;>simp [beqV] at h;rfl
 | .bool a,y,h=>by cases y<;>simp [beqV] at h;rw [h]
 | .int k n,y,h=>by cases y<;>simp [beqV] at h;rw [h.1,h.2]
 | .flt k n,y,h=>by cases y<;>simp [beqV] at h;rw [h.1,h.2]
 | .str s,y,h=>by cases y<;>simp [beqV] at h;rw [h]
 | .nilp,y,h=>by cases y<;>simp [beqV] at h;rfl
 | .ptr b v o,y,h=>by cases y<;>simp [beqV] at h;rw [h.1,h.2.1,h.2.2]
 | .pin cs o,y,h=>by cases y<;>simp [beqV] at h;rw [h.1,zc9 cs h.2]
 | .lst sz xs c,y,h=>by cases y<;>simp [beqV] at h;rw [h.1,zc9 xs h.2.1,h.2.2]
 | .sl sz b v o l,y,h=>by cases y<;>simp [beqV] at h;rw [h.1,h.2.1,h.2.2.1,h.2.2.2.1,h.2.2.2.2]
 | .mapn,y,h=>by cases y<;>simp [beqV] at h;rfl
 | .map b,y,h=>by cases y<;>simp [beqV] at h;rw [h]
 | .fn f x z,y,h=>by cases y<;>simp [beqV] at h;rw [h.1,zc9 x h.2.1,zc9 z h.2.2]
 | .nilf,y,h=>by cases y<;>simp [beqV] at h;rfl
 | .ifc t x,y,h=>by cases y<;>simp [beqV] at h;rw [h.1,zhz x h.2]
 | .nili,y,h=>by cases y<;>simp [beqV] at h;rfl
 | .agg cs,y,h=>by cases y<;>simp [beqV] at h;rw [zc9 cs h]
 | .tup cs,y,h=>by cases y<;>simp [beqV] at h;rw [zc9 cs h]
theorem zc9:∀ (xs:List AV) {ys:List AV},zf6 xs ys=true → xs=ys
 | [],ys,h=>by cases ys<;>simp [zf6] at h;rfl
 | x::xs,ys,h=>by cases ys<;>simp [zf6] at h;rw [zhz x h.1,zc9 xs h.2]
end
def beqE:List (AV × AV) → List (AV × AV) → Bool
 | [],[]=>true
 | (k,v)::r,(k',v')::r'=>beqV k k'&&(beqV v v'&&beqE r r')
 | _,_=>false
theorem zxr:∀ (xs:List (AV × AV)) {ys:List (AV × AV)},beqE xs ys=true → xs=ys
 | [],ys,h=>by cases ys<;>simp [beqE] at h;rfl
 | (k,v)::r,ys,h=>by
  cases ys with
  | nil=>simp [beqE] at h
  | cons y ys=>obtain ⟨k',v'⟩:=y;simp [beqE] at h;rw [zhz k h.1,zhz v h.2.1,zxr r h.2.2]
def beqB:AB → AB → Bool
 | .dead,.dead=>true
 | .cells v el cs f,.cells v' el' cs' f'=>decide (v=v')&&(decide (el=el')&&(zf6 cs cs'&&decide (f=f')))
 | .map es,.map es'=>beqE es es'
 | _,_=>false
theorem z3q (x:AB) {y:AB}(h:beqB x y=true):x=y:=by
 cases x<;>cases y<;>simp [beqB] at h
 ·rfl
 ·rw [h.1,h.2.1,zc9 _ h.2.2.1,h.2.2.2]
 ·rw [zxr _ h]
def beqH:zaa → zaa → Bool
 | [],[]=>true
 | x::xs,y::ys=>beqB x y&&beqH xs ys
 | _,_=>false
theorem zxq:∀ (xs:zaa) {ys:zaa},beqH xs ys=true → xs=ys
 | [],ys,h=>by cases ys<;>simp [beqH] at h;rfl
 | x::xs,ys,h=>by cases ys<;>simp [beqH] at h;rw [z3q x h.1,zxq xs h.2]
def beqT:Tr → Tr → Bool
 | .leaf,.leaf=>true
 | .node v l r,.node v' l' r'=>beqV v v'&&(beqT l l'&&beqT r r')
 | _,_=>false
theorem zqv:∀ (x:Tr) {y:Tr},beqT x y=true → x=y
 | .leaf,y,h=>by cases y<;>simp [beqT] at h;rfl
 | .node v l r,y,h=>by cases y<;>simp [beqT] at h;rw [zhz v h.1,zqv l h.2.1,zqv r h.2.2]
def z3p (x y:Tm):Bool:=decide (x.n=y.n)&&beqT x.t y.t
theorem z0v {x y:Tm}(h:z3p x y=true):x=y:=by
 obtain ⟨n,t⟩:=x
 obtain ⟨n',t'⟩:=y
 unfold z3p at h
 simp only [Bool.and_eq_true,decide_eq_true_eq] at h
 obtain ⟨h1,h2⟩:=h
 rw [h1,zqv _ h2]
def agree (f:Nat → Option (Tm × zaa)):List Nat → Option (Tm × zaa)
 | []=>none
 | [i]=>f i
 | i::is=>match f i,agree f is with
  | some a,some b=>if z3p a.1 b.1&&beqH a.2 b.2 then some a else none
  | _,_=>none
theorem zpb {f:Nat → Option (Tm × zaa)}:∀ {l:List Nat}{r:Tm × zaa},agree f l=some r → ∀ i∈l,f i=some r
 | [],r,h,i,hi=>by cases hi
 | [j],r,h,i,hi=>by simp at hi;subst hi;exact h
 | j::k::l,r,h,i,hi=>by
  unfold agree at h
  split at h
  ·rename_i a b h1 h2
   split at h
   ·rename_i he
    cases h
    simp only [Bool.and_eq_true] at he
    have hab:r=b:=by
     obtain ⟨a1,a2⟩:=r
     obtain ⟨b1,b2⟩:=b
     have e1:a1=b1:=z0v he.1
     have e2:a2=b2:=zxq _ he.2
     rw [e1,e2]
    rcases List.mem_cons.1 hi with rfl | hi
    ·exact h1
    ·rw [hab];exact zpb h2 i hi
   ·cases h
  ·cases h
noncomputable def zs5 (P:Program) (call:zba) (ops:Array Oper) (M:Mon) (tm:Tm) (h:zaa):Bool :=
 M.all fun p=>match valA P call ops p.1 tm h with
  | some (v,_)=>beqV v p.2
  | none=>false
noncomputable def rgD (P:Program) (inl:FuncId → Bool) (call:zba) (ops:Array Oper):Nat → Array Bool → Mon → Tm → zaa → Option (Tm × zaa)
 | 0,L,M,tm,h=>if (Region.ready .any ops L).isEmpty&&zs5 P call ops M tm h then some (tm,h) else none
 | n+1,L,M,tm,h =>
  if zs5 P call ops M tm h then
   match Region.ready .any ops L with
   | []=>some (tm,h)
   | r::rs=>match (r::rs).find? (zed P inl ops L M) with
    | some i=>match ops[i]? with
     | some o=>match valA P call ops o tm h with
      | some (v,h')=>rgD P inl call ops n (L.setIfInBounds i true) (zgc P inl o v M) (putT tm o.dst v) h'
      | none=>none
     | none=>none
    | none=>agree (fun i=>match ops[i]? with
     | some o=>match valA P call ops o tm h with
      | some (v,h')=>rgD P inl call ops n (L.setIfInBounds i true) M (putT tm o.dst v) h'
      | none=>none
     | none=>none) (r::rs)
  else none
def z0u (ops:Array Oper) (j:Nat) (M:Mon):Bool:=match ops[j]? with
 | none=>false
 | some oj=>M.all fun p=>(List.range ops.size).all fun k=>match ops[k]? with
  | some ok=>!(ok.dst==p.1.dst)||oj.after.any fun e=>Region.binds .any e&&e.on==k
  | none=>true
def zqw (ops:Array Oper):Nat → Nat → Nat → Bool
 | 0,_,_=>false
 | n+1,j,i=>match ops[j]? with
  | some oj=>oj.after.any fun e=>Region.binds .any e&&(e.on==i||zqw ops n e.on i)
  | none=>false
def zfp (ops:Array Oper) (j:Nat) (M:Mon):Bool:=M.all fun p=>(List.range ops.size).all fun k=>match ops[k]? with
 | some ok=>!(ok.dst==p.1.dst)||zqw ops ops.size j k
 | none=>true
def Closed (ops:Array Oper) (L:Array Bool):Prop:=∀ k ok,ops[k]?=some ok → L.getD k false=true → ∀ e∈ok.after,Region.binds .any e=true → L.getD e.on false=true
theorem Closed.nil {ops:Array Oper}{n:Nat}:Closed ops (Array.replicate n false):=fun k ok _ h=>by
 exfalso
 by_cases hk:k<n
 ·simp [hk] at h
 ·simp [hk] at h
theorem Closed.set {ops:Array Oper}{L:Array Bool}(hc:Closed ops L) {j:Nat}(hj:j∈Region.ready .any ops L):Closed ops (L.setIfInBounds j true):=fun k ok hk h e he hb=>by
 obtain ⟨h0,oj,hoj,hall⟩:=mem_ready.1 hj
 by_cases hjk:j=k
 ·subst hjk
  rw [hoj] at hk;cases hk
  exact getD_set_true (hall e he hb)
 ·rw [getD_set_ne false hjk] at h
  exact getD_set_true (hc k ok hk h e he hb)
theorem zsd {ops:Array Oper}{L:Array Bool}(hc:Closed ops L) {i:Nat}:∀ {n j:Nat},(∀ oj,ops[j]?=some oj → ∀ e∈oj.after,Region.binds .any e=true → L.getD e.on false=true) → zqw ops n j i=true → L.getD i false=true
 | 0,j,_,h=>by simp [zqw] at h
 | n+1,j,hj,h=>by
  unfold zqw at h
  split at h
  ·rename_i oj hoj
   rw [Array.any_eq_true] at h
   obtain ⟨x,hx,h⟩:=h
   simp only [Bool.and_eq_true,Bool.or_eq_true,beq_iff_eq] at h
   have hd:=hj oj hoj _ (Array.getElem_mem hx) h.1
   rcases h.2 with e | e
   ·rw [← e];exact hd
   ·exact zsd hc (fun o' ho'=>hc _ o' ho' hd) e
  ·cases h
theorem zqx {j:Nat}{oi:Oper}{M:Mon}{ops:Array Oper}(h:zfp ops j M=true) {v:AV}(hm:(oi,v)∈M) {i:Nat}(hi:ops[i]?=some oi):zqw ops ops.size j i=true:=by
 unfold zfp at h
 have h1:=List.all_eq_true.1 h _ hm
 have hlt:i<ops.size:=(Array.getElem?_eq_some_iff.1 hi).1
 have h2:=List.all_eq_true.1 h1 i (List.mem_range.2 hlt)
 rw [hi] at h2
 simpa only [beq_self_eq_true,Bool.not_true,Bool.false_or] using h2
theorem zt6 {j:Nat}{M M':Mon}{ops:Array Oper}(h:zfp ops j M=true) (hs:∀ p∈M',p∈M):zfp ops j M'=true:=by
 unfold zfp at h ⊢
 rw [List.all_eq_true] at h ⊢
 exact fun p hp=>h p (hs p hp)
theorem zqy {j:Nat}{M M':Mon}{ops:Array Oper}(h:M.map (·.1)=M'.map (·.1)):zfp ops j M=zfp ops j M':=by
 unfold zfp
 have:∀ (l:Mon) (f:Oper → Bool),(l.all fun p=>f p.1)=(l.map (·.1)).all f:=fun l f=>by rw [List.all_map];rfl
 exact (this M fun o=>(List.range ops.size).all fun k=>match ops[k]? with
  | some ok=>!(ok.dst==o.dst)||zqw ops ops.size j k
  | none=>true).trans ((congrArg (fun l:List Oper=>l.all _) h).trans (this M' _).symm)
def z24 (ops:Array Oper) (j:Nat):Bool:=match ops[j]? with
 | some o=>match o.op with
  | .store _ _ _=>true
  | _=>false
 | none=>false
def zwc (P:Program) (o:Oper):Bool:=match o.op with
 | .call c=>match c.callee with
  | .value (.func f)=>fnOk P f
  | _=>false
 | _=>false
def zgw (P:Program) (inl:FuncId → Bool) (ops:Array Oper):Nat → Array Bool → Mon → Option (List (Nat × Nat))
 | 0,L,_=>if (Region.ready .any ops L).isEmpty then some [] else none
 | n+1,L,M=>match Region.ready .any ops L with
  | []=>some []
  | r::rs=>match (r::rs).find? (zed P inl ops L M) with
   | some i=>match ops[i]? with
    | some o=>match zch P inl o with
     | .k1=>(zgw P inl ops n (L.setIfInBounds i true) ((o,.undef)::M)).map ((i,1)::·)
     | _=>(zgw P inl ops n (L.setIfInBounds i true) M).map ((i,cond (rs.isEmpty&&zwc P o) 4 0)::·)
    | none=>none
   | none=>if rs.isEmpty then match (if !M.isEmpty&&zfp ops r M then zgw P inl ops n (L.setIfInBounds r true) [] else none) with
     | some rest=>if z24 ops r||(z0u ops r M&&rest.any (fun q=>Nat.ble 2 q.2&&!(Nat.beq q.2 4))) then some ((r,3)::rest) else (zgw P inl ops n (L.setIfInBounds r true) M).map ((r,2)::·)
     | none=>(zgw P inl ops n (L.setIfInBounds r true) M).map ((r,2)::·)
    else none
inductive Out where
 | norm (tm:Tm) (h:zaa)
 | pan (v:AV) (h:zaa)
noncomputable def panA (P:Program) (call:zba) (ops:Array Oper) (o:Oper) (tm:Tm) (h:zaa):Option (AV × zaa) :=
 match zbf ops o tm with
 | some true=>match exOp P (ev tm) h o with
  | some (.call f args)=>match call f args h with
   | some (.pan v,h')=>some (v,h')
   | _=>none
  | _=>none
 | _=>none
noncomputable def runS (P:Program) (call:zba) (ops:Array Oper):List (Nat × Nat) → Mon → Tm → zaa → Option Out
 | [],_,tm,h=>some (.norm tm h)
 | (i,k)::rest,M,tm,h=>match ops[i]? with
  | none=>none
  | some o=>match valA P call ops o tm h with
   | none=>match k with
    | 0=>none
    | 1=>none
    | _=>match panA P call ops o tm h with
     | some (v,h')=>some (.pan v h')
     | none=>none
   | some (v,h')=>match k with
    | 0=>runS P call ops rest M (putT tm o.dst v) h'
    | 1=>runS P call ops rest ((o,v)::M) (putT tm o.dst v) h'
    | 3=>runS P call ops rest [] (putT tm o.dst v) h'
    | 4=>runS P call ops rest M (putT tm o.dst v) h'
    | _=>if zs5 P call ops M (putT tm o.dst v) h' then runS P call ops rest M (putT tm o.dst v) h' else none
noncomputable def undefs (l:List Oper) (tm:Tm):Tm:=l.foldl (fun tm o=>putT tm o.dst .undef) tm
noncomputable def zcf (P:Program) (inl:FuncId → Bool):zq5:=fun call ops st =>
 match zgw P inl ops ops.size (Array.replicate ops.size false) [] with
 | some order=>if P.follows .mixedOrders&&Region.noSelect ops then match runS P call ops order [] st.tm st.h with
  | some (.norm tm h)=>some (.norm,⟨tm,h,st.df⟩)
  | some (.pan v h)=>some (.pan v,⟨undefs ops.toList st.tm,h,st.df⟩)
  | none=>none else none
 | none=>if P.follows .mixedOrders&&Region.noSelect ops then match rgD P inl call ops ops.size (Array.replicate ops.size false) [] st.tm st.h with
  | some (tm,h)=>some (.norm,⟨tm,h,st.df⟩)
  | none=>none else none
section
variable {P:Program}{inl:FuncId → Bool}{call:zba}{ops:Array Oper}
theorem zdl {ρ ρ':Operand → Option AV}:∀ {l:List Operand},(∀ x∈l,ρ x=ρ' x) → zb9 ρ l=zb9 ρ' l
 | [],_=>rfl
 | x::xs,h=>by unfold zb9;rw [h x (by simp),zdl fun y hy=>h y (by simp [hy])]
theorem ze7 {ρ ρ':Operand → Option AV}:∀ {l:List (Nat × Operand)},(∀ x∈l.map (·.2),ρ x=ρ' x) → ze8 ρ l=ze8 ρ' l
 | [],_=>rfl
 | (i,x)::xs,h=>by unfold ze8;rw [h x (by simp),ze7 fun y hy=>h y (by simp at hy ⊢;exact .inr hy)]
theorem zhq {ρ ρ':Operand → Option AV}{o:Option Operand}(h:∀ x∈o.toArray,ρ x=ρ' x):optM ρ o=optM ρ' o:=by
 cases o with
 | none=>rfl
 | some x=>unfold optM;simp only [h x (by simp)]
theorem zhy {ρ ρ':Operand → Option AV}{h:zaa}{o:Oper}(hρ:∀ x∈o.op.operands,ρ x=ρ' x):exOp P ρ h o=exOp P ρ' h o:=by
 cases hop:o.op<;>rw [hop] at hρ<;>simp only [Op.operands] at hρ<;>simp only [exOp,hop]
 case move x=>rw [hρ x (by simp)]
 case assign x=>rw [hρ x (by simp)]
 case pick c a b=>rw [hρ c (by simp),hρ a (by simp),hρ b (by simp)]
 case box e x=>rw [hρ x (by simp)]
 case build t ps=>rw [ze7 fun x hx=>hρ x (by simpa using hx)]
 case buildSlice t n ps=>rw [ze7 fun x hx=>hρ x (by simpa using hx)]
 case load t p=>rw [hρ p (by simp)]
 case store t p x=>rw [hρ p (by simp),hρ x (by simp)]
 case nilCheck x=>rw [hρ x (by simp)]
 case binOp op t x y yt=>rw [hρ x (by simp),hρ y (by simp)]
 case unOp op t x=>rw [hρ x (by simp)]
 case convert s d x=>rw [hρ x (by simp)]
 case makeInterface t x=>rw [hρ x (by simp)]
 case makeFunc f xs ys =>
  rw [zdl (l:=xs.toList) fun x hx=>hρ x (by simp at hx ⊢;exact .inl hx),zdl (l:=ys.toList) fun x hx=>hρ x (by simp at hx ⊢;exact .inr hx)]
 case makeSlice t l c=>rw [hρ l (by simp),hρ c (by simp)]
 case slice t x lo hi mx =>
  rw [hρ x (by simp),zhq (o:=lo) fun y hy=>hρ y (by simp at hy ⊢;simp [hy]),zhq (o:=hi) fun y hy=>hρ y (by simp at hy ⊢;simp [hy]),zhq (o:=mx) fun y hy=>hρ y (by simp at hy ⊢;simp [hy])]
 case fieldAddr t x i=>rw [hρ x (by simp)]
 case field t x i=>rw [hρ x (by simp)]
 case indexAddr t x ix=>rw [hρ x (by simp),hρ ix (by simp)]
 case index t x ix=>rw [hρ x (by simp),hρ ix (by simp)]
 case extract x i=>rw [hρ x (by simp)]
 case call c =>
  simp only [Call.operands] at hρ
  rw [zdl (l:=c.args.toList) fun x hx=>hρ x (by simp at hx ⊢;exact .inr hx)]
  cases hc:c.callee with
  | value f=>have hf:=hρ f (by simp [hc]);simp only [hf]
  | builtin b=>rfl
  | invoke r n=>have hf:=hρ r (by simp [hc]);simp only [hf]
 case typeAssert x xt t ok=>rw [hρ x (by simp)]
 case lookup t x k ok=>rw [hρ x (by simp),hρ k (by simp)]
 case sliceToArrayPointer t x=>rw [hρ x (by simp)]
 case mapUpdate t x k v=>rw [hρ x (by simp),hρ k (by simp),hρ v (by simp)]
 case insert t x k v=>rw [hρ x (by simp),hρ k (by simp),hρ v (by simp)]
theorem zqs {h h2:zaa}{ts:List TypeId}{args:List AV}:zav P h2 .len ts args=zav P h .len ts args:=by
 unfold zav
 rcases ts with _ | ⟨t,_ | ⟨t2,l⟩⟩<;>rcases args with _ | ⟨x,_ | ⟨y,l2⟩⟩<;>rfl
theorem zko {h:zaa}{ts:List TypeId}{args:List AV}(hm:(ts.any fun t=>match P.underlying t with | some (.map _ _)=>true | _=>false)=false):zdt P h .len ts args=none:=by
 unfold zdt
 simp only
 split
 ·rename_i t b
  split
  ·rename_i ht _
   simp [ht] at hm
  ·rfl
 ·rfl
theorem zj4 {h:zaa}{ts:List TypeId}{args:List AV}{r:R}(hr:zav P h .len ts args=some r):∃ v,r=.val v:=by
 unfold zav at hr
 rcases ts with _ | ⟨t,_ | ⟨t2,l⟩⟩<;>rcases args with _ | ⟨x,_ | ⟨y,l2⟩⟩<;>simp only at hr
 all_goals first | (cases hr;done) | skip
 all_goals repeat' split at hr
 all_goals first | (cases hr;done) | (cases hr;exact ⟨_,rfl⟩)
theorem zuo {o:Oper}{tm tm':Tm}{h:zaa}(ht:∀ t∈o.looksAt ops,tm.get t=tm'.get t):valA P call ops o tm h=valA P call ops o tm' h:=by
 have hg:zbf ops o tm=zbf ops o tm':=by
  unfold zbf
  cases hgd:o.guard with
  | none=>rfl
  | some p =>
   obtain ⟨j,want⟩:=p
   simp only
   cases hd:(ops[j]?).bind (·.dst) with
   | none=>rfl
   | some d =>
    simp only
    have:=ht d (by simp [Oper.looksAt,hgd,hd])
    rw [this]
 have he:exOp P (ev tm) h o=exOp P (ev tm') h o:=zhy fun x hx=>by
  cases x with
  | tmp t=>simp only [ev];rw [ht t (by simp only [Oper.looksAt,List.mem_append,List.mem_filterMap];exact .inl ⟨.tmp t,by simpa using hx,rfl⟩)]
  | _=>rfl
 unfold valA
 rw [hg,he]
theorem zvs {o:Oper}{tm tm':Tm}{h:zaa}(ht:∀ t∈o.looksAt ops,tm.get t=tm'.get t):panA P call ops o tm h=panA P call ops o tm' h:=by
 have hg:zbf ops o tm=zbf ops o tm':=by
  unfold zbf
  cases hgd:o.guard with
  | none=>rfl
  | some p =>
   obtain ⟨j,want⟩:=p
   simp only
   cases hd:(ops[j]?).bind (·.dst) with
   | none=>rfl
   | some d =>
    simp only
    have:=ht d (by simp [Oper.looksAt,hgd,hd])
    rw [this]
 have he:exOp P (ev tm) h o=exOp P (ev tm') h o:=zhy fun x hx=>by
  cases x with
  | tmp t=>simp only [ev];rw [ht t (by simp only [Oper.looksAt,List.mem_append,List.mem_filterMap];exact .inl ⟨.tmp t,by simpa using hx,rfl⟩)]
  | _=>rfl
 unfold panA
 rw [hg,he]
theorem zme {tm:Tm}{dst:Option Tmp}{v:AV}{t:Nat}(h:∀ d,dst=some d → d≠t):(putT tm dst v).get t=tm.get t:=by
 cases dst with
 | none=>rfl
 | some d=>exact Tm.get_set_ne tm v (Ne.symm (h d rfl))
theorem zey {i j:Oper}{tm:Tm}{h:zaa}{v:AV}(ha:∀ d,i.dst=some d → d ∉ j.looksAt ops):valA P call ops j (putT tm i.dst v) h=valA P call ops j tm h :=
 zuo (fun t ht=>zme fun d hd e=>ha d hd (e ▸ ht))
theorem z2h {i j:Oper}{tm:Tm}{h:zaa}{v:AV}(ha:∀ d,i.dst=some d → d ∉ j.looksAt ops):panA P call ops j (putT tm i.dst v) h=panA P call ops j tm h :=
 zvs (fun t ht=>zme fun d hd e=>ha d hd (e ▸ ht))
theorem zl6 {q:Option AV}{x:AV}{hh:zaa}:q.map R.val=some (.valh x hh) ↔ False:=by cases q<;>simp
theorem zl7 {q:Option AV}{f:FuncId}{args:List AV}:q.map R.val=some (.call f args) ↔ False:=by cases q<;>simp
theorem z3f {o:Oper}{tm:Tm}{h:zaa}(hk:zch P inl o=.k0):(∀ h2,exOp P (ev tm) h2 o=exOp P (ev tm) h o) ∧ (∀ x hh,exOp P (ev tm) h o≠some (.valh x hh)) ∧ ∀ f args,exOp P (ev tm) h o=some (.call f args) → inl f=false:=by
 cases hop:o.op<;>simp only [zch,hop] at hk<;>try (cases hk;done)
 case convert s d x =>
  simp only [exOp,hop]
  cases hd:P.underlying d with
  | none=>rw [hd] at hk;cases hk
  | some dd =>
   rw [hd] at hk
   cases dd<;>try (cases hk;done)
   rename_i k
   have e:∀ h2 a,zkq P h2 s d a=match P.underlying s,a with | some _,.int _ n=>some (.int k (k.wrap n),none) | _,_=>none:=fun h2 a=>by
    unfold zkq
    cases hs:P.underlying s with
    | none=>simp
    | some ss=>simp only [hd];cases ss<;>cases a<;>rfl
   have e2:∀ h2 a,zhd P h2 s d a=none:=fun h2 a=>by
    unfold zhd
    simp only [hd]
    split
    ·rename_i q;cases q
    ·rename_i q;cases q
    ·rfl
   refine ⟨fun h2=>?_,fun x hh=>?_,fun f args=>?_⟩
   ·simp only [e,e2]
   ·simp only [e,e2];repeat' split
    all_goals simp [ofRes]
   ·simp only [e,e2];repeat' split
    all_goals simp [ofRes]
 case call c =>
  simp only [exOp,hop]
  cases hc:c.callee with
  | builtin b =>
   rw [hc] at hk
   have key:∀ (h2:zaa) (args:List AV),((match zav P h2 b c.argTypes.toList args with | some r=>some r | none=>zdt P h2 b c.argTypes.toList args)=(match zav P h b c.argTypes.toList args with | some r=>some r | none=>zdt P h b c.argTypes.toList args)) ∧
     ∀ r,(match zav P h2 b c.argTypes.toList args with | some r=>some r | none=>zdt P h2 b c.argTypes.toList args)=some r → ∃ v,r=.val v:=fun h2 args=>by
    cases b<;>try (cases hk;done)
    case len =>
     have hz:∀ h2,zdt P h2 .len c.argTypes.toList args=none:=fun h2=>zko (by
      simp only at hk
      split at hk
      ·cases hk
      ·rename_i hq;simpa using hq)
     refine ⟨by rw [hz,hz,zqs (h:=h) (h2:=h2)],fun r hr=>?_⟩
     rw [hz] at hr
     split at hr
     ·rename_i hb;cases hr;exact zj4 hb
     ·cases hr
    all_goals
     refine ⟨rfl,fun r hr=>?_⟩
     first
      | (rw [show zav P h2 .min c.argTypes.toList args=none from rfl] at hr)
      | (rw [show zav P h2 .max c.argTypes.toList args=none from rfl] at hr)
      | (rw [show zav P h2 .cap c.argTypes.toList args=none from rfl] at hr)
      | (rw [show zav P h2 .unsafeSliceData c.argTypes.toList args=none from rfl] at hr)
     simp only [zdt] at hr
     repeat' split at hr
     all_goals first | (cases hr;done) | (cases hr;exact ⟨_,rfl⟩) | (rw [Option.map_eq_some_iff] at hr;obtain ⟨n,_,rfl⟩:=hr;exact ⟨_,rfl⟩)
   refine ⟨fun h2=>?_,fun x hh=>?_,fun f args=>?_⟩
   ·split
    ·rfl
    ·exact (key h2 _).1
   ·split
    ·simp
    ·intro e;obtain ⟨v,hv⟩:=(key h _).2 _ e;cases hv
   ·split
    ·simp
    ·intro e;obtain ⟨v,hv⟩:=(key h _).2 _ e;cases hv
  | invoke r n=>rw [hc] at hk;cases hk
  | value x =>
   rw [hc] at hk
   cases x<;>try (cases hk;done)
   rename_i g
   simp only at hk ⊢
   have hok:fnOk P g=true:=by
    cases hg:fnOk P g
    ·simp [hg] at hk
    ·rfl
   have hi:inl g=false:=by
    cases hg:inl g
    ·rfl
    ·simp [hg,hok] at hk
   simp only [ev,hok,if_true]
   refine ⟨fun h2=>by first | rfl | trivial,fun x hh=>?_,fun f args=>?_⟩
   ·repeat' split
    all_goals simp
   ·split
    ·simp
    ·intro e;cases e;exact hi
 all_goals
  simp only [exOp,hop]
  refine ⟨fun h2=>by first | rfl | trivial,fun x hh=>?_,fun f args=>?_⟩
  ·repeat' split
   all_goals simp [zl6]
  ·repeat' split
   all_goals simp [zl7]
theorem zh6 {h g:zaa}{b:Nat}{x:AB}(hb:h[b]?=some x):(h++g)[b]?=some x:=by
 have:b<h.length:=(List.getElem?_eq_some_iff.1 hb).1
 rw [List.getElem?_append_left this];exact hb
theorem zs9 {h g:zaa}{t:TypeId}{p v:AV}(hl:zbv P h t p=some v):zbv P (h++g) t p=some v:=by
 unfold zbv at *
 split at hl
 ·split at hl
  ·rename_i hb ht
   simp only [zh6 hb,ht];exact hl
  ·cases hl
 ·exact hl
 ·cases hl
theorem z3e {ρ:Operand → Option AV}{o:Oper}{h:zaa}{r:R}(hk:zch P inl o=.k1) (hr:exOp P ρ h o=some r):(∃ v,r=.val v) ∧ ∀ g,exOp P ρ (h++g) o=some r:=by
 cases hop:o.op<;>simp only [zch,hop] at hk<;>try (cases hk;done)
 case load t p =>
  simp only [exOp,hop] at hr ⊢
  split at hr
  ·rename_i a ha
   cases hl:zbv P h t a with
   | none=>simp [hl] at hr
   | some v =>
    simp [hl] at hr;subst hr
    exact ⟨⟨v,rfl⟩,fun g=>by simp [ha,zs9 hl]⟩
  ·cases hr
 case slice t x lo hi mx =>
  simp only [exOp,hop] at hr ⊢
  cases e1:ρ x with
  | none=>simp [e1] at hr
  | some v =>
  cases e2:optM ρ lo with
  | none=>simp [e1,e2] at hr
  | some l =>
  cases e3:optM ρ hi with
  | none=>simp [e1,e2,e3] at hr
  | some h' =>
  cases e4:optM ρ mx with
  | none=>simp [e1,e2,e3,e4] at hr
  | some m =>
  cases e5:P.underlying t with
  | none=>simp [e1,e2,e3,e4,e5] at hr
  | some d =>
   simp only [e1,e2,e3,e4,e5] at hr ⊢
   split at hr
   ·rename_i s
    refine ⟨?_,fun g=>hr⟩
    cases hs:zbm 1 (.str s) l h' m with
    | none=>simp [hs] at hr
    | some y=>simp [hs] at hr;exact ⟨y,hr.symm⟩
   ·rename_i e
    refine ⟨?_,fun g=>hr⟩
    repeat' split at hr
    all_goals first | (cases hr;done) | skip
    all_goals (simp only [Option.map_eq_some_iff] at hr;obtain ⟨y,_,hy⟩:=hr;exact ⟨y,hy.symm⟩)
   ·rename_i n e b ver o'
    split at hr
    ·rename_i de hde
     split at hr
     ·rename_i ver' cs f hb
      simp only [fun g=>zh6 (g:=g) hb]
      refine ⟨?_,fun g=>hr⟩
      split at hr
      ·simp only [Option.map_eq_some_iff] at hr;obtain ⟨y,_,hy⟩:=hr;exact ⟨y,hy.symm⟩
      ·cases hr
     ·cases hr
    ·cases hr
   ·cases hr
 all_goals (exfalso;repeat' split at hk)
 all_goals cases hk
theorem zz0 (hc:zph inl call) {o:Oper}(hk:zch P inl o=.k0) {tm:Tm}{h h':zaa}{v:AV}(hv:valA P call ops o tm h=some (v,h')):h'=h ∧ ∀ h2,valA P call ops o tm h2=some (v,h2):=by
 obtain ⟨e1,e2,e3⟩:=z3f (P:=P) (inl:=inl) (tm:=tm) (h:=h) hk
 unfold valA at hv ⊢
 cases hg:zbf ops o tm with
 | none=>simp [hg] at hv
 | some b =>
  cases b with
  | false=>simp [hg] at hv ⊢;obtain ⟨rfl,rfl⟩:=hv;exact ⟨rfl,rfl⟩
  | true =>
   simp only [hg] at hv ⊢
   simp only [e1]
   split at hv
   ·rename_i x hx;cases hv;exact ⟨rfl,fun h2=>rfl⟩
   ·rename_i x hh hx;exact (e2 _ _ hx).elim
   ·rename_i f args hx
    split at hv
    ·rename_i x hh hcl
     cases hv
     obtain ⟨q1,q2⟩:=hc _ _ _ _ _ (e3 _ _ hx) hcl
     exact ⟨q1,fun h2=>by simp only [q2 h2]⟩
    ·cases hv
   ·cases hv
theorem z2z {o:Oper}(hk:zch P inl o=.k1) {tm:Tm}{h h':zaa}{v:AV}(hv:valA P call ops o tm h=some (v,h')):h'=h ∧ ∀ g,valA P call ops o tm (h++g)=some (v,h++g):=by
 unfold valA at hv ⊢
 cases hg:zbf ops o tm with
 | none=>simp [hg] at hv
 | some b =>
  cases b with
  | false=>simp [hg] at hv ⊢;obtain ⟨rfl,rfl⟩:=hv;exact ⟨rfl,rfl⟩
  | true =>
   simp only [hg] at hv ⊢
   cases hx:exOp P (ev tm) h o with
   | none=>simp [hx] at hv
   | some r =>
    obtain ⟨⟨y,rfl⟩,e⟩:=z3e hk hx
    simp only [hx] at hv
    cases hv
    exact ⟨rfl,fun g=>by simp only [e g]⟩
def AllA (P:Program) (call:zba) (ops:Array Oper) (fin:Out):Nat → Array Bool → Mon → Tm → zaa → Prop
 | 0,L,M,tm,h=>(∀ p∈M,valA P call ops p.1 tm h=some (p.2,h)) ∧ Region.ready .any ops L=[] ∧ Out.norm tm h=fin
 | n+1,L,M,tm,h=>(∀ p∈M,valA P call ops p.1 tm h=some (p.2,h)) ∧ (Region.ready .any ops L=[] → Out.norm tm h=fin) ∧ ∀ i∈Region.ready .any ops L,
  (∃ o v h',ops[i]?=some o ∧ valA P call ops o tm h=some (v,h') ∧ (AllA P call ops fin n (L.setIfInBounds i true) M (putT tm o.dst v) h' ∨ (zfp ops i M=true ∧ AllA P call ops fin n (L.setIfInBounds i true) [] (putT tm o.dst v) h'))) ∨ (∃ o v h',ops[i]?=some o ∧ panA P call ops o tm h=some (v,h') ∧ fin=.pan v h')
theorem AllA.mon {fin:Out}{n:Nat}{L:Array Bool}{M:Mon}{tm:Tm}{h:zaa}(H:AllA P call ops fin n L M tm h):∀ p∈M,valA P call ops p.1 tm h=some (p.2,h):=by
 cases n with
 | zero=>exact H.1
 | succ n=>exact H.1
theorem zzd {tm:Tm}{x y:Option Tmp}{v u:AV}(h:∀ d,x=some d → y≠some d):putT (putT tm x v) y u=putT (putT tm y u) x v:=by
 cases x with
 | none=>rfl
 | some d =>
  cases y with
  | none=>rfl
  | some e =>
   have hne:d≠e:=fun he=>h d rfl (he ▸ rfl)
   exact Tm.set_comm tm v u hne
theorem zfb {M:Mon}{o:Oper}(h:offM ops M o=true):∀ p∈M,∀ d,o.dst=some d → d ∉ p.1.looksAt ops:=by
 intro p hp d hd
 unfold offM at h
 rw [hd] at h
 have:=List.all_eq_true.1 h p hp
 simpa using this
theorem AllA.mono {fin:Out}{M M':Mon}(hs:∀ p∈M,p∈M'):∀ {n:Nat}{L:Array Bool}{tm:Tm}{h:zaa},AllA P call ops fin n L M' tm h → AllA P call ops fin n L M tm h
 | 0,_,_,_,H=>⟨fun p hp=>H.1 p (hs p hp),H.2⟩
 | n+1,_,_,_,H=>⟨fun p hp=>H.1 p (hs p hp),H.2.1,fun i hi=>(H.2.2 i hi).imp (fun ⟨o,u,h',a,b,c⟩=>⟨o,u,h',a,b,c.imp (fun c=>AllA.mono hs c) fun ⟨c1,c2⟩=>⟨zt6 c1 hs,c2⟩⟩) id⟩
theorem zkd (hc:zph inl call) {i:Nat}{oi:Oper}{v:AV}{fin:Out}(hi:ops[i]?=some oi) (hk01:zch P inl oi=.k0 ∨ (zch P inl oi=.k1 ∧ offM ops [(oi,.undef)] oi=true)) :
  ∀ (n:Nat) (M:Mon) (hoff:offM ops M oi=true) (L:Array Bool) (hcl:Closed ops L) (tm:Tm) (h:zaa),
   (∀ j oj,ops[j]?=some oj → j≠i → L.getD j true=false → (∀ e∈oj.after,Region.binds .any e=true → e.on≠i) → oi.apart ops oj=true) →
   i∈Region.ready .any ops L → valA P call ops oi tm h=some (v,h) → (∀ p∈M,valA P call ops p.1 tm h=some (p.2,h)) →
   AllA P call ops fin n (L.setIfInBounds i true) (zgc P inl oi v M) (putT tm oi.dst v) h → AllA P call ops fin (n+1) L M tm h:=by
 have sub:∀ (M:Mon),∀ p∈M,p∈zgc P inl oi v M:=fun M p hp=>by unfold zgc;split<;>simp [hp]
 intro n
 induction n with
 | zero =>
  intro M hoff L hcl tm h _ hr hy hM H
  refine ⟨hM,fun h0=>(by rw [h0] at hr;cases hr),fun j hj=>?_⟩
  by_cases hji:j=i
  ·subst hji;exact .inl ⟨oi,v,h,hi,hy,.inl (AllA.mono (sub M) H)⟩
  ·have:=ready_mono hj hji
   rw [H.2.1] at this
   cases this
 | succ n ih =>
  intro M hoff L hcl tm h hfree hr hy hM H
  have hoff':=zfb hoff
  refine ⟨hM,fun h0=>(by rw [h0] at hr;cases hr),fun j hj=>?_⟩
  by_cases hji:j=i
  ·subst hji;exact .inl ⟨oi,v,h,hi,hy,.inl (AllA.mono (sub M) H)⟩
  ·obtain ⟨hjun,oj,hoj,hall⟩:=mem_ready.1 hj
   have hiun:=(mem_ready.1 hr).1
   have hnot:∀ e∈oj.after,Region.binds .any e=true → e.on≠i:=fun e he hb heq=>by
    have h1:=hall e he hb
    rw [heq] at h1
    rcases Nat.lt_or_ge i L.size with h' | h'
    ·simp [h'] at hiun h1;rw [hiun] at h1;cases h1
    ·simp [Array.getElem?_eq_none h'] at hiun
   obtain ⟨a1,a2,a3⟩:=Oper.apart_spec (hfree j oj hoj hji hjun hnot)
   rcases H.2.2 j (ready_mono hj hji) with ⟨oj',u,hj',hoj',hvj,h1⟩ | ⟨oj',u,hj',hoj',hvj,hfin⟩
   case inr =>
    rw [hoj] at hoj';cases hoj'
    exact .inr ⟨oj,u,hj',hoj,by rw [z2h a1] at hvj;exact hvj,hfin⟩
   rw [hoj] at hoj';cases hoj'
   left
   have hvj':valA P call ops oj tm h=some (u,hj'):=by rw [zey a1] at hvj;exact hvj
   have hcm:putT (putT tm oi.dst v) oj.dst u=putT (putT tm oj.dst u) oi.dst v:=zzd fun d e1 e2=>a2 d e1 e2
   have hfree':∀ k ok,ops[k]?=some ok → k≠i → (L.setIfInBounds j true).getD k true=false → (∀ e∈ok.after,Region.binds .any e=true → e.on≠i) → oi.apart ops ok=true:=fun k ok hk hki hun hno=>by
    refine hfree k ok hk hki ?_ hno
    by_cases hjk:j=k
    ·subst hjk;exact hjun
    ·rw [getD_set_ne true hjk] at hun;exact hun
   refine ⟨oj,u,hj',hoj,hvj',?_⟩
   rcases h1 with h1 | ⟨hb,h1⟩
   ·left
    have hmon:=h1.mon
    have hy':valA P call ops oi (putT tm oj.dst u) hj'=some (v,hj'):=by
     rcases hk01 with k | ⟨k,hself⟩
     ·rw [zey a3]
      exact (zz0 hc k hy).2 _
     ·have:=hmon (oi,v) (by unfold zgc;rw [if_pos k];simp)
      rw [hcm,zey (i:=oi) (fun d hd=>zfb hself (oi,.undef) (by simp) d hd)] at this
      exact this
    refine ih M hoff (L.setIfInBounds j true) (hcl.set hj) (putT tm oj.dst u) hj' hfree' (ready_mono hr (Ne.symm hji)) hy' (fun p hp=>?_) ?_
    ·have:=hmon p (sub M p hp)
     rw [hcm,zey (i:=oi) (fun d hd=>hoff' p hp d hd)] at this
     exact this
    ·rw [Array.setIfInBounds_comm _ _ hji,← hcm]
     exact h1
   ·right
    rcases hk01 with k | ⟨k,hself⟩
    ·have htm:∀ M:Mon,zgc P inl oi v M=M:=fun M=>by unfold zgc;rw [if_neg (by rw [k];decide)]
     rw [htm] at hb
     refine ⟨hb,ih [] (by unfold offM;split<;>rfl) (L.setIfInBounds j true) (hcl.set hj) (putT tm oj.dst u) hj' hfree' (ready_mono hr (Ne.symm hji)) ?_ (fun p hp=>by cases hp) ?_⟩
     ·rw [zey a3]
      exact (zz0 hc k hy).2 _
     ·rw [htm,Array.setIfInBounds_comm _ _ hji,← hcm]
      exact h1
    ·exfalso
     have ha:=zqx hb (show (oi,v)∈zgc P inl oi v M by unfold zgc;rw [if_pos k];simp) hi
     have hd:=zsd hcl (fun o' ho'=>by rw [hoj] at ho';cases ho';exact hall) ha
     rcases Nat.lt_or_ge i L.size with h' | h'
     ·simp [h'] at hiun hd;rw [hiun] at hd;cases hd
     ·simp [Array.getElem?_eq_none h'] at hiun
theorem zhr {M:Mon}{tm:Tm}{h:zaa}(hk:∀ p∈M,zch P inl p.1=.k1) (hm:zs5 P call ops M tm h=true):∀ p∈M,valA P call ops p.1 tm h=some (p.2,h):=by
 intro p hp
 have:=List.all_eq_true.1 hm p hp
 cases hv:valA P call ops p.1 tm h with
 | none=>simp [hv] at this
 | some r =>
  obtain ⟨v,h'⟩:=r
  simp only [hv] at this
  rw [zhz _ this,(z2z (hk p hp) hv).1]
theorem zyp {M:Mon}{o:Oper}{v:AV}(hk:∀ p∈M,zch P inl p.1=.k1):∀ p∈zgc P inl o v M,zch P inl p.1=.k1:=by
 intro p hp
 unfold zgc at hp
 split at hp
 ·rename_i k
  rcases List.mem_cons.1 hp with rfl | hp
  ·exact k
  ·exact hk p hp
 ·exact hk p hp
theorem zi3 (hc:zph inl call) {fin:Tm × zaa}:∀ (n:Nat) (L:Array Bool) (M:Mon) (tm:Tm) (h:zaa),Closed ops L → (∀ p∈M,zch P inl p.1=.k1) → rgD P inl call ops n L M tm h=some fin → AllA P call ops (.norm fin.1 fin.2) n L M tm h
 | 0,L,M,tm,h,hcl,hk,hr=>by
  unfold rgD at hr
  split at hr
  ·rename_i he
   simp only [Bool.and_eq_true] at he
   cases hr;exact ⟨zhr hk he.2,by simpa using he.1,rfl⟩
  ·cases hr
 | n+1,L,M,tm,h,hcl,hk,hr=>by
  unfold rgD at hr
  split at hr
  ·rename_i hmok
   have hM:=zhr hk hmok
   split at hr
   ·rename_i he;cases hr
    exact ⟨hM,fun _=>rfl,fun i hi=>by rw [he] at hi;cases hi⟩
   ·rename_i r rs he
    split at hr
    ·rename_i i hfi
     have hmem:i∈Region.ready .any ops L:=by rw [he];exact List.mem_of_find?_eq_some hfi
     have htk:=List.find?_some hfi
     split at hr
     ·rename_i o ho
      split at hr
      ·rename_i v h' hv
       have key:∀ (k01:zch P inl o=.k0 ∨ (zch P inl o=.k1 ∧ offM ops [(o,.undef)] o=true)),Region.free .any ops L i=true → offM ops M o=true → AllA P call ops (.norm fin.1 fin.2) (n+1) L M tm h:=fun k01 hf hoff=>by
        have hh:h'=h:=by
         rcases k01 with k | k
         ·exact (zz0 hc k hv).1
         ·exact (z2z k.1 hv).1
        subst hh
        exact zkd hc ho k01 n M hoff L hcl tm h' (Region.free_spec ho hf) hmem hv hM (zi3 hc n _ _ _ _ (hcl.set hmem) (zyp hk) hr)
       unfold zed at htk
       simp only [ho] at htk
       split at htk
       ·rename_i k
        simp only [Bool.and_eq_true] at htk
        exact key (.inl k) htk.1 htk.2
       ·rename_i k
        simp only [Bool.and_eq_true] at htk
        exact key (.inr ⟨k,htk.2.2⟩) htk.1 htk.2.1
       ·cases htk
      ·cases hr
     ·cases hr
    ·refine ⟨hM,fun h0=>(by rw [h0] at he;cases he),fun i hi=>?_⟩
     rw [he] at hi
     have:=zpb hr i hi
     split at this
     ·rename_i o ho
      split at this
      ·rename_i v h' hv
       exact .inl ⟨o,v,h',ho,hv,.inl (zi3 hc n _ _ _ _ (hcl.set (by rw [he];exact hi)) hk this)⟩
      ·cases this
     ·cases this
  ·cases hr
def zy0 (M M':Mon):Prop:=M.map (·.1)=M'.map (·.1)
theorem zvw {M M':Mon}(h:zy0 M M') (o:Oper):offM ops M o=offM ops M' o:=by
 unfold offM
 cases o.dst with
 | none=>rfl
 | some d =>
  have:∀ (l:Mon),(l.all fun p=>!(p.1.looksAt ops).contains d)=(l.map (·.1)).all fun q=>!(q.looksAt ops).contains d:=fun l=>by
   rw [List.all_map];rfl
  simp only [this]
  rw [h]
theorem zl5 {M M':Mon}(h:zy0 M M') (L:Array Bool):zed P inl ops L M=zed P inl ops L M':=by
 funext i
 unfold zed
 cases ops[i]? with
 | none=>rfl
 | some o=>simp only [zvw h o]
theorem zda (hc:zph inl call) {fin:Out}:∀ (n:Nat) (L:Array Bool) (M' M:Mon) (order:List (Nat × Nat)) (tm:Tm) (h:zaa),Closed ops L → zy0 M' M → (∀ p∈M,zch P inl p.1=.k1) → (∀ p∈M,valA P call ops p.1 tm h=some (p.2,h)) →
  zgw P inl ops n L M'=some order → runS P call ops order M tm h=some fin → AllA P call ops fin n L M tm h
 | 0,L,M',M,order,tm,h,hcl,hs,hk,hM,ho,hr=>by
  unfold zgw at ho
  split at ho
  ·rename_i he
   cases ho
   unfold runS at hr;cases hr
   exact ⟨hM,by simpa using he,rfl⟩
  ·cases ho
 | n+1,L,M',M,order,tm,h,hcl,hs,hk,hM,ho,hr=>by
  unfold zgw at ho
  split at ho
  ·rename_i he
   cases ho
   unfold runS at hr;cases hr
   exact ⟨hM,fun _=>rfl,fun i hi=>by rw [he] at hi;cases hi⟩
  ·rename_i r rs he
   split at ho
   ·rename_i i hfi
    rw [zl5 hs] at hfi
    have hmem:i∈Region.ready .any ops L:=by rw [he];exact List.mem_of_find?_eq_some hfi
    have htk:=List.find?_some hfi
    split at ho
    ·rename_i o hoi
     have hrun:∀ {k rest},(k=0 ∨ k=1) → order=(i,k)::rest → ∃ v h',valA P call ops o tm h=some (v,h') ∧ runS P call ops ((i,k)::rest) M tm h=some fin:=fun {k rest} hk e=>by
      subst e
      have hr':=hr
      unfold runS at hr'
      simp only [hoi] at hr'
      cases hv:valA P call ops o tm h with
      | none=>rcases hk with rfl | rfl<;>simp [hv] at hr'
      | some p=>obtain ⟨v,h'⟩:=p;exact ⟨v,h',rfl,hr⟩
     unfold zed at htk
     simp only [hoi] at htk
     split at ho
     ·rename_i k
      rw [k] at htk
      simp only [Bool.and_eq_true] at htk
      cases hsc:zgw P inl ops n (L.setIfInBounds i true) ((o,.undef)::M') with
      | none=>simp [hsc] at ho
      | some rest =>
       simp only [hsc,Option.map_some,Option.some.injEq] at ho
       obtain ⟨v,h',hv,hr2⟩:=hrun (.inr rfl) ho.symm
       have hh:=(z2z k hv).1
       subst hh
       unfold runS at hr2
       simp only [hoi,hv] at hr2
       have hoff:=zfb htk.2.1
       have hself:=zfb htk.2.2 (o,.undef) (by simp)
       have hM':∀ p∈(o,v)::M,valA P call ops p.1 (putT tm o.dst v) h'=some (p.2,h'):=fun p hp=>by
        rcases List.mem_cons.1 hp with rfl | hp
        ·rw [zey (i:=o) (fun d hd=>hself d hd)];exact hv
        ·rw [zey (i:=o) (fun d hd=>hoff p hp d hd)];exact hM p hp
       have htm:zgc P inl o v M=(o,v)::M:=by unfold zgc;rw [if_pos k]
       refine zkd hc hoi (.inr ⟨k,htk.2.2⟩) n M htk.2.1 L hcl tm h' (Region.free_spec hoi htk.1) hmem hv hM ?_
       rw [htm]
       exact zda hc n _ ((o,.undef)::M') _ rest _ _ (hcl.set hmem) (by unfold zy0 at *;simp [hs]) (fun p hp=>by
        rcases List.mem_cons.1 hp with rfl | hp
        ·exact k
        ·exact hk p hp) hM' hsc hr2
     ·rename_i hnk
      split at htk
      ·rename_i k
       simp only [Bool.and_eq_true] at htk
       cases hsc:zgw P inl ops n (L.setIfInBounds i true) M' with
       | none=>simp [hsc] at ho
       | some rest =>
        simp only [hsc,Option.map_some,Option.some.injEq] at ho
        have hoff:=zfb htk.2
        have htm:∀ v,zgc P inl o v M=M:=fun v=>by unfold zgc;rw [if_neg (by rw [k];decide)]
        have key:∀ v h',valA P call ops o tm h=some (v,h') → runS P call ops rest M (putT tm o.dst v) h'=some fin → AllA P call ops fin (n+1) L M tm h:=fun v h' hv hr2=>by
         have hh:=(zz0 hc k hv).1
         subst hh
         refine zkd hc hoi (.inl k) n M htk.2 L hcl tm h' (Region.free_spec hoi htk.1) hmem hv hM ?_
         rw [htm]
         exact zda hc n _ M' _ rest _ _ (hcl.set hmem) hs hk (fun p hp=>by rw [zey (i:=o) (fun d hd=>hoff p hp d hd)];exact hM p hp) hsc hr2
        cases hb:(rs.isEmpty&&zwc P o) with
        | false =>
         rw [hb] at ho
         obtain ⟨v,h',hv,hr2⟩:=hrun (.inl rfl) ho.symm
         unfold runS at hr2
         simp only [hoi,hv] at hr2
         exact key v h' hv hr2
        | true =>
         rw [hb] at ho
         simp only [Bool.and_eq_true] at hb
         have hrs:rs=[]:=by simpa using hb.1
         subst hrs
         have hir:i=r:=by
          have:=List.mem_of_find?_eq_some hfi
          simpa using this
         subst ho
         simp only [cond] at hr
         unfold runS at hr
         cases hv:valA P call ops o tm h with
         | none =>
          simp only [hoi,hv] at hr
          split at hr
          ·rename_i v' h' hp
           cases hr
           refine ⟨hM,fun h0=>(by rw [h0] at he;cases he),fun j hj=>?_⟩
           rw [he] at hj
           simp at hj
           subst hj
           exact .inr ⟨o,v',h',by rw [← hir];exact hoi,hp,rfl⟩
          ·cases hr
         | some p =>
          obtain ⟨v,h'⟩:=p
          simp only [hoi,hv] at hr
          exact key v h' hv hr
      ·rename_i k;exact (hnk k).elim
      ·cases htk
    ·cases ho
   ·split at ho
    ·rename_i hemp
     have hrs:rs=[]:=by simpa using hemp
     subst hrs
     have old:(zgw P inl ops n (L.setIfInBounds r true) M').map ((r,2)::·)=some order → AllA P call ops fin (n+1) L M tm h:=fun ho=>by
      cases hsc:zgw P inl ops n (L.setIfInBounds r true) M' with
      | none=>simp [hsc] at ho
      | some rest =>
       simp only [hsc,Option.map_some,Option.some.injEq] at ho
       subst ho
       refine ⟨hM,fun h0=>(by rw [h0] at he;cases he),fun i hi=>?_⟩
       rw [he] at hi
       simp at hi
       subst hi
       unfold runS at hr
       cases hoi:ops[i]? with
       | none=>simp [hoi] at hr
       | some o =>
        cases hv:valA P call ops o tm h with
        | none =>
         simp only [hoi,hv] at hr
         split at hr
         ·rename_i v' h' hp
          cases hr
          exact .inr ⟨o,v',h',rfl,hp,rfl⟩
         ·cases hr
        | some p =>
         obtain ⟨v,h'⟩:=p
         simp only [hoi,hv] at hr
         split at hr
         ·rename_i hmok
          exact .inl ⟨o,v,h',rfl,hv,.inl (zda hc n _ M' _ rest _ _ (hcl.set (by rw [he];simp)) hs hk (zhr hk hmok) hsc hr)⟩
         ·cases hr
     split at ho
     ·rename_i rest hsc
      split at ho
      ·cases ho
       split at hsc
       ·rename_i hb
        simp only [Bool.and_eq_true] at hb
        have hb2:zfp ops r M=true:=by rw [zqy hs.symm];exact hb.2
        refine ⟨hM,fun h0=>(by rw [h0] at he;cases he),fun i hi=>?_⟩
        rw [he] at hi
        simp at hi
        subst hi
        unfold runS at hr
        cases hoi:ops[i]? with
        | none=>simp [hoi] at hr
        | some o =>
         cases hv:valA P call ops o tm h with
         | none =>
          simp only [hoi,hv] at hr
          split at hr
          ·rename_i v' h' hp
           cases hr
           exact .inr ⟨o,v',h',rfl,hp,rfl⟩
          ·cases hr
         | some p =>
          obtain ⟨v,h'⟩:=p
          simp only [hoi,hv] at hr
          exact .inl ⟨o,v,h',rfl,hv,.inr ⟨hb2,zda hc n _ [] [] rest _ _ (hcl.set (by rw [he];simp)) rfl (fun p hp=>by cases hp) (fun p hp=>by cases hp) hsc hr⟩⟩
       ·cases hsc
      ·exact old ho
     ·exact old ho
    ·cases ho
end
section
variable {P:Program}{n₀:Nat}{w₀:World}{S₀ S:SM}{m:BM}{w:World}{call:zba}{ops:Array Oper}
theorem Sim.drawn {S:SM}{m:BM}{h:zaa}(s:Sim n₀ w₀ S₀ S m h w) (k:Nat):Sim n₀ w₀ S₀ S m h { w with drawn:=k }:=s.heap rfl ⟨rfl,rfl,rfl⟩
theorem zyd (hcall:zc1 P call) {i:Nat}{o:Oper}(ho:ops[i]?=some o) {st:St}{v:AV}{h':zaa}(hv:valA P call ops o st.tm st.h=some (v,h')) {a:Act}(f:FR n₀ w₀ S₀ S m st a w) {Q:Exit → Act → World → Prop}{K:Act → World → Prop}
  (hn:∀ S' m' a' w',S.le S' → m.le m' → FR n₀ w₀ S₀ S' m' ⟨putT st.tm o.dst v,h',st.df⟩ a' w' → K a' w') {rd:Option Nat}(hcalm:rd=none ∨ zgm o=true):wpOpIn (FW rd) 0 P ops Q i K a w:=by
 unfold wpOpIn
 simp only [ho]
 unfold valA at hv
 split at hv
 ·rename_i hg
  cases hv
  rw [zej f.tm hg]
  simp only [Bool.false_eq_true,if_false]
  exact ⟨fun _ _=>trivial,hn S m _ w (SM.le_refl _) (BM.le_refl _) (f.put (SM.le_refl _) (BM.le_refl _) f.sim o.dst zq9)⟩
 ·rename_i hg
  rw [zej f.tm hg,if_pos rfl]
  have hst:zgu P call o st=some (.norm,⟨putT st.tm o.dst v,h',st.df⟩):=by
   unfold zgu
   split
   ·rename_i c hop;simp [exOp,hop] at hv
   ·rename_i c hop;simp [exOp,hop] at hv
   ·split at hv
    ·rename_i hx;cases hv;simp only [hx]
    ·rename_i hx;cases hv;simp only [hx]
    ·rename_i hx
     split at hv
     ·rename_i hcl;cases hv;simp only [hx,hcl]
     ·cases hv
    ·cases hv
  exact zfs hcall hst f (fun S' m' st' a' w' e h1 h2 f'=>by cases e;exact hn S' m' a' w' h1 h2 f') (fun S' m' v st' u w' e=>by cases e) hcalm
 ·cases hv
theorem zye (hcall:zc1 P call) {i:Nat}{o:Oper}(ho:ops[i]?=some o) {st:St}{v:AV}{h':zaa}(hv:panA P call ops o st.tm st.h=some (v,h')) {a:Act}(f:FR n₀ w₀ S₀ S m st a w) {Q:Exit → Act → World → Prop}{K:Act → World → Prop}
  (hp:∀ S' m' w' u,S.le S' → m.le m' → FR n₀ w₀ S₀ S' m' ⟨st.tm,h',st.df⟩ a w' → VR S' m' v u → Q (.panic [{ v:=u,recovered:=false }]) a w') {rd:Option Nat}(hcalm:rd=none ∨ zgm o=true):wpOpIn (FW rd) 0 P ops Q i K a w:=by
 unfold wpOpIn
 simp only [ho]
 unfold panA at hv
 split at hv
 ·rename_i hg
  rw [zej f.tm hg,if_pos rfl]
  have hst:zgu P call o st=some (.pan v,⟨st.tm,h',st.df⟩):=by
   unfold zgu
   split
   ·rename_i c hop;simp [exOp,hop] at hv
   ·rename_i c hop;simp [exOp,hop] at hv
   ·split at hv
    ·rename_i hx
     split at hv
     ·rename_i hcl;cases hv;simp only [hx,hcl]
     ·cases hv
    ·cases hv
  exact zfs hcall hst f (fun S' m' st' a' w' e=>by cases e) (fun S' m' v st' u w' e h1 h2 f' hu=>by cases e;exact hp S' m' w' u h1 h2 f' hu) hcalm
 ·cases hv
theorem zl2:∀ (l:List Oper) (tm:Tm),(undefs l tm).n=tm.n
 | [],tm=>rfl
 | o::r,tm=>by
  show (undefs r (putT tm o.dst .undef)).n=tm.n
  rw [zl2 r]
  cases o.dst with
  | none=>rfl
  | some d=>exact Tm.set_n _ _ _
theorem zit:∀ (l:List Oper) (tm:Tm) {t:Nat},tm.get t=.undef → (undefs l tm).get t=.undef
 | [],tm,t,h=>h
 | o::r,tm,t,h=>by
  show (undefs r (putT tm o.dst .undef)).get t=.undef
  refine zit r _ ?_
  cases ho:o.dst with
  | none=>exact h
  | some d =>
   show (tm.set d .undef).get t=.undef
   by_cases e:t=d
   ·subst e
    by_cases hl:t<tm.n
    ·rcases Tm.get_set_eq tm (v:=.undef) hl with q | q<;>exact q
    ·rw [Tm.set_out _ _ hl];exact h
   ·rw [Tm.get_set_ne _ _ e];exact h
theorem zhj:∀ (l:List Oper) (tm:Tm) {o:Oper}{d:Nat},o∈l → o.dst=some d → d<tm.n → (undefs l tm).get d=.undef
 | [],tm,o,d,ho,_,_=>by cases ho
 | o'::r,tm,o,d,ho,hd,hl=>by
  rcases List.mem_cons.1 ho with rfl | ho
  ·show (undefs r (putT tm o.dst .undef)).get d=.undef
   rw [hd]
   refine zit r _ ?_
   rcases Tm.get_set_eq tm (v:=.undef) hl with q | q<;>exact q
  ·show (undefs r (putT tm o'.dst .undef)).get d=.undef
   refine zhj r _ ho hd ?_
   cases o'.dst with
   | none=>exact hl
   | some e=>show d<(tm.set e .undef).n;rw [Tm.set_n];exact hl
theorem zis:∀ (l:List Oper) (tm:Tm) {t:Nat},(∀ o∈l,o.dst≠some t) → (undefs l tm).get t=tm.get t
 | [],tm,t,_=>rfl
 | o::r,tm,t,h=>by
  show (undefs r (putT tm o.dst .undef)).get t=tm.get t
  rw [zis r _ fun o' ho'=>h o' (List.mem_cons_of_mem _ ho')]
  exact zme fun d hd e=>h o (List.mem_cons_self ..) (by rw [hd,e])
def Less (x tm:Tm):Prop:=x.n=tm.n ∧ ∀ t,x.get t=.undef ∨ x.get t=tm.get t
theorem Less.undefs (l:List Oper) (tm:Tm):Less (undefs l tm) tm:=by
 refine ⟨zl2 l tm,fun t=>?_⟩
 by_cases h:∃ o∈l,o.dst=some t
 ·obtain ⟨o,ho,hd⟩:=h
  by_cases hl:t<tm.n
  ·exact .inl (zhj l tm ho hd hl)
  ·right
   have:∀ (l:List Oper) (x:Tm),x.n=tm.n → (Abs.undefs l x).get t=x.get t:=by
    intro l
    induction l with
    | nil=>intro x _;rfl
    | cons o r ih =>
     intro x hx
     show (Abs.undefs r (putT x o.dst .undef)).get t=x.get t
     cases hd:o.dst with
     | none=>exact ih x hx
     | some d =>
      show (Abs.undefs r (x.set d .undef)).get t=x.get t
      rw [ih _ (by rw [Tm.set_n];exact hx)]
      by_cases e:t=d
      ·subst e;rw [Tm.set_out _ _ (by omega)]
      ·exact Tm.get_set_ne _ _ e
   exact this l tm rfl
 ·exact .inr (zis l tm fun o ho hd=>h ⟨o,ho,hd⟩)
theorem Less.put {x tm:Tm}(h:Less x tm) {dst:Option Tmp}(hd:∀ d,dst=some d → d<tm.n → x.get d=.undef) (v:AV):Less x (putT tm dst v):=by
 cases dst with
 | none=>exact h
 | some d =>
  refine ⟨by show x.n=(tm.set d v).n;rw [Tm.set_n];exact h.1,fun t=>?_⟩
  show x.get t=.undef ∨ x.get t=(tm.set d v).get t
  by_cases e:t=d
  ·subst e
   by_cases hl:t<tm.n
   ·exact .inl (hd t rfl hl)
   ·rw [Tm.set_out _ _ hl];exact h.2 t
  ·rw [Tm.get_set_ne _ _ e];exact h.2 t
theorem Less.tr {S:SM}{m:BM}{x tm:Tm}{ts:Array Value}(h:Less x tm) (ht:TR S m tm ts):TR S m x ts:=⟨h.1.trans ht.1,fun i=>by
 rcases h.2 i with q | q
 ·rw [q];unfold VR;trivial
 ·rw [q];exact ht.2 i⟩
theorem zxt (hcall:zc1 P call) {fin:Out}{Sb:SM}{mb:BM}{Q:Exit → Act → World → Prop}{df:List DI}{rd:Option Nat}(hcalm:rd=none ∨ ops.toList.all zgm=true) {tmU:Tm}(hU:∀ o∈ops.toList,∀ d,o.dst=some d → d<tmU.n → tmU.get d=.undef)
  (hQ:∀ tm h S' m' a' w',fin=.norm tm h → Sb.le S' → mb.le m' → FR n₀ w₀ S₀ S' m' ⟨tm,h,df⟩ a' w' → Q .normal a' w')
  (hP:∀ v h S' m' a' w' u,fin=.pan v h → Sb.le S' → mb.le m' → FR n₀ w₀ S₀ S' m' ⟨tmU,h,df⟩ a' w' → VR S' m' v u → Q (.panic [{ v:=u,recovered:=false }]) a' w') :
  ∀ (n:Nat) (L:Array Bool) (M:Mon) (tm:Tm) (h:zaa),AllA P call ops fin n L M tm h → ∀ {S:SM}{m:BM}{a:Act}{w:World},Sb.le S → mb.le m → Less tmU tm → FR n₀ w₀ S₀ S m ⟨tm,h,df⟩ a w → wpAnyIn (FW rd) 0 P .any ops Q n L a w
 | 0,L,M,tm,h,hA,S,m,a,w,hS,hm,hl,f=>by
  obtain ⟨_,h1,h2⟩:=hA
  exact ⟨h1,hQ _ _ S m a w h2.symm hS hm f⟩
 | n+1,L,M,tm,h,hA,S,m,a,w,hS,hm,hl,f=>by
  obtain ⟨_,h1,h2⟩:=hA
  refine ⟨fun h0=>hQ _ _ S m a w (h1 h0).symm hS hm f,fun i hi=>?_⟩
  rcases h2 i hi with ⟨o,v,h',ho,hv,hrest⟩ | ⟨o,v,h',ho,hv,hfin⟩
  ·have hmem:o∈ops.toList:=by simpa using Array.mem_of_getElem? ho
   refine zyd hcall ho hv f (fun S' m' a' w' g1 g2 f'=>(hrest.elim (fun hrest=>zxt hcall hcalm hU hQ hP n _ _ _ _ hrest) fun hrest=>zxt hcall hcalm hU hQ hP n _ _ _ _ hrest.2) (SM.le_trans hS g1) (BM.le_trans hm g2) (hl.put (fun d hd hlt=>hU o hmem d hd (by rw [hl.1];exact hlt)) v) f') (hcalm.imp (fun e=>e) fun h=>List.all_eq_true.1 h o hmem)
  ·have hmem:o∈ops.toList:=by simpa using Array.mem_of_getElem? ho
   exact zye hcall ho hv f (fun S' m' w' u g1 g2 f' hu=>hP v h' S' m' a w' u hfin (SM.le_trans hS g1) (BM.le_trans hm g2) ⟨f'.sim,hl.tr f'.tm,f'.df⟩ hu) (hcalm.imp (fun e=>e) fun h=>List.all_eq_true.1 h o hmem)
theorem z0k (inl:FuncId → Bool) (hcall:zc1 P call) (hc:zph inl call):zhf P (zcf P inl call):=by
 intro id ops st out hr rd hcalm n₀ w₀ S₀ S m a w f
 unfold zcf at hr
 have fin:∀ {r:Out},P.follows .mixedOrders=true → AllA P call ops r ops.size (Array.replicate ops.size false) [] st.tm st.h → out=(match r with | .norm tm h=>(.norm,⟨tm,h,st.df⟩) | .pan v h=>(.pan v,⟨undefs ops.toList st.tm,h,st.df⟩)) → (Code.region id ops true).wpIn (FW rd) 0 P (QR n₀ w₀ S₀ S m out) a w:=fun {r} hp hA e=>by
  subst e
  refine wpIn_region_any hp ?_
  have f':FR n₀ w₀ S₀ S m st a { w with drawn:=w.drawn+1 }:=⟨f.sim.drawn _,f.tm,f.df⟩
  refine zxt (fin:=r) (df:=st.df) (tmU:=undefs ops.toList st.tm) hcall hcalm (fun o ho d hd hlt=>zhj _ _ ho hd (by rwa [zl2] at hlt)) (fun tm h S' m' a' w' e g1 g2 g3=>?_) (fun v h S' m' a' w' u e g1 g2 g3 hu=>?_) _ _ _ _ _ hA (SM.le_refl _) (BM.le_refl _) (Less.undefs _ _) f'
  ·subst e;exact ⟨S',m',g1,g2,g3,rfl⟩
  ·subst e;exact ⟨S',m',g1,g2,g3,u,rfl,hu⟩
 split at hr
 ·rename_i order ho
  split at hr
  ·rename_i hp
   simp only [Bool.and_eq_true] at hp
   split at hr
   ·rename_i tm h hrg
    cases hr
    exact fin hp.1 (zda hc _ _ [] [] order _ _ Closed.nil rfl (fun p hp=>by cases hp) (fun p hp=>by cases hp) ho hrg) rfl
   ·rename_i v h hrg
    cases hr
    exact fin hp.1 (zda hc _ _ [] [] order _ _ Closed.nil rfl (fun p hp=>by cases hp) (fun p hp=>by cases hp) ho hrg) rfl
   ·cases hr
  ·cases hr
 ·split at hr
  ·rename_i hp
   simp only [Bool.and_eq_true] at hp
   split at hr
   ·rename_i tm h hrg
    cases hr
    exact fin hp.1 (zi3 hc (fin:=(tm,h)) _ _ _ _ _ Closed.nil (fun p hp=>by cases hp) hrg) rfl
   ·cases hr
  ·cases hr
theorem zw5 (P:Program) (inl:FuncId → Bool):zq4 P inl (zcf P inl):=fun _ hcall hc=>z0k inl hcall hc
end
end Go.Abs
