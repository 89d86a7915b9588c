/- Texts put together: AbsR, AbsS, AbsU, AbsV, AbsW. -/
import Derived.Test.YtalaebjjleddaaaGreatFlt5
import Derived.IntWalk
import Derived.Carry
import Derived.Handed
import Derived.JoinedOf
import Derived.OpenShut
import Derived.ShutString
import Derived.ChangeOld
import Derived.WalkKit
import Derived.ProofKit
import Derived.Sort.Row
import Derived.Sort.Grow
import Derived.Lib.SlicesCompact
import Derived.Laws.AppendOwn
set_option linter.unusedVariables false
set_option linter.unusedSimpArgs false
namespace Go.Abs
inductive RK where
 | op (o:RO)
 | dfr (c:Call)
 | pan (x:RX)
 deriving Inhabited
structure RI where
 dst:Option Tmp
 guard:Option (Nat × Bool)
 op:RK
 deriving Inhabited
inductive RC where
 | skip
 | ret
 | exit (id:Nat)
 | ops (l:List RI)
 | draw (l:List (RI × Nat))
 | seq (a b:RC)
 | cond (c:RX) (a b:RC)
 | block (id:Nat) (c:RC)
 | loop (c:RC)
 | rangeF (g:RX) (ps:List Tmp) (asg body:RC)
 | cut (c:RC)
 | raw (c:Code)
 deriving Inhabited
def resK (P:Program) (o:Oper):RK :=
 match o.op with
 | .defer c=>.dfr c
 | .panic x=>match resX x with
  | some a=>.pan a
  | none=>.op (.raw o)
 | _=>.op (resO P o)
def resI (P:Program) (ops:Array Oper) (o:Oper):Option RI :=
 match o.guard with
 | none=>some ⟨o.dst,none,resK P o⟩
 | some (j,want)=>match (ops[j]?).bind (·.dst) with
  | none=>none
  | some d=>some ⟨o.dst,some (d,want),resK P o⟩
def znv (P:Program) (ops:Array Oper):List Oper → Option (List RI)
 | []=>some []
 | o::r=>match resI P ops o,znv P ops r with
  | some a,some as=>some (a::as)
  | _,_=>none
def resD (P:Program) (ops:Array Oper):List (Nat × Nat) → Option (List (RI × Nat))
 | []=>some []
 | (i,k)::r=>match ops[i]? with
  | none=>none
  | some o=>match resI P ops o,resD P ops r with
   | some a,some as=>some ((a,k)::as)
   | _,_=>none
def zxd (ops:List Oper) (l:List (RI × Nat)):Bool:=ops.all fun o=>match o.dst with
 | none=>true
 | some d=>l.any fun p=>match p.1.dst with
  | some e=>Nat.beq e d
  | none=>false
def resC (P:Program) (inl:FuncId → Bool):Code → RC
 | .skip=>.skip
 | .ret=>.ret
 | .exit i=>.exit i
 | .region id ops d=>if d then
   (match zgw P inl ops ops.size (Array.replicate ops.size false) [] with
   | some order=>if P.follows .mixedOrders&&Region.noSelect ops then match resD P ops order with
     | some l=>if zxd ops.toList l then .draw l else .raw (.region id ops d)
     | none=>.raw (.region id ops d)
     else .raw (.region id ops d)
   | none=>.raw (.region id ops d))
  else match znv P ops ops.toList with
   | some l=>.ops l
   | none=>.raw (.region id ops d)
 | .seq a b=>.seq (resC P inl a) (resC P inl b)
 | .cond c a b=>match resX c with
  | some x=>.cond x (resC P inl a) (resC P inl b)
  | none=>.raw (.cond c a b)
 | .block i c=>.block i (resC P inl c)
 | .loop c=>.loop (resC P inl c)
 | .rangeFunc g ps a b=>match resX g with
  | some x=>.rangeF x ps.toList (resC P inl a) (resC P inl b)
  | none=>.raw (.rangeFunc g ps a b)
 | c=>.raw c
abbrev LT:=List (Nat × AV)
noncomputable def lk (L:LT) (n:Nat):Option AV:=@List.rec (Nat × AV) (fun _=>Option AV) none (fun p _ ih=>match p with
 | (i,v)=>cond (Nat.beq n i) (some v) ih) L
noncomputable def evO (L:LT):RX → Option AV
 | .t n=>lk L n
 | .c v=>some v
def pt (L:LT) (dst:Option Tmp) (v:AV):LT:=match dst with
 | none=>L
 | some d=>(d,v)::L
structure LS where
 L:LT
 h:zaa
 df:List DI
def LS.know:LS → RX → Bool → LS
 | ⟨L,h,df⟩,c,b=>match c with
  | .t d=>⟨(d,.bool b)::L,h,df⟩
  | .c _=>⟨L,h,df⟩
def Tr.shape:Nat → Tr → Bool
 | 0,.leaf=>true
 | d+1,.node _ l r=>Tr.shape d l&&Tr.shape d r
 | _,_=>false
def HasL (n d:Nat) (L:LT) (tm:Tm):Prop:=(tm.n=n ∧ Tr.shape d tm.t=true) ∧ ∀ i v,lk L i=some v → tm.get i=v
def subL:LT → LT → Prop
 | [],_=>True
 | [(i,v)],L=>lk L i=some v
 | (i,v)::r,L=>lk L i=some v ∧ subL r L
def LS.sub (s t:LS):Prop:=subL s.L t.L ∧ t.h=s.h ∧ t.df=s.df
section
variable (P:Program) (call:zba)
noncomputable def WpK:RI → LS → (LS → Prop) → (AV → LS → Prop) → Prop
 | ⟨dst,_,op⟩,⟨L,h,df⟩,N,X=>match op with
  | .op o=>WpO P call (evO L) o h (fun v h'=>N ⟨pt L dst v,h',df⟩) (fun v h'=>X v ⟨L,h',df⟩)
  | .dfr c=>c.operands.toList.all (ztb (evO L))=true ∧ ∃ d,dfr (evR (evO L)) c P=some d ∧ N ⟨pt L dst (.tup []),h,d::df⟩
  | .pan x=>match evO L x with
   | some (.ifc t v)=>X (.ifc t v) ⟨L,h,df⟩
   | _=>False
noncomputable def WpI:RI → LS → (LS → Prop) → (AV → LS → Prop) → Prop
 | ⟨dst,g,op⟩,⟨L,h,df⟩,N,X=>match g with
  | none=>WpK P call ⟨dst,none,op⟩ ⟨L,h,df⟩ N X
  | some (d,want)=>match lk L d with
   | some (.bool b)=>@Bool.rec (fun _=>Prop)
     (@Bool.rec (fun _=>Prop) (WpK P call ⟨dst,some (d,want),op⟩ ⟨(d,.bool false)::L,h,df⟩ N X) (N ⟨pt ((d,.bool false)::L) dst (.tup []),h,df⟩) want)
     (@Bool.rec (fun _=>Prop) (N ⟨pt ((d,.bool true)::L) dst (.tup []),h,df⟩) (WpK P call ⟨dst,some (d,want),op⟩ ⟨(d,.bool true)::L,h,df⟩ N X) want) b
   | some (.tup [])=>N ⟨pt L dst (.tup []),h,df⟩
   | _=>False
noncomputable def zq2 (l:List RI):LS → (LS → Prop) → (AV → LS → Prop) → Prop:=@List.rec RI (fun _=>LS → (LS → Prop) → (AV → LS → Prop) → Prop) (fun s N _=>N s)
 (fun i _ ih s N X=>WpI P call i s (fun s'=>ih s' N X) X) l
theorem zt7 (i:RI) (r:List RI) (s:LS) (N:LS → Prop) (X:AV → LS → Prop):zq2 P call (i::r) s N X=WpI P call i s (fun s'=>zq2 P call r s' N X) X:=rfl
noncomputable def WpV:RI → LT → zaa → (LT → AV → zaa → Prop) → (AV → zaa → Prop) → Prop
 | ⟨_,g,op⟩,L,h,K,X=>match op with
  | .op o=>match g with
   | none=>WpO P call (evO L) o h (K L) X
   | some (d,want)=>match lk L d with
    | some (.bool b)=>@Bool.rec (fun _=>Prop)
      (@Bool.rec (fun _=>Prop) (WpO P call (evO ((d,.bool false)::L)) o h (K ((d,.bool false)::L)) X) (K ((d,.bool false)::L) (.tup []) h) want)
      (@Bool.rec (fun _=>Prop) (K ((d,.bool true)::L) (.tup []) h) (WpO P call (evO ((d,.bool true)::L)) o h (K ((d,.bool true)::L)) X) want) b
    | some (.tup [])=>K L (.tup []) h
    | _=>False
  | _=>False
noncomputable def WpM (L:LT) (h:zaa) (l:List (RI × AV)):Prop:=@List.rec (RI × AV) (fun _=>Prop) True (fun p r ih=>match p with
 | (i,v)=>match r with
  | []=>WpV P call i L h (fun _ v' _=>v'=v) (fun _ _=>False)
  | _::_=>WpV P call i L h (fun _ v' _=>v'=v) (fun _ _=>False) ∧ ih) l
noncomputable def WpD (X:AV → zaa → Prop) (l:List (RI × Nat)):List (RI × AV) → LT → zaa → (LT → zaa → Prop) → Prop:=@List.rec (RI × Nat) (fun _=>List (RI × AV) → LT → zaa → (LT → zaa → Prop) → Prop) (fun _ L h N=>N L h)
 (fun p _ ih M L h N=>match p with
 | (⟨dst,g,op⟩,k)=>WpV P call ⟨dst,g,op⟩ L h (fun L' v h'=>match k with
  | 0=>ih M (pt L' dst v) h' N
  | 1=>ih ((⟨dst,g,op⟩,v)::M) (pt L' dst v) h' N
  | 3=>ih [] (pt L' dst v) h' N
  | 4=>ih M (pt L' dst v) h' N
  | _=>match M with
   | []=>ih [] (pt L' dst v) h' N
   | p::q=>WpM P call (pt L' dst v) h' (p::q) ∧ ih (p::q) (pt L' dst v) h' N) (match k with
  | 0=>fun _ _=>False
  | 1=>fun _ _=>False
  | _=>X)) l
theorem z0x (X:AV → zaa → Prop) (i:RI) (k:Nat) (r:List (RI × Nat)) (M:List (RI × AV)) (L:LT) (h:zaa) (N:LT → zaa → Prop):WpD P call X ((i,k)::r) M L h N=WpV P call i L h (fun L' v h'=>match k with
  | 0=>WpD P call X r M (pt L' i.dst v) h' N
  | 1=>WpD P call X r ((i,v)::M) (pt L' i.dst v) h' N
  | 3=>WpD P call X r [] (pt L' i.dst v) h' N
  | 4=>WpD P call X r M (pt L' i.dst v) h' N
  | _=>match M with
   | []=>WpD P call X r [] (pt L' i.dst v) h' N
   | p::q=>WpM P call (pt L' i.dst v) h' (p::q) ∧ WpD P call X r (p::q) (pt L' i.dst v) h' N) (match k with
  | 0=>fun _ _=>False
  | 1=>fun _ _=>False
  | _=>X):=rfl
noncomputable def rmv (l:List (RI × Nat)) (L:LT):LT:=@List.rec (Nat × AV) (fun _=>LT) [] (fun p _ ih=>cond (l.any fun q=>match q.1.dst with
  | some d=>Nat.beq d p.1
  | none=>false) ih (p::ih)) L
variable (inl:FuncId → Bool) (k n d:Nat)
def OkC (c:Code) (s:LS) (Q:Ex → LS → Prop):Prop:=∀ tm,HasL n d s.L tm → ∃ ex st',zbc P call (zcf P inl call) k c ⟨tm,s.h,s.df⟩=some (ex,st') ∧ ∃ L',HasL n d L' st'.tm ∧ Q ex ⟨L',st'.h,st'.df⟩
def RC.erase:RC → RC
 | .seq a b=>.seq a.erase b.erase
 | .cond c a b=>.cond c a.erase b.erase
 | .block i c=>.block i c.erase
 | .loop c=>.loop c.erase
 | .rangeF g ps a b=>.rangeF g ps a.erase b.erase
 | .cut c=>c.erase
 | c=>c
def OkR (rc:RC) (s:LS) (Q:Ex → LS → Prop):Prop:=∀ c,resC P inl c=rc.erase → OkC P call inl k n d c s Q
noncomputable def Wp (rc:RC):LS → (Ex → LS → Prop) → Prop :=
 @RC.rec (fun _=>LS → (Ex → LS → Prop) → Prop)
  (fun s Q=>Q .norm s)
  (fun s Q=>Q .ret s)
  (fun i s Q=>Q (.exit i) s)
  (fun l s Q=>zq2 P call l s (Q .norm) (fun v s'=>Q (.pan v) s'))
  (fun l s Q=>match s with | ⟨L,h,df⟩=>WpD P call (fun v h'=>Q (.pan v) ⟨rmv l L,h',df⟩) l [] L h (fun L h=>Q .norm ⟨L,h,df⟩))
  (fun _ _ iha ihb s Q=>iha s (fun ex s'=>match ex with
   | .norm=>ihb s' Q
   | e=>Q e s'))
  (fun c _ _ iha ihb s Q=>match s with
   | ⟨L,h,df⟩=>match evO L c with
    | some (.bool t)=>@Bool.rec (fun _=>Prop) (ihb (LS.know ⟨L,h,df⟩ c false) Q) (iha (LS.know ⟨L,h,df⟩ c true) Q) t
    | _=>False)
  (fun id _ ih s Q=>ih s (fun ex s'=>match ex with
   | .exit i=>cond (Nat.beq i id) (Q .norm s') (Q (.exit i) s')
   | e=>Q e s'))
  (fun c _ s Q=>OkR P call inl k n d (.loop c) s Q)
  (fun g ps a b _ _ s Q=>OkR P call inl k n d (.rangeF g ps a b) s Q)
  (fun c _ s Q=>OkR P call inl k n d c s Q)
  (fun c s Q=>OkC P call inl k n d c s Q) rc
theorem z3t (c:RX) (a b:RC) (s:LS) (Q:Ex → LS → Prop):Wp P call inl k n d (.cond c a b) s Q=match evO s.L c with
  | some (.bool t)=>@Bool.rec (fun _=>Prop) (Wp P call inl k n d b (s.know c false) Q) (Wp P call inl k n d a (s.know c true) Q) t
  | _=>False:=rfl
end
def okD (n:Nat):Option Tmp → Bool
 | none=>true
 | some d=>Nat.blt d n
def okR (n:Nat):RC → Bool
 | .ops l=>l.all fun i=>okD n i.dst
 | .draw l=>l.all fun p=>okD n p.1.dst
 | .seq a b=>okR n a&&okR n b
 | .cond _ a b=>okR n a&&okR n b
 | .block _ c=>okR n c
 | .loop c=>okR n c
 | .rangeF _ ps a b=>ps.all (Nat.blt · n)&&(okR n a&&okR n b)
 | .cut c=>okR n c
 | _=>true
section
variable {P:Program}{call:zba}{inl:FuncId → Bool}{k n d:Nat}{tm:Tm}{h:zaa}{L:LT}
theorem Tr.shape_set:∀ (d:Nat) (t:Tr) (i:Nat) (v:AV),Tr.shape d t=true → Tr.shape d (t.set i v)=true
 | 0,.leaf,_,_,h=>h
 | 0,.node _ _ _,_,_,h=>by simp [Tr.shape] at h
 | d+1,.leaf,_,_,h=>by simp [Tr.shape] at h
 | d+1,.node x l r,0,v,h=>by rw [Tr.set_zero];simpa [Tr.shape] using h
 | d+1,.node x l r,i+1,v,h=>by
  simp [Tr.shape] at h
  rw [Tr.set_succ]
  cases Nat.beq (Nat.mod i 2) 0<;>simp only [cond,Tr.shape,Bool.and_eq_true]
  ·exact ⟨h.1,Tr.shape_set d r _ v h.2⟩
  ·exact ⟨Tr.shape_set d l _ v h.1,h.2⟩
theorem Tr.get_set_in:∀ (d:Nat) (t:Tr) (i:Nat) (v:AV),Tr.shape d t=true → i+1<2 ^ d → (t.set i v).get i=v
 | 0,_,i,_,_,hi=>by simp at hi
 | d+1,.leaf,_,_,h,_=>by simp [Tr.shape] at h
 | d+1,.node x l r,0,v,_,_=>rfl
 | d+1,.node x l r,i+1,v,h,hi=>by
  simp [Tr.shape] at h
  have hh:i / 2+1<2 ^ d:=by
   have:2 ^ (d+1)=2*2 ^ d:=by rw [Nat.pow_succ];omega
   omega
  rw [Tr.set_succ]
  cases hb:Nat.beq (Nat.mod i 2) 0<;>simp only [cond]<;>rw [Tr.get_succ,hb]<;>simp only [cond]
  ·exact Tr.get_set_in d r _ v h.2 hh
  ·exact Tr.get_set_in d l _ v h.1 hh
theorem HasL.put (hn:n<2 ^ d) (H:HasL n d L tm) {dst:Option Tmp}(hd:okD n dst=true) (v:AV):HasL n d (pt L dst v) (putT tm dst v):=by
 cases dst with
 | none=>exact H
 | some e =>
  have he:e<n:=Nat.blt_eq ▸ hd
  obtain ⟨⟨h1,h2⟩,h3⟩:=H
  have hb:Nat.blt e tm.n=true:=by rw [h1];exact hd
  refine ⟨⟨?_,?_⟩,fun i u hi=>?_⟩
  ·show (tm.set e v).n=n;rw [Tm.set_n];exact h1
  ·show Tr.shape d (tm.set e v).t=true
   unfold Tm.set
   rw [hb]
   exact Tr.shape_set d _ e v h2
  ·show (tm.set e v).get i=u
   change cond (Nat.beq i e) (some v) (lk L i)=some u at hi
   cases hq:Nat.beq i e with
   | true =>
    rw [hq] at hi
    cases hi
    have:i=e:=Nat.eq_of_beq_eq_true hq
    subst this
    unfold Tm.set Tm.get
    rw [hb]
    exact Tr.get_set_in d _ _ _ h2 (Nat.lt_of_le_of_lt he hn)
   | false =>
    rw [hq] at hi
    have:i≠e:=Nat.ne_of_beq_eq_false hq
    rw [Tm.get_set_ne _ _ this]
    exact h3 i u hi
theorem HasL.know (H:HasL n d L tm) {i:Nat}{v:AV}(hv:lk L i=some v):HasL n d ((i,v)::L) tm:=by
 refine ⟨H.1,fun j u hj=>?_⟩
 change cond (Nat.beq j i) (some v) (lk L j)=some u at hj
 cases hq:Nat.beq j i with
 | true =>
  rw [hq] at hj
  cases hj
  have:j=i:=Nat.eq_of_beq_eq_true hq
  subst this
  exact H.2 _ _ hv
 | false=>rw [hq] at hj;exact H.2 _ _ hj
theorem HasL.agree (H:HasL n d L tm):Agree (evO L) tm:=fun x a hx=>by
 cases x with
 | t i=>exact H.2 _ _ hx
 | c v=>cases hx;rfl
theorem zux {i:Nat}{v:AV}{r L':LT}(hs:subL ((i,v)::r) L'):lk L' i=some v ∧ subL r L':=by
 cases r with
 | nil=>exact ⟨hs,trivial⟩
 | cons=>exact hs
theorem zuw:∀ {L L':LT},subL L L' → ∀ i v,lk L i=some v → lk L' i=some v
 | [],_,_,i,v,h=>by cases h
 | (j,u)::r,L',hs,i,v,h=>by
  obtain ⟨h1,h2⟩:=zux hs
  change cond (Nat.beq i j) (some u) (lk r i)=some v at h
  cases hq:Nat.beq i j with
  | true =>
   rw [hq] at h
   cases h
   have:i=j:=Nat.eq_of_beq_eq_true hq
   subst this
   exact h1
  | false=>rw [hq] at h;exact zuw h2 i v h
theorem HasL.sub {L':LT}(hs:subL L L') (H:HasL n d L' tm):HasL n d L tm:=⟨H.1,fun i v hi=>H.2 i v (zuw hs i v hi)⟩
theorem zxx (hn:n<2 ^ d) {o:Oper}{g:Option (Nat × Bool)}{s:LS}{N:LS → Prop}{X:AV → LS → Prop}(H:HasL n d s.L tm) (hd:okD n o.dst=true) (hw:WpK P call ⟨o.dst,g,resK P o⟩ s N X) :
  ∃ ex st',zgu P call o ⟨tm,s.h,s.df⟩=some (ex,st') ∧ ∃ L',HasL n d L' st'.tm ∧ (match ex with | .norm=>N ⟨L',st'.h,st'.df⟩ | .pan v=>X v ⟨L',st'.h,st'.df⟩ | _=>False):=by
 have gen:resK P o=.op (resO P o) → (∀ c,o.op≠.defer c) → (∀ x,o.op≠.panic x) → ∃ ex st',zgu P call o ⟨tm,s.h,s.df⟩=some (ex,st') ∧ ∃ L',HasL n d L' st'.tm ∧ (match ex with | .norm=>N ⟨L',st'.h,st'.df⟩ | .pan v=>X v ⟨L',st'.h,st'.df⟩ | _=>False):=fun he h1 h2=>by
  unfold WpK at hw
  rw [he] at hw
  obtain ⟨r,h',g1,g2⟩:=zpd H.agree hw
  unfold zet at g1
  unfold zgu
  split
  ·rename_i c hc;exact (h1 c hc).elim
  ·rename_i x hx;exact (h2 x hx).elim
  ·split at g1
   ·rename_i v hv;cases g1;simp only [hv];exact ⟨_,_,rfl,_,H.put hn hd v,g2⟩
   ·rename_i v h'' hv;cases g1;simp only [hv];exact ⟨_,_,rfl,_,H.put hn hd v,g2⟩
   ·rename_i f args hv
    simp only [hv]
    rw [g1]
    cases r
    ·exact ⟨_,_,rfl,_,H.put hn hd _,g2⟩
    ·exact ⟨_,_,rfl,_,H,g2⟩
   ·cases g1
 unfold resK at hw gen
 unfold WpK at hw
 cases hop:o.op
 case defer c =>
  rw [hop] at hw
  obtain ⟨hk,di,h1,h2⟩:=hw
  unfold zgu
  rw [hop]
  have hops:∀ x∈c.operands,ev tm x=evR (evO s.L) x:=by
   intro x hx
   have:=List.all_eq_true.1 hk x (Array.mem_toList_iff.2 hx)
   unfold ztb at this
   unfold evR
   cases hx':resX x with
   | none =>
    cases x with
    | tmp t=>simp [resX] at hx'
    | const v=>simp [resX] at hx';exact hx'
    | global g=>rfl
    | func f=>simp [resX] at hx'
   | some a =>
    rw [hx'] at this
    simp only at this ⊢
    cases ha:evO s.L a with
    | none=>rw [ha] at this;cases this
    | some v=>exact H.agree.ev hx' ha
  have hdf:dfr (ev tm) c P=dfr (evR (evO s.L)) c P:=by
   unfold dfr
   have hargs:zb9 (ev tm) c.args.toList=zb9 (evR (evO s.L)) c.args.toList:=zdl fun x hx=>hops x (by unfold Call.operands;simp;right;simpa using hx)
   rw [hargs]
   cases hc:c.callee with
   | value f =>
    have:=hops f (by unfold Call.operands;simp [hc])
    cases zb9 (evR (evO s.L)) c.args.toList<;>simp only [this]
   | invoke r m=>rfl
   | builtin b=>rfl
  simp only [hdf,h1]
  exact ⟨_,_,rfl,_,H.put hn hd _,h2⟩
 case panic x =>
  rw [hop] at hw
  simp only at hw
  split at hw
  ·rename_i e
   split at e
   ·cases e
   ·rename_i hx
    cases e
    obtain ⟨hk,r,h',g1,g2⟩:=hw
    unfold zet at g1
    simp only [exOp,hop] at g1
    cases g1
  ·rename_i c e;split at e<;>cases e
  ·rename_i a e
   split at e
   ·rename_i b hb
    cases e
    unfold zgu
    rw [hop]
    split at hw
    ·rename_i t v hv;simp only [H.agree.ev hb hv];exact ⟨_,_,rfl,_,H,hw⟩
    ·exact hw.elim
   ·cases e
 all_goals exact gen (by rw [hop]) (by rw [hop];simp) (by rw [hop];simp)
def guardV (tm:Tm) (d:Nat) (want:Bool) (r:Option Bool):Prop:=∀ v,tm.get d=v → r=match v with
 | .bool b=>some (b==want)
 | .tup []=>some false
 | _=>none
theorem zfu {ops:Array Oper}{o:Oper}{i:RI}(hi:resI P ops o=some i):i.dst=o.dst ∧ i.op=resK P o ∧ ((i.guard=none ∧ zbf ops o tm=some true) ∨
  ∃ d want,i.guard=some (d,want) ∧ guardV tm d want (zbf ops o tm)):=by
 unfold resI at hi
 unfold zbf
 split at hi
 ·rename_i hg;cases hi;exact ⟨rfl,rfl,.inl ⟨rfl,by rw [hg]⟩⟩
 ·rename_i j want hg
  split at hi
  ·cases hi
  ·rename_i d hd
   cases hi
   refine ⟨rfl,rfl,.inr ⟨d,want,rfl,fun v hv=>?_⟩⟩
   rw [hg]
   simp only [hd,hv]
   cases v<;>first | rfl | (rename_i l;cases l<;>rfl)
theorem zeq (hn:n<2 ^ d) {ops:Array Oper}:∀ {l:List Oper}{rl:List RI}{tm:Tm}{s:LS}{N:LS → Prop}{X:AV → LS → Prop},znv P ops l=some rl → (rl.all fun i=>okD n i.dst)=true → HasL n d s.L tm → zq2 P call rl s N X →
  ∃ ex st',zdq P call ops l ⟨tm,s.h,s.df⟩=some (ex,st') ∧ ∃ L',HasL n d L' st'.tm ∧ (match ex with | .norm=>N ⟨L',st'.h,st'.df⟩ | .pan v=>X v ⟨L',st'.h,st'.df⟩ | _=>False)
 | [],_,tm,s,N,X,hr,_,H,hw=>by
  simp [znv] at hr;subst hr
  exact ⟨.norm,_,rfl,_,H,hw⟩
 | o::l,_,tm,s,N,X,hr,hall,H,hw=>by
  unfold znv at hr
  split at hr
  ·rename_i a as ha has
   cases hr
   simp only [List.all_cons,Bool.and_eq_true] at hall
   rw [zt7] at hw
   unfold WpI at hw
   obtain ⟨e1,e2,e3⟩:=zfu (tm:=tm) ha
   obtain ⟨adst,ag,aop⟩:=a
   simp only at e1 e2 e3 hall
   subst e1 e2
   have go:∀ L,HasL n d L tm → zbf ops o tm=some true → WpK P call ⟨o.dst,ag,resK P o⟩ ⟨L,s.h,s.df⟩ (fun s'=>zq2 P call as s' N X) X → ∃ ex st',zdq P call ops (o::l) ⟨tm,s.h,s.df⟩=some (ex,st') ∧ ∃ L',HasL n d L' st'.tm ∧ (match ex with | .norm=>N ⟨L',st'.h,st'.df⟩ | .pan v=>X v ⟨L',st'.h,st'.df⟩ | _=>False):=fun L HL hg hw=>by
    obtain ⟨ex,st',g1,L',g3,g2⟩:=zxx hn HL hall.1 hw
    unfold zdq
    simp only [hg,g1]
    cases ex with
    | norm=>exact zeq hn (s:=⟨L',st'.h,st'.df⟩) has hall.2 g3 g2
    | pan v=>exact ⟨_,_,rfl,_,g3,g2⟩
    | exit i=>exact g2.elim
    | ret=>exact g2.elim
   have skip:∀ L,HasL n d L tm → zbf ops o tm=some false → zq2 P call as ⟨pt L o.dst (.tup []),s.h,s.df⟩ N X → ∃ ex st',zdq P call ops (o::l) ⟨tm,s.h,s.df⟩=some (ex,st') ∧ ∃ L',HasL n d L' st'.tm ∧ (match ex with | .norm=>N ⟨L',st'.h,st'.df⟩ | .pan v=>X v ⟨L',st'.h,st'.df⟩ | _=>False):=fun L HL hg hw=>by
    unfold zdq
    simp only [hg]
    exact zeq hn (s:=⟨pt L o.dst (.tup []),s.h,s.df⟩) has hall.2 (HL.put hn hall.1 _) hw
   rcases e3 with ⟨e3,e4⟩ | ⟨i,want,e3,e4⟩
   ·subst e3
    exact go s.L H e4 hw
   ·subst e3
    simp only at hw
    split at hw
    ·rename_i b hb
     have e5:=e4 _ (H.2 _ _ hb)
     cases b with
     | true =>
      simp only at hw
      cases want with
      | true=>exact go _ (H.know hb) e5 hw
      | false=>exact skip _ (H.know hb) e5 hw
     | false =>
      simp only at hw
      cases want with
      | true=>exact skip _ (H.know hb) e5 hw
      | false=>exact go _ (H.know hb) e5 hw
    ·rename_i hb
     exact skip _ H (e4 _ (H.2 _ _ hb)) hw
    ·exact hw.elim
  ·cases hr
mutual
theorem zj7:∀ (x:AV),beqV x x=true
 | .undef=>by simp [beqV]
 | .bool a=>by simp [beqV]
 | .int k n=>by simp [beqV]
 | .flt k n=>by simp [beqV]
 | .str s=>by simp [beqV]
 | .nilp=>by simp [beqV]
 | .ptr b v o=>by simp [beqV]
 | .pin cs o=>by simp [beqV,zco cs]
 | .lst sz xs c=>by simp [beqV,zco xs]
 | .sl sz b v o l=>by simp [beqV]
 | .mapn=>by simp [beqV]
 | .map b=>by simp [beqV]
 | .fn f x z=>by simp [beqV,zco x,zco z]
 | .nilf=>by simp [beqV]
 | .ifc t x=>by simp [beqV,zj7 x]
 | .nili=>by simp [beqV]
 | .agg cs=>by simp [beqV,zco cs]
 | .tup cs=>by simp [beqV,zco cs]
theorem zco:∀ (xs:List AV),zf6 xs xs=true
 | []=>by simp [zf6]
 | x::xs=>by simp [zf6,zj7 x,zco xs]
end
theorem zpc {ops:Array Oper}{o:Oper}{i:RI}(H:HasL n d L tm) (hi:resI P ops o=some i) {K:LT → AV → zaa → Prop}{X:AV → zaa → Prop}(hw:WpV P call i L h K X) :
  (∃ v h' L',HasL n d L' tm ∧ valA P call ops o tm h=some (v,h') ∧ K L' v h') ∨ (∃ v h',valA P call ops o tm h=none ∧ panA P call ops o tm h=some (v,h') ∧ X v h'):=by
 obtain ⟨e1,e2,e3⟩:=zfu (tm:=tm) hi
 obtain ⟨adst,ag,aop⟩:=i
 simp only at e1 e2 e3
 subst e1 e2
 unfold WpV at hw
 simp only at hw
 split at hw
 ·rename_i ro hro
  have hk:ro=resO P o:=by
   unfold resK at hro
   split at hro
   ·cases hro
   ·rename_i x hx
    split at hro
    ·cases hro
    ·cases hro
     unfold resO zve
     rw [hx];rfl
   ·cases hro;rfl
  subst hk
  have go:∀ L,HasL n d L tm → zbf ops o tm=some true → WpO P call (evO L) (resO P o) h (K L) X → (∃ v h' L',HasL n d L' tm ∧ valA P call ops o tm h=some (v,h') ∧ K L' v h') ∨ (∃ v h',valA P call ops o tm h=none ∧ panA P call ops o tm h=some (v,h') ∧ X v h'):=fun L HL hg hw=>by
   obtain ⟨r,h',g1,g2⟩:=zpd HL.agree hw
   unfold zet at g1
   unfold valA panA
   rw [hg]
   simp only
   split at g1
   ·rename_i v hv;cases g1;rw [hv];exact .inl ⟨_,_,_,HL,rfl,g2⟩
   ·rename_i v h'' hv;cases g1;rw [hv];exact .inl ⟨_,_,_,HL,rfl,g2⟩
   ·rename_i f args hv
    rw [hv]
    simp only [g1]
    cases r
    ·exact .inl ⟨_,_,_,HL,rfl,g2⟩
    ·exact .inr ⟨_,_,rfl,rfl,g2⟩
   ·cases g1
  have skip:∀ L,HasL n d L tm → zbf ops o tm=some false → K L (.tup []) h → (∃ v h' L',HasL n d L' tm ∧ valA P call ops o tm h=some (v,h') ∧ K L' v h') ∨ (∃ v h',valA P call ops o tm h=none ∧ panA P call ops o tm h=some (v,h') ∧ X v h'):=fun L HL hg hw=>.inl ⟨_,_,_,HL,by unfold valA;rw [hg],hw⟩
  rcases e3 with ⟨e3,e4⟩ | ⟨i,want,e3,e4⟩
  ·subst e3
   exact go _ H e4 hw
  ·subst e3
   simp only at hw
   split at hw
   ·rename_i b hb
    have e5:=e4 _ (H.2 _ _ hb)
    cases b with
    | true =>
     simp only at hw
     cases want with
     | true=>exact go _ (H.know hb) e5 hw
     | false=>exact skip _ (H.know hb) e5 hw
    | false =>
     simp only at hw
     cases want with
     | true=>exact skip _ (H.know hb) e5 hw
     | false=>exact go _ (H.know hb) e5 hw
   ·rename_i hb
    exact skip _ H (e4 _ (H.2 _ _ hb)) hw
   ·exact hw.elim
 ·exact hw.elim
inductive MonR (P:Program) (ops:Array Oper):Mon → List (RI × AV) → Prop
 | nil:MonR P ops [] []
 | cons {o:Oper}{i:RI}{v:AV}{M:Mon}{R:List (RI × AV)}(hi:resI P ops o=some i) (hr:MonR P ops M R):MonR P ops ((o,v)::M) ((i,v)::R)
theorem zpe (H:HasL n d L tm) {ops:Array Oper}:∀ {M:Mon}{R:List (RI × AV)},MonR P ops M R → WpM P call L h R → zs5 P call ops M tm h=true
 | _,_,.nil,_=>rfl
 | _,_,.cons (o:=o) (i:=i) (v:=v) (M:=M) (R:=R) hi hr,hw=>by
  have h2:WpV P call i L h (fun _ v' _=>v'=v) (fun _ _=>False) ∧ WpM P call L h R:=by
   cases R with
   | nil=>exact ⟨hw,trivial⟩
   | cons=>exact hw
  rcases zpc H hi h2.1 with ⟨v',h',L',_,g1,g2⟩ | ⟨_,_,_,_,g⟩
  case inr=>exact g.elim
  have ih:=zpe H hr h2.2
  subst g2
  unfold zs5 at ih ⊢
  simp only [List.all_cons,g1,zj7,ih,Bool.and_self]
theorem zdo (hn:n<2 ^ d) {ops:Array Oper}{X:AV → zaa → Prop}:∀ {l:List (Nat × Nat)}{rl:List (RI × Nat)}{M:Mon}{R:List (RI × AV)}{tm:Tm}{L:LT}{h:zaa}{N:LT → zaa → Prop},resD P ops l=some rl → (rl.all fun p=>okD n p.1.dst)=true → MonR P ops M R → HasL n d L tm → WpD P call X rl R L h N →
  ∃ r,runS P call ops l M tm h=some r ∧ (match r with | .norm tm' h'=>∃ L',HasL n d L' tm' ∧ N L' h' | .pan v h'=>X v h')
 | [],_,M,R,tm,L,h,N,hr,_,hm,H,hw=>by
  simp [resD] at hr;subst hr
  exact ⟨.norm tm h,rfl,L,H,hw⟩
 | (j,k)::l,_,M,R,tm,L,h,N,hr,hall,hm,H,hw=>by
  unfold resD at hr
  split at hr
  ·cases hr
  ·rename_i o ho
   split at hr
   ·rename_i a as ha has
    cases hr
    simp only [List.all_cons,Bool.and_eq_true] at hall
    rw [z0x] at hw
    rcases zpc H ha hw with ⟨v,h',L',H',g1,g2⟩ | ⟨v,h',g0,g1,g2⟩
    ·have hd:a.dst=o.dst:=(zfu (tm:=tm) ha).1
     have hp:HasL n d (pt L' a.dst v) (putT tm o.dst v):=by rw [hd];exact H'.put hn (by rw [← hd];exact hall.1) v
     unfold runS
     simp only [ho,g1]
     split
     ·exact zdo hn has hall.2 hm hp g2
     ·exact zdo hn has hall.2 (.cons ha hm) hp g2
     ·exact zdo hn has hall.2 .nil hp g2
     ·exact zdo hn has hall.2 hm hp g2
     ·rename_i hk0 hk1 hk3 hk4
      split at g2
      ·exact (hk0 rfl).elim
      ·exact (hk1 rfl).elim
      ·exact (hk3 rfl).elim
      ·exact (hk4 rfl).elim
      ·cases hm with
       | nil =>
        simp only at g2
        rw [if_pos (by rfl)]
        exact zdo hn has hall.2 .nil hp g2
       | cons hi hr =>
        simp only at g2
        rw [if_pos (zpe hp (.cons hi hr) g2.1)]
        exact zdo hn has hall.2 (.cons hi hr) hp g2.2
    ·unfold runS
     simp only [ho,g0]
     split
     ·exact g2.elim
     ·exact g2.elim
     ·rename_i hk0 hk1
      simp only [g1]
      refine ⟨_,rfl,?_⟩
      split at g2
      ·exact (hk0 rfl).elim
      ·exact (hk1 rfl).elim
      ·exact g2
   ·cases hr
theorem zv5 {l:List (RI × Nat)}:∀ {L:LT}{i:Nat}{v:AV},lk (rmv l L) i=some v → lk L i=some v ∧ (l.any fun q=>match q.1.dst with | some d=>Nat.beq d i | none=>false)=false
 | [],i,v,h=>by cases h
 | (j,u)::r,i,v,h=>by
  change lk (cond (l.any fun q=>match q.1.dst with | some d=>Nat.beq d j | none=>false) (rmv l r) ((j,u)::rmv l r)) i=some v at h
  cases hc:(l.any fun q=>match q.1.dst with | some d=>Nat.beq d j | none=>false) with
  | true =>
   rw [hc] at h
   obtain ⟨h1,h2⟩:=zv5 (L:=r) h
   refine ⟨?_,h2⟩
   show cond (Nat.beq i j) (some u) (lk r i)=some v
   cases hq:Nat.beq i j with
   | true =>
    have:i=j:=Nat.eq_of_beq_eq_true hq
    subst this
    rw [hc] at h2;cases h2
   | false=>exact h1
  | false =>
   rw [hc] at h
   change cond (Nat.beq i j) (some u) (lk (rmv l r) i)=some v at h
   show cond (Nat.beq i j) (some u) (lk r i)=some v ∧ _
   cases hq:Nat.beq i j with
   | true =>
    rw [hq] at h
    have:i=j:=Nat.eq_of_beq_eq_true hq
    subst this
    exact ⟨h,hc⟩
   | false=>rw [hq] at h;exact zv5 (L:=r) h
theorem HasL.undefs (hn:n<2 ^ d) {ops:List Oper}{l:List (RI × Nat)}(hc:zxd ops l=true) (hok:(ops.all fun o=>okD n o.dst)=true) (H:HasL n d L tm):HasL n d (rmv l L) (undefs ops tm):=by
 have shp:∀ (ops:List Oper) (x:Tm),(ops.all fun o=>okD n o.dst)=true → HasL n d [] x → HasL n d [] (Abs.undefs ops x):=by
  intro ops
  induction ops with
  | nil=>exact fun x _ H=>H
  | cons o r ih =>
   intro x ho hx
   simp only [List.all_cons,Bool.and_eq_true] at ho
   have h1:=hx.put hn ho.1 .undef
   exact ih _ ho.2 ⟨h1.1,fun i v h=>by cases h⟩
 refine ⟨(shp ops tm hok ⟨H.1,fun i v h=>by cases h⟩).1,fun i v hi=>?_⟩
 obtain ⟨h1,h2⟩:=zv5 hi
 rw [zis ops tm fun o ho hd=>?_]
 ·exact H.2 i v h1
 ·have:=List.all_eq_true.1 hc o ho
  simp only [hd] at this
  rw [this] at h2;cases h2
theorem z0o {ops:List Oper}{l:List (RI × Nat)}(hc:zxd ops l=true) (ho:(l.all fun p=>okD n p.1.dst)=true):(ops.all fun o=>okD n o.dst)=true:=by
 rw [List.all_eq_true]
 intro o hm
 have:=List.all_eq_true.1 hc o hm
 cases hd:o.dst with
 | none=>rfl
 | some d =>
  rw [hd] at this
  simp only at this
  obtain ⟨p,hp,hq⟩:=List.any_eq_true.1 this
  have h2:=List.all_eq_true.1 ho p hp
  cases he:p.1.dst with
  | none=>rw [he] at hq;cases hq
  | some e =>
   rw [he] at hq h2
   have:e=d:=Nat.eq_of_beq_eq_true hq
   subst this
   exact h2
theorem OkC.mono {c:Code}{s:LS}{Q Q':Ex → LS → Prop}(hq:∀ ex s,Q ex s → Q' ex s) (ho:OkC P call inl k n d c s Q):OkC P call inl k n d c s Q' :=
 fun tm H=>let ⟨ex,st',h1,L',h3,h2⟩:=ho tm H;⟨ex,st',h1,L',h3,hq _ _ h2⟩
theorem zci {id:Nat}{ops:Array Oper}{dr:Bool}:(∃ l,resC P inl (.region id ops dr)=.ops l) ∨ (∃ l,resC P inl (.region id ops dr)=.draw l) ∨ resC P inl (.region id ops dr)=.raw (.region id ops dr):=by
 unfold resC
 split
 ·split
  ·split
   ·split
    ·split
     ·exact .inr (.inl ⟨_,rfl⟩)
     ·exact .inr (.inr rfl)
    ·exact .inr (.inr rfl)
   ·exact .inr (.inr rfl)
  ·exact .inr (.inr rfl)
 ·split
  ·exact .inl ⟨_,rfl⟩
  ·exact .inr (.inr rfl)
theorem zdz {x:Operand}{a b:Code}:(∃ y,resX x=some y ∧ resC P inl (.cond x a b)=.cond y (resC P inl a) (resC P inl b)) ∨ resC P inl (.cond x a b)=.raw (.cond x a b):=by
 cases hx:resX x with
 | none =>
  right
  rw [resC]
  simp only [hx]
 | some y =>
  left
  refine ⟨y,rfl,?_⟩
  rw [resC]
  simp only [hx]
theorem zdb {x:Operand}{ps:Array Tmp}{a b:Code}:(∃ y,resX x=some y ∧ resC P inl (.rangeFunc x ps a b)=.rangeF y ps.toList (resC P inl a) (resC P inl b)) ∨ resC P inl (.rangeFunc x ps a b)=.raw (.rangeFunc x ps a b):=by
 cases hx:resX x with
 | none =>
  right
  rw [resC]
  simp only [hx]
 | some y =>
  left
  refine ⟨y,rfl,?_⟩
  rw [resC]
  simp only [hx]
theorem zwd {c:Code}{ra rb:RC}(h:resC P inl c=.seq ra rb):∃ a b,c=.seq a b ∧ resC P inl a=ra ∧ resC P inl b=rb:=by
 cases c with
 | seq a b=>unfold resC at h;cases h;exact ⟨a,b,rfl,rfl,rfl⟩
 | region id ops dr=>rcases zci (P:=P) (inl:=inl) (id:=id) (ops:=ops) (dr:=dr) with ⟨l,e⟩ | ⟨l,e⟩ | e<;>rw [e] at h<;>cases h
 | cond x a b=>rcases zdz (P:=P) (inl:=inl) (x:=x) (a:=a) (b:=b) with ⟨y,_,e⟩ | e<;>rw [e] at h<;>cases h
 | rangeFunc x ps a b=>rcases zdb (P:=P) (inl:=inl) (x:=x) (ps:=ps) (a:=a) (b:=b) with ⟨y,_,e⟩ | e<;>rw [e] at h<;>cases h
 | _=>unfold resC at h;cases h
theorem zru {c:Code}{ra:RC}(h:resC P inl c=.loop ra):∃ a,c=.loop a ∧ resC P inl a=ra:=by
 cases c with
 | loop a=>unfold resC at h;cases h;exact ⟨a,rfl,rfl⟩
 | region id ops dr=>rcases zci (P:=P) (inl:=inl) (id:=id) (ops:=ops) (dr:=dr) with ⟨l,e⟩ | ⟨l,e⟩ | e<;>rw [e] at h<;>cases h
 | cond x a b=>rcases zdz (P:=P) (inl:=inl) (x:=x) (a:=a) (b:=b) with ⟨y,_,e⟩ | e<;>rw [e] at h<;>cases h
 | rangeFunc x ps a b=>rcases zdb (P:=P) (inl:=inl) (x:=x) (ps:=ps) (a:=a) (b:=b) with ⟨y,_,e⟩ | e<;>rw [e] at h<;>cases h
 | _=>unfold resC at h;cases h
theorem zoa {c:Code}{i:Nat}{ra:RC}(h:resC P inl c=.block i ra):∃ a,c=.block i a ∧ resC P inl a=ra:=by
 cases c with
 | block j a=>unfold resC at h;cases h;exact ⟨a,rfl,rfl⟩
 | region id ops dr=>rcases zci (P:=P) (inl:=inl) (id:=id) (ops:=ops) (dr:=dr) with ⟨l,e⟩ | ⟨l,e⟩ | e<;>rw [e] at h<;>cases h
 | cond x a b=>rcases zdz (P:=P) (inl:=inl) (x:=x) (a:=a) (b:=b) with ⟨y,_,e⟩ | e<;>rw [e] at h<;>cases h
 | rangeFunc x ps a b=>rcases zdb (P:=P) (inl:=inl) (x:=x) (ps:=ps) (a:=a) (b:=b) with ⟨y,_,e⟩ | e<;>rw [e] at h<;>cases h
 | _=>unfold resC at h;cases h
theorem zrv {c:Code}{x:RX}{ra rb:RC}(h:resC P inl c=.cond x ra rb):∃ y a b,c=.cond y a b ∧ resX y=some x ∧ resC P inl a=ra ∧ resC P inl b=rb:=by
 cases c with
 | cond z a b =>
  rcases zdz (P:=P) (inl:=inl) (x:=z) (a:=a) (b:=b) with ⟨y,hy,e⟩ | e
  ·rw [e] at h;cases h;exact ⟨z,a,b,rfl,hy,rfl,rfl⟩
  ·rw [e] at h;cases h
 | region id ops dr=>rcases zci (P:=P) (inl:=inl) (id:=id) (ops:=ops) (dr:=dr) with ⟨l,e⟩ | ⟨l,e⟩ | e<;>rw [e] at h<;>cases h
 | rangeFunc x ps a b=>rcases zdb (P:=P) (inl:=inl) (x:=x) (ps:=ps) (a:=a) (b:=b) with ⟨y,_,e⟩ | e<;>rw [e] at h<;>cases h
 | _=>unfold resC at h;cases h
theorem zwe {c:Code}{x:RX}{ps:List Tmp}{ra rb:RC}(h:resC P inl c=.rangeF x ps ra rb):∃ y qs a b,c=.rangeFunc y qs a b ∧ resX y=some x ∧ qs.toList=ps ∧ resC P inl a=ra ∧ resC P inl b=rb:=by
 cases c with
 | rangeFunc z qs a b =>
  rcases zdb (P:=P) (inl:=inl) (x:=z) (ps:=qs) (a:=a) (b:=b) with ⟨y,hy,e⟩ | e
  ·rw [e] at h;cases h;exact ⟨z,qs,a,b,rfl,hy,rfl,rfl,rfl⟩
  ·rw [e] at h;cases h
 | cond z a b=>rcases zdz (P:=P) (inl:=inl) (x:=z) (a:=a) (b:=b) with ⟨y,_,e⟩ | e<;>rw [e] at h<;>cases h
 | region id ops dr=>rcases zci (P:=P) (inl:=inl) (id:=id) (ops:=ops) (dr:=dr) with ⟨l,e⟩ | ⟨l,e⟩ | e<;>rw [e] at h<;>cases h
 | _=>unfold resC at h;cases h
theorem zbs {c:Code}{r:RC}(h:resC P inl c=r):(r=.skip → c=.skip) ∧ (r=.ret → c=.ret) ∧ (∀ i,r=.exit i → c=.exit i) ∧ (∀ c',r=.raw c' → c=c') ∧ (∀ c',r≠.cut c') ∧ (∀ l,r=.ops l → ∃ id ops dr,c=.region id ops dr) ∧ (∀ l,r=.draw l → ∃ id ops dr,c=.region id ops dr):=by
 subst h
 cases c with
 | region id ops dr =>
  refine ⟨?_,?_,?_,?_,?_,fun _ _=>⟨_,_,_,rfl⟩,fun _ _=>⟨_,_,_,rfl⟩⟩<;>rcases zci (P:=P) (inl:=inl) (id:=id) (ops:=ops) (dr:=dr) with ⟨l,e⟩ | ⟨l,e⟩ | e<;>rw [e]<;>intros<;>first | (rename_i h;cases h;done) | (rename_i h;cases h;rfl) | (intro h;cases h)
 | cond x a b =>
  refine ⟨?_,?_,?_,?_,?_,?_,?_⟩<;>rcases zdz (P:=P) (inl:=inl) (x:=x) (a:=a) (b:=b) with ⟨y,_,e⟩ | e<;>rw [e]<;>intros<;>first | (rename_i h;cases h;done) | (rename_i h;cases h;rfl) | (intro h;cases h)
 | rangeFunc x ps a b =>
  refine ⟨?_,?_,?_,?_,?_,?_,?_⟩<;>rcases zdb (P:=P) (inl:=inl) (x:=x) (ps:=ps) (a:=a) (b:=b) with ⟨y,_,e⟩ | e<;>rw [e]<;>intros<;>first | (rename_i h;cases h;done) | (rename_i h;cases h;rfl) | (intro h;cases h)
 | _ =>
  refine ⟨?_,?_,?_,?_,?_,?_,?_⟩<;>unfold resC<;>intros<;>first | (rename_i h;cases h;done) | (rename_i h;cases h;rfl) | (intro h;cases h) | rfl
theorem zb2 (hn:n<2 ^ d):∀ (rc:RC) {s:LS}{Q:Ex → LS → Prop},okR n rc=true → Wp P call inl k n d rc s Q → OkR P call inl k n d rc s Q
 | .skip,s,Q,_,hw=>fun c hc tm H=>by
  have:=(zbs hc).1 rfl;subst this
  exact ⟨_,_,rfl,_,H,hw⟩
 | .ret,s,Q,_,hw=>fun c hc tm H=>by
  have:=(zbs hc).2.1 rfl;subst this
  exact ⟨_,_,rfl,_,H,hw⟩
 | .exit i,s,Q,_,hw=>fun c hc tm H=>by
  have:=(zbs hc).2.2.1 i rfl;subst this
  exact ⟨_,_,rfl,_,H,hw⟩
 | .raw c',s,Q,_,hw=>fun c hc tm H=>by
  have:=(zbs hc).2.2.2.1 c' rfl;subst this
  exact hw tm H
 | .cut c',s,Q,_,hw=>hw
 | .loop c',s,Q,_,hw=>hw
 | .rangeF _ _ _ _,s,Q,_,hw=>hw
 | .ops l,s,Q,ho,hw=>fun c hc tm H=>by
  obtain ⟨id,ops,dr,rfl⟩:=(zbs hc).2.2.2.2.2.1 l rfl
  change _=RC.ops l at hc
  unfold resC at hc
  split at hc
  ·split at hc
   ·split at hc
    ·split at hc
     ·split at hc<;>cases hc
     ·cases hc
    ·cases hc
   ·cases hc
  ·rename_i hdr
   split at hc
   ·rename_i l' hl
    cases hc
    obtain ⟨ex,st',g1,L',g3,g2⟩:=zeq hn hl ho H hw
    refine ⟨ex,st',?_,L',g3,?_⟩
    ·unfold zbc;rw [if_neg hdr];exact g1
    ·cases ex
     ·exact g2
     ·exact g2.elim
     ·exact g2.elim
     ·exact g2
   ·cases hc
 | .draw l,s,Q,ho,hw=>fun c hc tm H=>by
  obtain ⟨id,ops,dr,rfl⟩:=(zbs hc).2.2.2.2.2.2 l rfl
  change _=RC.draw l at hc
  unfold resC at hc
  split at hc
  ·rename_i hdr
   split at hc
   ·rename_i order hord
    split at hc
    ·rename_i hf
     split at hc
     ·rename_i l' hl
      split at hc
      ·rename_i hcov
       cases hc
       obtain ⟨r,g1,g2⟩:=zdo hn hl ho .nil H hw
       cases r with
       | norm tm' h' =>
        obtain ⟨L',g3,g2⟩:=g2
        refine ⟨.norm,⟨tm',h',s.df⟩,?_,L',g3,g2⟩
        unfold zbc
        rw [if_pos hdr]
        unfold zcf
        simp only [hord,g1]
        rw [if_pos hf]
       | pan v h' =>
        refine ⟨.pan v,⟨undefs ops.toList tm,h',s.df⟩,?_,rmv l s.L,H.undefs hn hcov (z0o hcov ho),g2⟩
        unfold zbc
        rw [if_pos hdr]
        unfold zcf
        simp only [hord,g1]
        rw [if_pos hf]
      ·cases hc
     ·cases hc
    ·cases hc
   ·cases hc
  ·split at hc<;>cases hc
 | .seq a b,s,Q,ho,hw=>fun c hc tm H=>by
  unfold okR at ho
  simp only [Bool.and_eq_true] at ho
  obtain ⟨ca,cb,rfl,ha,hb⟩:=zwd hc
  obtain ⟨ex,st',h1,L',h3,h2⟩:=zb2 hn a ho.1 (show Wp P call inl k n d a s _ from hw) ca ha tm H
  cases ex with
  | norm =>
   obtain ⟨ex',st'',h4,L'',h6,h5⟩:=zb2 hn b ho.2 (show Wp P call inl k n d b ⟨L',st'.h,st'.df⟩ Q from h2) cb hb st'.tm h3
   exact ⟨ex',st'',by unfold zbc;simp only [h1];exact h4,L'',h6,h5⟩
  | exit i=>exact ⟨_,_,by unfold zbc;simp only [h1],L',h3,h2⟩
  | ret=>exact ⟨_,_,by unfold zbc;simp only [h1],L',h3,h2⟩
  | pan v=>exact ⟨_,_,by unfold zbc;simp only [h1],L',h3,h2⟩
 | .cond x a b,s,Q,ho,hw=>fun c hc tm H=>by
  unfold okR at ho
  simp only [Bool.and_eq_true] at ho
  obtain ⟨y,ca,cb,rfl,hy,ha,hb⟩:=zrv hc
  rw [z3t] at hw
  split at hw
  ·rename_i t ht
   have hcv:ev tm y=some (.bool t):=H.agree.ev hy ht
   have Hk:HasL n d (s.know x t).L tm:=by
    cases x with
    | t i=>exact H.know ht
    | c v=>exact H
   have eh:(s.know x t).h=s.h ∧ (s.know x t).df=s.df:=by cases x<;>exact ⟨rfl,rfl⟩
   cases t with
   | true =>
    obtain ⟨ex,st',h1,L',h3,h2⟩:=zb2 hn a ho.1 (show Wp P call inl k n d a (s.know x true) Q from hw) ca ha tm Hk
    rw [eh.1,eh.2] at h1
    exact ⟨ex,st',by unfold zbc;simp only [hcv,if_true];exact h1,L',h3,h2⟩
   | false =>
    obtain ⟨ex,st',h1,L',h3,h2⟩:=zb2 hn b ho.2 (show Wp P call inl k n d b (s.know x false) Q from hw) cb hb tm Hk
    rw [eh.1,eh.2] at h1
    exact ⟨ex,st',by unfold zbc;simp only [hcv];exact h1,L',h3,h2⟩
  ·exact hw.elim
 | .block id b,s,Q,ho,hw=>fun c hc tm H=>by
  obtain ⟨cb,rfl,hb⟩:=zoa hc
  obtain ⟨ex,st',h1,L',h3,h2⟩:=zb2 hn b ho (show Wp P call inl k n d b s _ from hw) cb hb tm H
  cases ex with
  | norm=>exact ⟨_,_,by unfold zbc;simp only [h1],L',h3,h2⟩
  | exit i =>
   simp only at h2
   by_cases hi:i=id
   ·subst hi
    rw [show Nat.beq i i=true from Nat.beq_refl i] at h2
    exact ⟨_,_,by unfold zbc;simp only [h1,if_true],L',h3,h2⟩
   ·have:Nat.beq i id=false:=by
     cases hq:Nat.beq i id
     ·rfl
     ·exact (hi (Nat.eq_of_beq_eq_true hq)).elim
    rw [this] at h2
    exact ⟨_,_,by unfold zbc;simp only [h1];rw [if_neg hi],L',h3,h2⟩
  | ret=>exact ⟨_,_,by unfold zbc;simp only [h1],L',h3,h2⟩
  | pan v=>exact ⟨_,_,by unfold zbc;simp only [h1],L',h3,h2⟩
theorem za7 (hn:n<2 ^ d) {rc:RC}(ho:okR n rc=true) {α:Type}(S:α → LS) (I:α → Prop) (μ:α → Nat) {Q:Ex → LS → Prop}{s:LS}(x:α) (h0:LS.sub (S x) s) (hx:I x) (hk:μ x<k)
  (step:∀ x,I x → Wp P call inl k n d rc (S x) (fun ex s'=>match ex with
   | .norm=>∃ y,I y ∧ μ y<μ x ∧ LS.sub (S y) s'
   | e=>Q e s')):OkR P call inl k n d (.loop rc) s Q:=by
 intro c0 hc0
 obtain ⟨c,rfl,hc⟩:=zru hc0
 have main:∀ (m:Nat) (x:α) (s:LS) (tm:Tm),LS.sub (S x) s → I x → μ x<m → HasL n d s.L tm → ∃ ex st',zp2 (zbc P call (zcf P inl call) k c) m ⟨tm,s.h,s.df⟩=some (ex,st') ∧ ∃ L',HasL n d L' st'.tm ∧ Q ex ⟨L',st'.h,st'.df⟩:=by
  intro m
  induction m with
  | zero=>intro x _ _ _ _ h;omega
  | succ m ih =>
   intro x s tm hs hx hm H
   obtain ⟨e1,e2,e3⟩:=hs
   obtain ⟨ex,st',h1,L',h3,h2⟩:=zb2 hn rc ho (step x hx) c hc tm (HasL.sub e1 H)
   rw [← e2,← e3] at h1
   unfold zp2
   simp only [h1]
   cases ex with
   | norm =>
    obtain ⟨y,hy,hlt,hsub⟩:=h2
    exact ih y ⟨L',st'.h,st'.df⟩ st'.tm hsub hy (by omega) h3
   | exit i=>exact ⟨_,_,rfl,L',h3,h2⟩
   | ret=>exact ⟨_,_,rfl,L',h3,h2⟩
   | pan v=>exact ⟨_,_,rfl,L',h3,h2⟩
 intro tm H
 obtain ⟨ex,st',h1,h2⟩:=main k x s tm h0 hx hk H
 exact ⟨ex,st',by unfold zbc;exact h1,h2⟩
def zfm:RC → Bool
 | .ops l=>l.all fun i=>match i.op with | .dfr _=>false | _=>true
 | .seq a b=>zfm a&&zfm b
 | .cond _ a b=>zfm a&&zfm b
 | .block _ c=>zfm c
 | .loop c=>zfm c
 | .skip | .ret | .exit _=>true
 | _=>false
theorem zm3 {ops:Array Oper}:∀ {l:List Oper}{rl:List RI},znv P ops l=some rl → (rl.all fun i=>match i.op with | .dfr _=>false | _=>true)=true → l.all zgm=true
 | [],_,h,_=>rfl
 | o::l,_,h,hc=>by
  unfold znv at h
  split at h
  ·rename_i a as ha has
   cases h
   simp only [List.all_cons,Bool.and_eq_true] at hc ⊢
   refine ⟨?_,zm3 has hc.2⟩
   have e:=(zfu (tm:=Tm.new 0) ha).2.1
   have h1:=hc.1
   rw [e] at h1
   unfold zgm
   split
   ·rename_i c hop
    unfold resK at h1
    rw [hop] at h1
    cases h1
   ·rfl
  ·cases h
theorem zb1:∀ {rc:RC}{c:Code},zfm rc=true → resC P inl c=rc → zcb c=true
 | .skip,c,_,h=>by have:=(zbs h).1 rfl;subst this;rfl
 | .ret,c,_,h=>by have:=(zbs h).2.1 rfl;subst this;rfl
 | .exit i,c,_,h=>by have:=(zbs h).2.2.1 i rfl;subst this;rfl
 | .ops l,c,hc,h=>by
  obtain ⟨id,ops,dr,rfl⟩:=(zbs h).2.2.2.2.2.1 l rfl
  unfold resC at h
  split at h
  ·split at h
   ·split at h
    ·split at h
     ·split at h<;>cases h
     ·cases h
    ·cases h
   ·cases h
  ·split at h
   ·rename_i l' hl
    cases h
    unfold zcb
    exact zm3 hl hc
   ·cases h
 | .seq a b,c,hc,h=>by
  obtain ⟨x,y,rfl,h1,h2⟩:=zwd h
  unfold zfm at hc
  simp only [Bool.and_eq_true] at hc
  unfold zcb
  rw [zb1 hc.1 h1,zb1 hc.2 h2];rfl
 | .cond z a b,c,hc,h=>by
  obtain ⟨w,x,y,rfl,_,h1,h2⟩:=zrv h
  unfold zfm at hc
  simp only [Bool.and_eq_true] at hc
  unfold zcb
  rw [zb1 hc.1 h1,zb1 hc.2 h2];rfl
 | .block i a,c,hc,h=>by
  obtain ⟨x,rfl,h1⟩:=zoa h
  unfold zfm at hc
  unfold zcb
  exact zb1 hc h1
 | .loop a,c,hc,h=>by
  obtain ⟨x,rfl,h1⟩:=zru h
  unfold zfm at hc
  unfold zcb
  exact zb1 hc h1
 | .draw _,c,hc,h=>by simp [zfm] at hc
 | .rangeF _ _ _ _,c,hc,h=>by simp [zfm] at hc
 | .cut _,c,hc,h=>by simp [zfm] at hc
 | .raw _,c,hc,h=>by simp [zfm] at hc
theorem rangeI {s:LS}{g:RX}{ps:List Tmp}{ra rb:RC}{Q:Ex → LS → Prop}{gf:FuncId}{x lb:List AV}(hg:evO s.L g=some (.fn (.func gf) x lb)) (hf:fnOk P gf=true)
  (body:∀ (tm:Tm) (qs:Array Tmp) (ca cb:Code),HasL n d s.L tm → qs.toList=ps → resC P inl ca=ra.erase → resC P inl cb=rb.erase →
   ∃ r h',call gf (x++[.fn (.yield (s.h.length+1)) [] []]++lb) ((s.h++[.dfd])++[.loop false tm qs ca cb s.h.length])=some (r,h') ∧ (match r with
    | .ret _=>(∃ tm' qs' ca' cb' db',h'[s.h.length+1]?=some (.loop false tm' qs' ca' cb' db')) ∧ Q .norm ⟨s.L,h'.set (s.h.length+1) .dead,.col s.h.length::s.df⟩
    | .pan v=>Q (.pan v) ⟨s.L,h',.col s.h.length::s.df⟩)):OkR P call inl k n d (.rangeF g ps ra rb) s Q:=by
 intro c0 hc0 tm H
 obtain ⟨y,qs,a,b,rfl,hy,hq,ha,hb⟩:=zwe hc0
 obtain ⟨r,h',h1,h2⟩:=body tm qs a b H hq ha hb
 have he:=H.agree.ev hy hg
 unfold zbc
 simp only [he,hf,if_true,h1]
 cases r with
 | ret v =>
  obtain ⟨⟨tm',qs',ca',cb',db',h3⟩,h4⟩:=h2
  simp only [h3]
  exact ⟨_,_,rfl,s.L,H,h4⟩
 | pan v=>exact ⟨_,_,rfl,s.L,H,h2⟩
theorem yieldI {ra rb:RC}(ha:okR n ra=true) (hb:okR n rb=true) (ca cb:Code) (hca:resC P inl ca=ra.erase) (hcb:resC P inl cb=rb.erase) (calmA:zfm ra.erase=true) (calmB:zfm rb.erase=true) (hn:n<2 ^ d) {b:Nat}{args:List AV}{tms:Tm}{qs:Array Tmp}{db:Nat}{R:zaa → Prop}(H:HasL n d L tms) (hl:h[b]?=some (.loop false tms qs ca cb db)) (hq:qs.size=args.length) (hqs:(qs.toList.all (Nat.blt · n))=true)
  (W:Wp P call inl k n d ra ⟨((qs.toList.zip args).foldl (fun l p=>(p.1,p.2)::l) L),h,[]⟩ (fun ex s1=>ex=.norm ∧ s1.df=[] ∧ s1.h[b]?=some (.loop false tms qs ca cb db) ∧
   Wp P call inl k n d rb ⟨s1.L,s1.h.set b (.loop true tms qs ca cb db),[]⟩ (fun ex s2=>ex=.norm ∧ s2.df=[] ∧ s2.h[b]?=some (.loop true tms qs ca cb db) ∧ R (s2.h.set b (.loop false tms qs ca cb db))))) :
  ∃ h',zkr P call (zcf P inl call) k b args h=some (.ret (.bool true),h') ∧ R h':=by
 have Hz:∀ (l:List (Nat × AV)) (L:LT) (tm:Tm),HasL n d L tm → (∀ p∈l,p.1<n) → HasL n d (l.foldl (fun l p=>(p.1,p.2)::l) L) (l.foldl (fun l p=>Tm.set l p.1 p.2) tm):=by
  intro l
  induction l with
  | nil=>intro L tm H _;exact H
  | cons p r ih =>
   intro L tm H hp
   refine ih _ _ ?_ fun q hq=>hp q (List.mem_cons_of_mem _ hq)
   exact H.put hn (dst:=some p.1) (by show Nat.blt p.1 n=true;rw [Nat.blt_eq];exact hp p (List.mem_cons_self ..)) p.2
 have H1:=Hz (qs.toList.zip args) L tms H fun p hp=>by
  have:=List.of_mem_zip (a:=p.1) (b:=p.2) hp
  have:=List.all_eq_true.1 hqs _ this.1
  rwa [Nat.blt_eq] at this
 obtain ⟨ex,st1,g1,L1,g2,rfl,g3,g4,g5⟩:=zb2 hn ra ha W ca hca _ H1
 obtain ⟨ex,st2,k1,L2,k2,rfl,k3,k4,k5⟩:=zb2 hn rb hb g5 cb hcb _ g2
 refine ⟨_,?_,k5⟩
 unfold zkr
 simp only [hl]
 rw [if_pos ⟨hq,zb1 calmA hca,zb1 calmB hcb⟩]
 simp only at g1 g3 g4 k1 k3 k4
 rw [g1]
 simp only [g4]
 rw [g3]
 rw [k1]
 simp only [k4]
theorem cutI (hn:n<2 ^ d) {rc:RC}(ho:okR n rc=true) {Q:Ex → LS → Prop}{s t:LS}(hs:LS.sub t s) (hw:Wp P call inl k n d rc t Q):OkR P call inl k n d rc s Q:=by
 intro c hc tm H
 obtain ⟨e1,e2,e3⟩:=hs
 have:=zb2 hn rc ho hw c hc tm (HasL.sub e1 H)
 rw [← e2,← e3] at this
 exact this
end
abbrev Str:=List UInt8
@[reducible] def u8 (b:UInt8):AV:=.int .u8 b.toNat
@[reducible] def i64 (n:Int):AV:=.int .i64 n
theorem br {b:Bool}{T F:Prop}(h1:b=true → T) (h2:b=false → F) : @Bool.rec (fun _=>Prop) F T b:=by
 cases b
 ·exact h2 rfl
 ·exact h1 rfl
theorem brd {p:Prop}{i:Decidable p}{T F:Prop}(h1:p → T) (h2:¬p → F) : @Bool.rec (fun _=>Prop) F T (@decide p i):=br (fun e=>h1 (of_decide_eq_true e)) (fun e=>h2 (of_decide_eq_false e))
theorem bre {α:Type} [i:BEq α] [LawfulBEq α] {a b:α}{T F:Prop}(h1:a=b → T) (h2:a≠b → F) : @Bool.rec (fun _=>Prop) F T (@BEq.beq α i a b):=br (fun e=>h1 (eq_of_beq e)) (fun e=>h2 fun q=>by subst q;simp at e)
theorem brq {α:Type} [i:BEq α] [LawfulBEq α] {a b:α}{T F:Prop}(h1:a≠b → T) (h2:a=b → F) : @Bool.rec (fun _=>Prop) F T (@bne α i a b):=br (fun e=>h1 (by intro q;subst q;simp at e)) (fun e=>h2 (by simpa using e))
theorem brn {b:Bool}{T F:Prop}(h1:b=false → T) (h2:b=true → F) : @Bool.rec (fun _=>Prop) F T (!b):=br (fun e=>h1 (by simpa using e)) (fun e=>h2 (by simpa using e))
theorem ldI {h:zaa}{b ver:Nat}{q:Option TypeId → List AV → Nat → Prop}{el:Option TypeId}{cs:List AV}{frz:Nat}(h1:h[b]?=some (.cells ver el cs frz)) (h2:q el cs frz):∃ el cs frz,h[b]?=some (.cells ver el cs frz) ∧ q el cs frz:=⟨el,cs,frz,h1,h2⟩
theorem stI {h:zaa}{b ver o sz:Nat}{v:AV}{q:Option TypeId → List AV → Nat → List AV → Prop}{el:Option TypeId}{cs xs:List AV}{frz:Nat}(h1:h[b]?=some (.cells ver el cs frz)) (h2:v.cells?=some xs) (h3:xs.length=sz) (h4:Nat.ble (o+xs.length) cs.length=true) (h5:Nat.ble frz o=true)
  (h6:q el cs frz xs):∃ el cs frz xs,h[b]?=some (.cells ver el cs frz) ∧ v.cells?=some xs ∧ xs.length=sz ∧ o+xs.length ≤ cs.length ∧ frz ≤ o ∧ q el cs frz xs :=
 ⟨el,cs,frz,xs,h1,h2,h3,Nat.le_of_ble_eq_true h4,Nat.le_of_ble_eq_true h5,h6⟩
theorem zag (h:zaa) (x:AB):(h++[x])[h.length]?=some x:=by simp
theorem zae (h:zaa) (x y:AB):((h++[x]).set h.length y)[h.length]?=some y:=by simp
theorem ixL {α:Type}{f:α → AV}{g:α → List AV}(hc:∀ a,(f a).cells?=some (g a)) {l:List α}{j:Nat}(hj:j<l.length) {sz sz':Nat}(hs:l≠[] → sz'=sz) {q:List AV → Prop}(hq:q (g l[j])) :
  0 ≤ (j:Int) ∧ sz'=sz ∧ ∃ y,(l.map f)[(j:Int).toNat]?=some y ∧ ∃ cs,y.cells?=some cs ∧ q cs :=
 ⟨by omega,hs (fun e=>by subst e;simp at hj),f l[j],by simp [hj],g l[j],hc _,hq⟩
theorem lenI {α:Type}(f:α → AV) (l:List α):some (AV.int .i64 ((l.map f).length:Nat))=some (.int .i64 (l.length:Nat)):=by rw [List.length_map]
theorem rawI {P:Program}{call:zba}{ρ:RX → Option AV}{o:Oper}{h h':zaa}{K X:AV → zaa → Prop}{v:AV}(h0:o.op.operands.toList.all (ztb ρ)=true) (h1:zet P call o (evR ρ) h=some (.ret v,h')) (h2:K v h') :
  o.op.operands.toList.all (ztb ρ)=true ∧ ∃ r h',zet P call o (evR ρ) h=some (r,h') ∧ WpR K X h' r:=⟨h0,.ret v,h',h1,h2⟩
theorem strI {i:Int}{s:List UInt8}{b:UInt8}{q:UInt8 → Prop}(h0:0 ≤ i) (h1:s[i.toNat]?=some b) (h2:q b):0 ≤ i ∧ ∃ b,s[i.toNat]?=some b ∧ q b:=⟨h0,b,h1,h2⟩
theorem clI {call:zba}{g:FuncId}{args:List AV}{h h':zaa}{K X:AV → zaa → Prop}{v:AV}(h1:call g args h=some (.ret v,h')) (h2:K v h'):∃ r h',call g args h=some (r,h') ∧ WpR K X h' r:=⟨.ret v,h',h1,h2⟩
theorem remI {a b z:Int}{q:Int → Prop}(h0:b≠0) (h1:a.tmod b=z) (h2:q z):b≠0 ∧ ∃ z,a.tmod b=z ∧ q z:=⟨h0,z,h1,h2⟩
theorem zI {k:IntKind}{x z:Int}{q:Int → Prop}(h1:k.wrap x=z) (h2:q z):∃ z,k.wrap x=z ∧ q z:=⟨z,h1,h2⟩
theorem eqI {P:Program}{t:TypeId}{a b:AV}{r:Bool}{q:Bool → Prop}(h1:eqA P 20 t a b=some r) (h2:q r):∃ r,eqA P 20 t a b=some r ∧ q r:=⟨r,h1,h2⟩
theorem slI {sz:Nat}{x v:AV}{l u m:Option Int}{q:AV → Prop}(h1:zbm sz x l u m=some v) (h2:q v):∃ v,zbm sz x l u m=some v ∧ q v:=⟨v,h1,h2⟩
theorem ss_lo {s:List UInt8}{c:Nat}{q:List UInt8 → Prop}(hc:c ≤ s.length) (hq:q (s.drop c)):0 ≤ (some (c:Int)).getD 0 ∧ (some (c:Int)).getD 0 ≤ (none:Option Int).getD (s.length:Int) ∧ (none:Option Int).getD (s.length:Int) ≤ (s.length:Int) ∧
  ∃ t,(s.take ((none:Option Int).getD (s.length:Int)).toNat).drop ((some (c:Int)).getD 0).toNat=t ∧ q t:=by
 refine ⟨by simp,by simpa using hc,by simp,_,rfl,?_⟩
 simpa using hq
theorem zu0 {s:List UInt8}{c:Nat}{q:List UInt8 → Prop}(hc:c ≤ s.length) (hq:q (s.take c)):0 ≤ (none:Option Int).getD 0 ∧ (none:Option Int).getD 0 ≤ (some (c:Int)).getD (s.length:Int) ∧ (some (c:Int)).getD (s.length:Int) ≤ (s.length:Int) ∧
  ∃ t,(s.take ((some (c:Int)).getD (s.length:Int)).toNat).drop ((none:Option Int).getD 0).toNat=t ∧ q t:=by
 refine ⟨by simp,by simp,by simpa using hc,_,rfl,?_⟩
 simpa using hq
theorem zix {s:List UInt8}{c d:Nat}{q:List UInt8 → Prop}(hc:c ≤ d) (hd:d ≤ s.length) (hq:q ((s.take d).drop c)):0 ≤ (some (c:Int)).getD 0 ∧ (some (c:Int)).getD 0 ≤ (some (d:Int)).getD (s.length:Int) ∧ (some (d:Int)).getD (s.length:Int) ≤ (s.length:Int) ∧
  ∃ t,(s.take ((some (d:Int)).getD (s.length:Int)).toNat).drop ((some (c:Int)).getD 0).toNat=t ∧ q t:=by
 refine ⟨by simp,by simpa using hc,by simpa using hd,_,rfl,?_⟩
 simpa using hq
theorem sl_lo {α:Type}(f:α → AV) (l:List α) {sz sz':Nat}(hz:l≠[] → sz'=sz) (c:Bool) (k:Nat) (hk:k ≤ l.length) :
  zbm sz (.lst sz' (l.map f) c) (some (k:Int)) none none=some (.lst sz ((l.drop k).map f) (sz != 0&&(c&&((l.length:Int)==(l.length:Nat))))):=by
 unfold zbm
 simp only [Option.getD_none,Option.getD_some,List.length_map]
 rw [if_pos ⟨by omega,by omega,by omega,by by_cases e:l=[];exact .inr (by simp [e]);exact .inl (hz e)⟩]
 have:(l.map f).take (Int.toNat l.length)=l.map f:=by rw [Int.toNat_natCast];exact List.take_of_length_le (by simp)
 rw [this]
 simp [List.map_drop]
theorem nxI {α:Type}{S:α → LS}{I:α → Prop}{μ:α → Nat}{k:Nat}{s:LS}(y:α) (h1:I y) (h2:μ y<k) (h3:LS.sub (S y) s):∃ y,I y ∧ μ y<k ∧ LS.sub (S y) s:=⟨y,h1,h2,h3⟩
def RC.loops:RC → List RC
 | .seq a b=>a.loops++b.loops
 | .cond _ a b=>a.loops++b.loops
 | .block _ c=>c.loops
 | .loop c=>c::c.loops
 | .rangeF _ _ a b=>a.loops++b.loops
 | .cut c=>c.loops
 | _=>[]
def RC.lp (c:RC) (i:Nat):RC:=match c.loops[i]? with
 | some c=>c
 | none=>.skip
def zew:RC → RC
 | .cut c=>c
 | .seq a b=>match zew a with
  | .skip=>zew b
  | c=>c
 | .cond _ a b=>match zew a with
  | .skip=>zew b
  | c=>c
 | .block _ c=>zew c
 | .loop c=>zew c
 | _=>.skip
def RC.rngs:RC → List (RC × RC)
 | .seq a b=>a.rngs++b.rngs
 | .cond _ a b=>a.rngs++b.rngs
 | .block _ c=>c.rngs
 | .loop c=>c.rngs
 | .rangeF _ _ a b=>[(a,b)]
 | .cut c=>c.rngs
 | _=>[]
abbrev KK:Nat:=18446744073709551616
noncomputable def CN (P:Program) (c:Cfg) (n:Nat):zba:=zb4 P c (zcf P c.inl) KK n
theorem zdp {K:AV → Prop}{o:Option AV}{v:AV}(h1:o=some v) (h2:K v):zt8 K o:=by subst h1;exact h2
noncomputable def zb3 (P:Program) (L:LT) (h:zaa):List ResultVar → Option (List AV)
 | []=>some []
 | .tmp t::r=>match lk L t with
  | some v=>match zb3 P L h r with
   | some vs=>some (v::vs)
   | none=>none
  | none=>none
 | .cell a t::r=>match lk L a with
  | some p=>match zbv P h t p with
   | some v=>match zb3 P L h r with
    | some vs=>some (v::vs)
    | none=>none
   | none=>none
  | none=>none
def tupA:List AV → AV
 | [v]=>v
 | vs=>.tup vs
noncomputable def RetQ (P:Program) (rs:List ResultVar) (R:AV → zaa → Prop):Ex → LS → Prop:=fun ex s=>match ex with
 | .norm | .ret=>s.df=[] ∧ ∃ vs,zb3 P s.L s.h rs=some vs ∧ R (tupA vs) s.h
 | _=>False
theorem retK {P:Program}{t:Tmp}{L:LT}{h:zaa}{x v:AV}(hk:lk L t=some x) (h2:frz h 64 x=some v):([]:List DI)=[] ∧ ∃ vs,zb3 P L h [.tmp t]=some vs ∧ frz h 64 (tupA vs)=some v:=⟨rfl,[x],by simp [zb3,hk],h2⟩
theorem zas {h:zaa}{b c:Bool}(e:b=c):frz h 64 (.bool b)=some (.bool c):=by subst e;rfl
theorem zbw {h:zaa}{k:IntKind}{b c:Int}(e:b=c):frz h 64 (.int k b)=some (.int k c):=by subst e;rfl
theorem zht {h:zaa}{b c:List UInt8}(e:b=c):frz h 64 (.str b)=some (.str c):=by subst e;rfl
theorem frz_ib {h:zaa}{k:IntKind}{a a':Int}{b b':Bool}(e1:a=a') (e2:b=b'):frz h 64 (.tup [.int k a,.bool b])=some (.tup [.int k a',.bool b']):=by subst e1 e2;rfl
theorem zwp {h:zaa}{k k':IntKind}{a a' b b':Int}(e1:a=a') (e2:b=b'):frz h 64 (.tup [.int k a,.int k' b])=some (.tup [.int k a',.int k' b']):=by subst e1 e2;rfl
theorem zeo {f:AV → Option AV}:∀ {xs:List AV},(∀ x∈xs,f x=some x) → allM f xs=some xs
 | [],_=>rfl
 | x::xs,h=>by
  unfold allM
  rw [h x (List.mem_cons_self ..),zeo fun y hy=>h y (List.mem_cons_of_mem _ hy)]
def zex (n:Nat) (x:AV):Prop:=∀ h,frz h n x=some x
theorem zby {n:Nat}{xs:List AV}(hx:∀ x∈xs,zex n x):zex (n+1) (.agg xs):=fun h=>by
 unfold frz;simp only;rw [zeo fun x hx'=>hx x hx' h];rfl
theorem zwr {n:Nat}{xs:List AV}(hx:∀ x∈xs,zex n x):zex (n+1) (.tup xs):=fun h=>by
 unfold frz;simp only;rw [zeo fun x hx'=>hx x hx' h];rfl
theorem zd5 {n sz:Nat}{c:Bool}{xs:List AV}(hx:∀ x∈xs,zex n x):zex (n+1) (.lst sz xs c):=fun h=>by
 unfold frz;simp only;rw [zeo fun x hx'=>hx x hx' h];rfl
theorem zat {n:Nat}{k:IntKind}{i:Int}:zex (n+1) (.int k i):=fun h=>rfl
theorem zg6 {n:Nat}{s:List UInt8}:zex (n+1) (.str s):=fun h=>rfl
theorem zlk {n:Nat}{b:Bool}:zex (n+1) (.bool b):=fun h=>rfl
theorem retP {P:Program}{rs:List ResultVar}{L:LT}{h:zaa}{vs:List AV}{v:AV}(h1:zb3 P L h rs=some vs) (h2:frz h 64 (tupA vs)=some v):([]:List DI)=[] ∧ ∃ vs,zb3 P L h rs=some vs ∧ frz h 64 (tupA vs)=some v:=⟨rfl,vs,h1,h2⟩
section
variable {P:Program}{inl:FuncId → Bool}{n:Nat}{f:FuncId}{fn:Func}{rc:RC}{args:List AV}{v:AV}{h h':zaa}
theorem zb8 {L:LT}{tm:Tm}{n d:Nat}(H:HasL n d L tm):∀ {rs:List ResultVar}{vs:List AV},zb3 P L h rs=some vs → resA P tm h rs=some vs
 | [],vs,hr=>by cases hr;rfl
 | .tmp t::r,vs,hr=>by
  unfold zb3 at hr
  split at hr
  ·rename_i v hv
   split at hr
   ·rename_i vs' hvs
    cases hr
    unfold resA
    rw [zb8 H hvs,H.2 _ _ hv]
    rfl
   ·cases hr
  ·cases hr
 | .cell a t::r,vs,hr=>by
  unfold zb3 at hr
  split at hr
  ·rename_i p hp
   split at hr
   ·rename_i v hv
    split at hr
    ·rename_i vs' hvs
     cases hr
     unfold resA
     rw [zb8 H hvs,H.2 _ _ hp,hv]
    ·cases hr
   ·cases hr
  ·cases hr
theorem zi5 {tm:Tm}{vs:List AV}(h1:resA P tm h fn.results.toList=some vs):retA P fn tm h=some (tupA vs):=by
 unfold retA
 rw [h1]
 cases vs with
 | nil=>rfl
 | cons a r=>cases r<;>rfl
def zcr:Nat → List AV → LT
 | _,[]=>[]
 | i,v::r=>(i,v)::zcr (i+1) r
theorem Tr.shape_full:∀ d,Tr.shape d (Tr.full d)=true
 | 0=>rfl
 | d+1=>by simp [Tr.full,Tr.shape,Tr.shape_full d]
theorem zrc {n d:Nat}(hn:n<2 ^ d):∀ {args:List AV}{i:Nat}{tm:Tm},tm.n=n → Tr.shape d tm.t=true → i+args.length ≤ n →
  (Tm.setL args i tm).n=n ∧ Tr.shape d (Tm.setL args i tm).t=true ∧ (∀ j v,lk (zcr i args) j=some v → (Tm.setL args i tm).get j=v) ∧ ∀ j,j<i → (Tm.setL args i tm).get j=tm.get j
 | [],i,tm,h1,h2,h3=>⟨h1,h2,fun j v h=>(by cases h),fun _ _=>rfl⟩
 | a::r,i,tm,h1,h2,h3=>by
  simp only [List.length_cons] at h3
  have H:HasL n d [] tm:=⟨⟨h1,h2⟩,fun i v h=>by cases h⟩
  have H':=H.put hn (dst:=some i) (by show Nat.blt i n=true;rw [Nat.blt_eq];omega) a
  obtain ⟨g1,g2,g3,g4⟩:=zrc hn (args:=r) (i:=i+1) H'.1.1 H'.1.2 (by omega)
  refine ⟨g1,g2,fun j v hj=>?_,fun j hj=>?_⟩
  ·change cond (Nat.beq j i) (some a) (lk (zcr (i+1) r) j)=some v at hj
   cases hq:Nat.beq j i with
   | true =>
    rw [hq] at hj
    cases hj
    have:j=i:=Nat.eq_of_beq_eq_true hq
    subst this
    show (Tm.setL r (j+1) (putT tm (some j) a)).get j=a
    rw [g4 j (by omega)]
    exact H'.2 j a (by show cond (Nat.beq j j) (some a) _=some a;rw [show Nat.beq j j=true from Nat.beq_refl j];rfl)
   | false=>rw [hq] at hj;exact g3 j v hj
  ·show (Tm.setL r (i+1) (putT tm (some i) a)).get j=tm.get j
   rw [g4 j (by omega)]
   exact Tm.get_set_ne _ _ (by omega)
theorem ziw {d:Nat}(hd:Nat.log2 (fn.ntmps+1)+1=d) (hl:args.length ≤ fn.ntmps):HasL fn.ntmps d (zcr 0 args) (zcd fn args):=by
 have hn:fn.ntmps<2 ^ d:=by
  subst hd
  have:=@Nat.lt_log2_self (fn.ntmps+1)
  omega
 have e:args.length+(fn.ntmps-args.length)=fn.ntmps:=by omega
 unfold zcd
 rw [e]
 obtain ⟨g1,g2,g3,_⟩:=zrc hn (args:=args) (i:=0) (tm:=Tm.new fn.ntmps) rfl (by unfold Tm.new;rw [hd];exact Tr.shape_full d) (by omega)
 exact ⟨⟨g1,g2⟩,g3⟩
structure FunIs (P:Program) (inl:FuncId → Bool) (f:FuncId) (np nt d:Nat) (rs:List ResultVar) (rc:RC):Prop where
 fn:∃ fn,P.funcs[f]?=some fn ∧ fn.body.map (resC P inl)=some rc.erase ∧ fn.ntmps=nt ∧ fn.results.toList=rs
 dep:Nat.log2 (nt+1)+1=d
 par:np ≤ nt
 ok:okR nt rc=true
theorem zqt {call:zba}{R:AV → zaa → Prop}{np nt d:Nat}{rs:List ResultVar}(F:FunIs P inl f np nt d rs rc) (hp:args.length=np)
  (W:Wp P call inl KK nt d rc ⟨zcr 0 args,h,[]⟩ (RetQ P rs R)):∃ v h',zm6 P call (zcf P inl call) KK f args h=some (.ret v,h') ∧ R v h':=by
 obtain ⟨fn,hfn,hrc,hnt,hrs⟩:=F.fn
 cases hb:fn.body with
 | none=>rw [hb] at hrc;cases hrc
 | some c =>
  rw [hb] at hrc
  have hrc':resC P inl c=rc.erase:=Option.some.inj hrc
  have hn:nt<2 ^ d:=by
   have:=@Nat.lt_log2_self (nt+1)
   have:=F.dep
   subst this
   omega
  have Hs:HasL nt d (zcr 0 args) (zcd fn args):=by
   subst hnt
   exact ziw F.dep (by rw [hp];exact F.par)
  obtain ⟨ex,st',h1,L',h3,h2⟩:=zb2 hn rc F.ok W c hrc' (zcd fn args) Hs
  unfold zm6
  simp only [hfn,hb]
  simp only at h1
  rw [h1]
  cases ex with
  | norm =>
   obtain ⟨h4,vs,h5,h6⟩:=h2
   simp only
   simp only at h4
   rw [h4]
   unfold zcu
   refine ⟨tupA vs,st'.h,?_,h6⟩
   rw [zi5 (by rw [hrs];exact zb8 h3 h5)]
   rfl
  | ret =>
   obtain ⟨h4,vs,h5,h6⟩:=h2
   simp only
   simp only at h4
   rw [h4]
   unfold zcu
   refine ⟨tupA vs,st'.h,?_,h6⟩
   rw [zi5 (by rw [hrs];exact zb8 h3 h5)]
   rfl
  | exit i=>exact h2.elim
  | pan v=>exact h2.elim
theorem zak {c:Cfg}{np nt d:Nat}{rs:List ResultVar}(F:FunIs P c.inl f np nt d rs rc) (hi:c.inl f=false) (hs:c.sum f args=none) (hl:args.length=np) (hp:zan args=true)
  (W:Wp P (CN P c n) c.inl KK nt d rc ⟨zcr 0 args,[],[]⟩ (RetQ P rs fun v' h'=>frz h' 64 v'=some v)):CN P c (n+1) f args h=some (.ret v,h):=by
 have hlt:f<P.funcs.size:=by
  obtain ⟨fn,hfn,_⟩:=F.fn
  rcases Nat.lt_or_ge f P.funcs.size with h | h
  ·exact h
  ·rw [Array.getElem?_eq_none h] at hfn;cases hfn
 obtain ⟨v',h',h1,h2⟩:=zqt F hl W
 unfold CN zb4
 simp only [hi,hs,Bool.false_eq_true,if_false,hp,hlt,decide_true,Bool.and_self,if_true]
 unfold zhm
 unfold CN at h1
 rw [h1]
 simp only [CRes.map?,h2,Option.map_some]
theorem za2 {c:Cfg}{np nt d:Nat}{rs:List ResultVar}(F:FunIs P c.inl f np nt d rs rc) (hi:c.inl f=true) (hl:args.length=np)
  (W:Wp P (CN P c n) c.inl KK nt d rc ⟨zcr 0 args,h,[]⟩ (RetQ P rs fun v' h''=>v'=v ∧ h''=h')) (hm:c.mem f args h=none:=by rfl) (hk:c.cold f=false:=by rfl):CN P c (n+1) f args h=some (.ret v,h'):=by
 have hlt:f<P.funcs.size:=by
  obtain ⟨fn,hfn,_⟩:=F.fn
  rcases Nat.lt_or_ge f P.funcs.size with h | h
  ·exact h
  ·rw [Array.getElem?_eq_none h] at hfn;cases hfn
 obtain ⟨v',h'',h1,h2,h3⟩:=zqt F hl W
 subst h2 h3
 unfold CN zb4
 simp only [hi,if_true,hm,hk,Bool.false_eq_true,if_false]
 rw [if_neg (Nat.not_le.2 hlt)]
 exact h1
theorem zwm {c:Cfg}(hi:c.inl f=false) (hlt:f<P.funcs.size) (hs:c.sum f args=some v) (hp:zan args=true):CN P c (n+1) f args h=some (.ret v,h):=by
 unfold CN zb4
 simp only [hi,hs,Bool.false_eq_true,if_false,hp,hlt,decide_true,Bool.and_self,if_true]
theorem zad {z:Int}(h1 : -9223372036854775808 ≤ z) (h2:z<9223372036854775808):IntKind.i64.wrap z=z:=IntWalk.i64_in z ⟨h1,by omega⟩
end
end Go.Abs
namespace Go.Abs
open Go.ChangeShapes Go.WideShapes Go.ChangeAt Go.RowKit
def zes (W:World):SM:=fun b o=>W.cell? ⟨b,o,none⟩
section
variable {H:Type}{enc:TypeId × Value → H}{P:Program}{W W':World}
theorem zky {sp:Nat → Bool}:∀ {ts:List TypeId}{vs:List Value}{ds:List (DataW H)}{p:List MemPlace},DataW.TrodAll enc P W 0 sp true ts vs ds p → ∀ x∈p,x.block<W.heap.size
 | [],vs,ds,p,h=>by
  obtain ⟨_,_,rfl⟩:=trodAll_nil h
  intro x hx;cases hx
 | t::ts,vs,ds,p,h=>by
  obtain ⟨v,vs',d,ds',p',q,rfl,rfl,rfl,h1,h2⟩:=trodAll_cons h
  intro x hx
  rcases List.mem_append.1 hx with hx | hx
  ·obtain ⟨m,hm⟩:=h1;exact DataW.trod_lt m _ _ _ hm x hx
  ·exact zky h2 x hx
theorem zgq (hl:laidOutB P=true) (hb:Below W.heap.size W W'):∀ {ts:List TypeId}{vs:List Value}{ds:List (DataW H)}{p:List MemPlace},(ts.all fun t=>P.readableRec t&&decide (t<P.types.size))=true → DataW.TrodAll enc P W 0 (fun _=>true) true ts vs ds p →
  DataW.TrodAll enc P W' 0 (fun b=>decide (b<W.heap.size)) true ts vs ds p
 | [],vs,ds,p,_,h=>by
  obtain ⟨rfl,rfl,rfl⟩:=trodAll_nil h
  exact trodAll_mk0
 | t::ts,vs,ds,p,hty,h=>by
  simp only [List.all_cons,Bool.and_eq_true,decide_eq_true_eq] at hty
  have hlt:=zky h
  obtain ⟨v,vs',d,ds',p',q,rfl,rfl,rfl,h1,h2⟩:=trodAll_cons h
  exact trodAll_cons_mk (Below.trod hl hty.1.1 hty.1.2 h1 hb fun x hx=>hlt x (List.mem_append_left _ hx)) (zgq hl hb hty.2 h2)
theorem ziu {sp:Nat → Bool}:∀ {ts:List TypeId}{vs:List Value}{ds:List (DataW H)}{p:List MemPlace},DataW.TrodAll enc P W 0 sp true ts vs ds p → ds.length=ts.length
 | [],vs,ds,p,h=>by obtain ⟨_,rfl,_⟩:=trodAll_nil h;rfl
 | t::ts,vs,ds,p,h=>by
  obtain ⟨v,vs',d,ds',p',q,rfl,rfl,rfl,h1,h2⟩:=trodAll_cons h
  simp [ziu h2]
theorem zzz {f:FuncId}{fn:Func}{s:ChangeSpec}{tb:TypeId}(hl:laidOutB P=true) (hty:(fn.params.toList.all fun t=>P.readableRec t&&decide (t<P.types.size))=true) (hres:fn.resultTypes=#[tb]) (htb:P.underlying tb=some .bool) (hvars:s.vars=[])
  (hs:∀ (ds:List (DataW H)),ds.length=fn.params.size → s.fn H ds={ results:=[.lit (.bool true)],args:=ds }) {args:Array Value}{ds gs:List (DataW H)}{before:List MemPlace}
  (hW:DataW.Whole enc P fn.params.toList s.vars false W args.toList ds gs before) {as:List AV}(hv:VRs (zes W) noBM as args.toList) (hp:zaj P f as (.ret (.bool true))) :
  Calls P f args W fun e W'=>∃ v,e=.returned v ∧ s.post enc P fn false true false false W args v W':=by
 refine (hp (zes W) W args (fun b o v h=>h) hv).mono fun e W' hq=>?_
 obtain ⟨S',g1,g2,g3,g4,g5,genv,u,e1,h1⟩:=hq
 unfold VR at h1
 subst h1
 have bel:Below W.heap.size W W':=⟨genv.1,genv.2.2,genv.2.1,g4,g5⟩
 have hW':=hW
 obtain ⟨p,q,hA0,hV,rfl,hfz,hnd⟩:=hW
 have hA:DataW.TrodAll enc P W 0 (fun _=>true) true fn.params.toList args.toList ds p:=hA0
 rw [hvars] at hV
 obtain ⟨rfl,rfl⟩:=trodVars_none hV
 have hlen:ds.length=fn.params.size:=by rw [ziu hA];simp
 have hsp:=hs (ds++[]) (by simpa using hlen)
 refine ⟨.bool true,e1,ds,[],_,[],p,[],hW',?_,?_,?_,bel.frame _,fun h=>by cases h⟩
 ·rw [hsp,hres];exact trodAll_mk1 (shut_bool htb _)
 ·rw [hsp];simp only [List.append_nil];exact zgq hl bel hty hA
 ·rw [hsp,hvars];exact rfl
end
section
variable {H:Type}{enc:TypeId × Value → H}{P:Program}{W:World}{base:Nat}{sp:Nat → Bool}{held:Bool}{fuel:Nat}{t:TypeId}{cs:List Value}{x:DataW H × List MemPlace}
theorem z04 (ht:P.underlying t=some .string) (h:DataW.trod enc P W base sp held fuel t cs=some x):∃ s:List UInt8,cs=[.string ⟨s.toArray⟩]:=by
 cases fuel with
 | zero=>simp [DataW.trod] at h
 | succ n =>
  unfold DataW.trod at h
  rw [ht] at h
  split at h<;>simp_all
  rename_i s
  exact ⟨s.data.toList,by simp⟩
theorem zvh {k:IntKind}(ht:P.underlying t=some (.int k)) (h:DataW.trod enc P W base sp held fuel t cs=some x):∃ n,cs=[.int k n] ∧ (Lit.int k n).wf=true:=by
 cases fuel with
 | zero=>simp [DataW.trod] at h
 | succ n =>
  unfold DataW.trod at h
  rw [ht] at h
  split at h<;>simp_all
theorem rd_u8 (ht:P.underlying t=some (.int .u8)) (h:DataW.trod enc P W base sp held fuel t cs=some x):∃ b:UInt8,cs=[.int .u8 b.toNat]:=by
 obtain ⟨n,rfl,hw⟩:=zvh ht h
 refine ⟨UInt8.ofNat n.toNat,?_⟩
 have h2:0 ≤ n ∧ n ≤ 255:=by simpa [Lit.wf,IntKind.min,IntKind.max,IntKind.signed,IntKind.bits] using hw
 have:(UInt8.ofNat n.toNat).toNat=n.toNat:=by
  rw [UInt8.toNat_ofNat'];omega
 rw [this]
 congr 1
 congr 1
 omega
theorem zki {S:SM}{m:BM}:∀ {as:List AV}{bs:List AV}{vs us:List Value},VRs S m as vs → VRs S m bs us → VRs S m (as++bs) (vs++us)
 | [],bs,vs,us,h,k=>by unfold VRs at h;subst h;exact k
 | a::as,bs,vs,us,h,k=>by
  unfold VRs at h
  obtain ⟨v,vs',rfl,h1,h2⟩:=h
  show VRs S m (a::(as++bs)) (v::vs'++us)
  unfold VRs
  exact ⟨v,vs'++us,rfl,h1,zki h2 k⟩
theorem zgn {S:SM}{m:BM}{a:AV}{v:Value}(h:VR S m a v):VRs S m [a] [v]:=by unfold VRs;exact ⟨v,[],rfl,h,by unfold VRs;rfl⟩
theorem CR_of {S:SM}{m:BM}:∀ {as:List AV}{vs:List Value}{B q:Nat},VRs S m as vs → (∀ i v,vs[i]?=some v → S B (q+i)=some v) → CR S m as B q
 | [],_,_,_,_,_=>by unfold CR;trivial
 | a::as,vs,B,q,h,hc=>by
  unfold VRs at h
  obtain ⟨v,vs',rfl,h1,h2⟩:=h
  unfold CR
  refine ⟨⟨v,by simpa using hc 0 v rfl,h1⟩,CR_of h2 fun i u hu=>?_⟩
  have:=hc (i+1) u (by simpa using hu)
  rwa [show q+(i+1)=q+1+i by omega] at this
theorem ER_of {S:SM}{m:BM}{α:Type}{g:α → List AV}{sz:Nat}:∀ {l:List α}{B q:Nat},(∀ i e,l[i]?=some e → CR S m (g e) B (q+i*sz)) → ER S m sz (l.map fun e=>.agg (g e)) B q
 | [],_,_,_=>by unfold ER;trivial
 | e::l,B,q,h=>by
  show ER S m sz (.agg (g e)::l.map fun e=>.agg (g e)) B q
  unfold ER
  refine ⟨by simpa using h 0 e rfl,ER_of fun i e' he=>?_⟩
  have:=h (i+1) e' (by simpa using he)
  rwa [show q+(i+1)*sz=q+sz+i*sz by rw [Nat.add_mul];omega] at this
theorem zmn {α:Type}{p:Nat → α → Prop}:∀ (n:Nat),(∀ i,i<n → ∃ a,p i a) → ∃ l:List α,l.length=n ∧ ∀ i a,l[i]?=some a → p i a
 | 0,_=>⟨[],rfl,fun i a h=>by simp at h⟩
 | n+1,h=>by
  obtain ⟨l,h1,h2⟩:=zmn n fun i hi=>h i (by omega)
  obtain ⟨a,ha⟩:=h n (by omega)
  refine ⟨l++[a],by simp [h1],fun i b hb=>?_⟩
  rcases Nat.lt_or_ge i l.length with hi | hi
  ·rw [List.getElem?_append_left hi] at hb;exact h2 i b hb
  ·rw [List.getElem?_append_right hi] at hb
   have:i=n:=by
    rcases Nat.lt_or_ge (i-l.length) 1 with h3 | h3
    ·omega
    ·rw [List.getElem?_eq_none (by simpa using h3)] at hb;cases hb
   subst this
   simp [h1] at hb
   subst hb;exact ha
theorem zzb {α:Type}{g:α → List AV}{ok:α → Prop}{e:TypeId}{sz:Nat}(ht:P.underlying t=some (.slice e)) (hsz:P.cellsOf e=sz) (h0:sz≠0)
  (he:∀ (fuel:Nat) (cs:List Value) (x:DataW H × List MemPlace),DataW.trod enc P W base sp held fuel e cs=some x → ∃ a:α,VRs (zes W) noBM (g a) cs ∧ ok a)
  (h:DataW.trod enc P W base sp held fuel t cs=some x):∃ (l:List α) (v:Value),cs=[v] ∧ VR (zes W) noBM (.lst sz (l.map fun a=>.agg (g a)) false) v ∧ ∀ a∈l,ok a:=by
 rcases DataW.trod_slice ht h with ⟨rfl,_⟩ | ⟨a,len,cap,elems,rest,n,_,rfl,_,hb,hlc,hcm,hel,hi,_,_⟩
 ·exact ⟨[],_,rfl,by unfold VR;exact ⟨none,0,rfl,Nat.le_refl _,(fun h=>by cases h),fun h=>(h rfl).elim⟩,fun a h=>by cases h⟩
 ·rw [hsz] at hi
  obtain ⟨l,hl,hg⟩:=zmn (p:=fun i (b:α)=>(∃ cs',W.cells? base (a.add (i*sz)) sz=some cs' ∧ VRs (zes W) noBM (g b) cs') ∧ ok b) len fun i hil=>by
   have h1:=hi i hil
   have h2:elems[i]?=some (elems[i]'(by omega)):=List.getElem?_eq_getElem (by omega)
   rw [h2] at h1
   obtain ⟨cs',h3,h4⟩:=Option.bind_eq_some_iff.1 h1
   obtain ⟨b,h5,h6⟩:=he _ _ _ h4
   exact ⟨b,⟨cs',h3,h5⟩,h6⟩
  refine ⟨l,_,rfl,?_,fun b hb=>?_⟩
  ·unfold VR
   refine ⟨some a,cap,by simp [hl],by simpa [hl] using hlc,(fun h=>by cases h),fun hne=>?_⟩
   have hpos:0<len:=by
    rcases Nat.eq_zero_or_pos len with h | h
    ·subst h
     have:l=[]:=List.length_eq_zero_iff.1 hl
     subst this
     exact (hne rfl).elim
    ·exact h
   have hspot:a.spot=none:=by
    obtain ⟨b,hb⟩ : ∃ b,l[0]?=some b:=⟨_,List.getElem?_eq_getElem (by omega)⟩
    obtain ⟨⟨cs',h1,h2⟩,_⟩:=hg 0 b hb
    obtain ⟨_,h3,h4⟩:=World.cells?_some h1
    have h5:=h4 0 (by omega)
    rw [List.getElem?_eq_getElem (by omega)] at h5
    have:=World.cell?_spot h5
    simpa [Addr.add] using this
   obtain ⟨B,q,spot⟩:=a
   simp only at hspot
   subst hspot
   refine ⟨B,q,rfl,ER_of fun i b hb=>?_⟩
   obtain ⟨⟨cs',h1,h2⟩,_⟩:=hg i b hb
   obtain ⟨_,h3,h4⟩:=World.cells?_some h1
   refine CR_of h2 fun j v hj=>?_
   have hjl:j<sz:=by
    rcases Nat.lt_or_ge j sz with h | h
    ·exact h
    ·rw [List.getElem?_eq_none (by omega)] at hj;cases hj
   have h6:=h4 j hjl
   rw [hj] at h6
   have e7:((⟨B,q,none⟩ : Addr).add (i*sz)).add j=⟨B,q+i*sz+j,none⟩:=by
    unfold Addr.add
    by_cases e1:i*sz=0<;>by_cases e2:j=0<;>simp [e1,e2]
   rw [e7] at h6
   exact h6
  ·obtain ⟨i,hi',rfl⟩:=List.getElem_of_mem hb
   exact (hg i _ (List.getElem?_eq_getElem hi')).2
end
theorem zai {P:Program}{c:Cfg}{n:Nat}{f:FuncId}{args:List AV}{v:AV}(hsum:zx5 P c) (hinl:c.inl f=false) (h:CN P c (n+1) f args []=some (.ret v,[])):zaj P f args (.ret v):=by
 unfold CN zb4 at h
 simp only [hinl,Bool.false_eq_true,if_false] at h
 split at h
 ·split at h
  ·rename_i u hu
   cases h
   exact hsum.1 _ _ _ hu
  ·cases hp:zhm P (zb4 P c (zcf P c.inl) KK n) (zcf P c.inl) KK f args with
   | none=>rw [hp] at h;cases h
   | some r =>
    rw [hp] at h
    cases h
    exact zee (zj1 hsum (zw5 P c.inl) KK n) (zcn P c (zcf P c.inl) KK n) (zw5 P c.inl) hp
 ·cases h
end Go.Abs
namespace Go.Abs
def zrn:zba:=fun _ _ _=>none
section
variable {P:Program}{call:zba}{inl:FuncId → Bool}{k n d:Nat}
theorem zl8 {ops:Array Oper}:∀ {l:List Oper}{st st':St},l.all zgm=true → zdq P zrn ops l st=some (.norm,st') → runV P ops l st=some st'
 | [],st,st',_,h=>by unfold zdq at h;cases h;rfl
 | o::l,st,st',hc,h=>by
  simp only [List.all_cons,Bool.and_eq_true] at hc
  unfold zdq at h
  unfold runV
  cases hg:zbf ops o st.tm with
  | none=>rw [hg] at h;cases h
  | some b =>
   rw [hg] at h
   cases b with
   | false=>exact zl8 hc.2 h
   | true =>
    simp only at h ⊢
    cases hs:zgu P zrn o st with
    | none=>rw [hs] at h;cases h
    | some q =>
     obtain ⟨ex,st1⟩:=q
     rw [hs] at h
     cases ex with
     | norm =>
      simp only at h
      unfold zgu at hs
      split at hs
      ·rename_i c hop
       have:=hc.1
       unfold zgm at this
       rw [hop] at this
       cases this
      ·split at hs<;>cases hs
      ·split at hs
       ·rename_i v hv;cases hs;rw [hv];exact zl8 hc.2 h
       ·rename_i v h' hv;cases hs;rw [hv];exact zl8 hc.2 h
       ·rename_i f args hv;unfold zrn at hs;cases hs
       ·cases hs
     | exit i=>cases h
     | ret=>cases h
     | pan v=>cases h
def z1b (P:Program) (inl:FuncId → Bool) (fn:Func):Option (Option Tmp × List RI × RC):=match fn.body with
 | some (.seq (.region _ ops false) rest)=>match zff ops with
  | some (dst,more)=>match znv P ops more with
   | some l=>some (dst,l,resC P inl rest)
   | none=>none
  | none=>none
 | _=>none
def calmL (l:List RI):Bool:=l.all fun i=>match i.op with | .dfr _=>false | _=>true
structure DefIs (P:Program) (inl:FuncId → Bool) (f:FuncId) (np nt d:Nat) (rs:List ResultVar) (dst:Option Tmp) (more:List RI) (rc:RC):Prop where
 fn:∃ fn,P.funcs[f]?=some fn ∧ z1b P inl fn=some (dst,more,rc.erase) ∧ fn.ntmps=nt ∧ fn.results.toList=rs
 dep:Nat.log2 (nt+1)+1=d
 par:np ≤ nt
 ok:(okR nt rc&&(okD nt dst&&(more.all fun i=>okD nt i.dst)))=true
 calm:calmL more=true
 fine:fnOk P f=true
noncomputable def DefQ (P:Program) (rs:List ResultVar) (R:zaa → Prop):Ex → LS → Prop:=fun ex s=>match ex with
 | .norm | .ret=>s.df=[] ∧ (∃ vs,zb3 P s.L s.h rs=some vs) ∧ R s.h
 | _=>False
def zy8:Md → AV
 | .pan v false=>v
 | _=>.nili
def zrj:Md → Md
 | .pan v false=>.pan v true
 | u=>u
theorem zw7 {fn:Func}{rs:List ResultVar}{u':Md}{ex:Ex}{st:St}{L:LT}{R:zaa → Prop}(hrs:fn.results.toList=rs) (H:HasL n d L st.tm) (h:DefQ P rs R ex ⟨L,st.h,st.df⟩):zfk P fn u' (some (ex,st))=some (u',st.h) ∧ R st.h:=by
 unfold DefQ at h
 unfold zfk
 cases ex with
 | norm =>
  obtain ⟨h1,⟨vs,h2⟩,h3⟩:=h
  simp only at h1 h2
  refine ⟨?_,h3⟩
  simp only [h1,List.isEmpty_nil,if_true]
  rw [zi5 (by rw [hrs];exact zb8 H h2)]
 | ret =>
  obtain ⟨h1,⟨vs,h2⟩,h3⟩:=h
  simp only at h1 h2
  refine ⟨?_,h3⟩
  simp only [h1,List.isEmpty_nil,if_true]
  rw [zi5 (by rw [hrs];exact zb8 H h2)]
 | exit i=>exact h.elim
 | pan v=>exact h.elim
theorem zha {f:FuncId}{np nt d:Nat}{rs:List ResultVar}{dst:Option Tmp}{more:List RI}{rc:RC}{args:List AV}{h:zaa}{R:zaa → Prop}{u:Md}(F:DefIs P inl f np nt d rs dst more rc) (hp:args.length=np)
  (W:zq2 P zrn more ⟨pt (zcr 0 args) dst (zy8 u),h,[]⟩ (fun s=>Wp P call inl KK nt d rc s (DefQ P rs R)) (fun _ _=>False)) :
  ∃ h',zca P call (zcf P inl call) KK f args u h=some (zrj u,h') ∧ R h':=by
 obtain ⟨fn,hfn,htx,hnt,hrs⟩:=F.fn
 have hn:nt<2 ^ d:=by
  have:=@Nat.lt_log2_self (nt+1)
  have:=F.dep
  subst this
  omega
 have Hs:HasL nt d (zcr 0 args) (zcd fn args):=by
  subst hnt
  exact ziw F.dep (by rw [hp];exact F.par)
 have hok:=F.ok
 simp only [Bool.and_eq_true] at hok
 obtain ⟨ok1,ok2,ok3⟩:=hok
 unfold z1b at htx
 split at htx
 ·rename_i id ops rest hb
  split at htx
  ·rename_i dst' more' hrec
   split at htx
   ·rename_i l hl
    injection htx with htx
    injection htx with e1 e2
    injection e2 with e2 e3
    subst e1 e2
    have key:∀ x,x=zy8 u → ∃ h',zfk P fn (zrj u) (ztm P call (zcf P inl call) KK ops more' rest ⟨putT (zcd fn args) dst' x,h,[]⟩)=some (zrj u,h') ∧ R h':=by
     intro x hx
     subst hx
     have H1:=Hs.put hn ok2 (zy8 u)
     obtain ⟨ex,st',g1,L',g3,g2⟩:=zeq hn (s:=⟨pt (zcr 0 args) dst' (zy8 u),h,[]⟩) hl ok3 H1 W
     cases ex with
     | norm =>
      have cm:more'.all zgm=true:=zm3 hl F.calm
      have r1:=zl8 cm g1
      obtain ⟨ex,st'',k1,L'',k3,k2⟩:=zb2 hn rc ok1 g2 rest e3 st'.tm g3
      unfold ztm
      simp only at r1 k1
      rw [r1]
      simp only
      rw [k1]
      obtain ⟨q1,q2⟩:=zw7 (u':=zrj u) hrs k3 k2
      exact ⟨_,q1,q2⟩
     | pan v=>exact g2.elim
     | exit i=>exact g2.elim
     | ret=>exact g2.elim
    unfold zca
    simp only [hfn,hb,hrec]
    cases u with
    | ret=>exact key _ rfl
    | pan v r =>
     cases r with
     | false=>exact key _ rfl
     | true=>exact key _ rfl
   ·cases htx
  ·cases htx
 ·cases htx
noncomputable def zga (P:Program) (call:zba) (inl:FuncId → Bool) (rs:List ResultVar) (R:CRes → zaa → Prop) (L:LT):List DI → Md → zaa → Prop
 | [],.ret,h=>∃ vs,zb3 P L h rs=some vs ∧ R (.ret (tupA vs)) h
 | [],.pan v false,h=>R (.pan v) h
 | [],.pan _ true,_=>False
 | .fn f args::ds,u,h=>fnOk P f=true ∧ ∃ u' h',zca P call (zcf P inl call) KK f args u h=some (u',h') ∧ zga P call inl rs R L ds (zpn u') h'
 | .col b::ds,u,h=>h[b]?=some .dfd ∧ zga P call inl rs R L ds u (h.set b .dead)
noncomputable def EndQ (P:Program) (call:zba) (inl:FuncId → Bool) (rs:List ResultVar) (R:CRes → zaa → Prop):Ex → LS → Prop:=fun ex s=>match ex with
 | .norm | .ret=>zga P call inl rs R s.L s.df .ret s.h
 | .pan v=>zga P call inl rs R s.L s.df (.pan v false) s.h
 | _=>False
theorem zct {fn:Func}{rs:List ResultVar}{R:CRes → zaa → Prop}{L:LT}{tm:Tm}(hrs:fn.results.toList=rs) (H:HasL n d L tm):∀ {ds:List DI}{u:Md}{h:zaa},zga P call inl rs R L ds u h →
  ∃ r h',zcu P call (zcf P inl call) KK fn tm ds u h=some (r,h') ∧ R r h'
 | [],.ret,h,hq=>by
  unfold zga at hq
  obtain ⟨vs,h1,h2⟩:=hq
  refine ⟨_,_,?_,h2⟩
  unfold zcu
  rw [zi5 (by rw [hrs];exact zb8 H h1)]
  rfl
 | [],.pan v false,h,hq=>by
  unfold zga at hq
  exact ⟨_,_,by unfold zcu;rfl,hq⟩
 | [],.pan _ true,_,hq=>by unfold zga at hq;exact hq.elim
 | .fn f args::ds,u,h,hq=>by
  unfold zga at hq
  obtain ⟨hf,u',h',h1,h2⟩:=hq
  unfold zcu
  simp only [hf,h1]
  exact zct hrs H h2
 | .col b::ds,u,h,hq=>by
  unfold zga at hq
  unfold zcu
  simp only [hq.1]
  exact zct hrs H hq.2
theorem zm5 {R:CRes → zaa → Prop}{f:FuncId}{args:List AV}{h:zaa}{rc:RC}{np nt d:Nat}{rs:List ResultVar}(F:FunIs P inl f np nt d rs rc) (hp:args.length=np)
  (W:Wp P call inl KK nt d rc ⟨zcr 0 args,h,[]⟩ (EndQ P call inl rs R)):∃ r h',zm6 P call (zcf P inl call) KK f args h=some (r,h') ∧ R r h':=by
 obtain ⟨fn,hfn,hrc,hnt,hrs⟩:=F.fn
 cases hb:fn.body with
 | none=>rw [hb] at hrc;cases hrc
 | some c =>
  rw [hb] at hrc
  have hrc':resC P inl c=rc.erase:=Option.some.inj hrc
  have hn:nt<2 ^ d:=by
   have:=@Nat.lt_log2_self (nt+1)
   have:=F.dep
   subst this
   omega
  have Hs:HasL nt d (zcr 0 args) (zcd fn args):=by
   subst hnt
   exact ziw F.dep (by rw [hp];exact F.par)
  obtain ⟨ex,st',h1,L',h3,h2⟩:=zb2 hn rc F.ok W c hrc' (zcd fn args) Hs
  unfold zm6
  simp only [hfn,hb]
  simp only at h1
  rw [h1]
  cases ex with
  | norm=>exact zct hrs h3 h2
  | ret=>exact zct hrs h3 h2
  | pan v=>exact zct hrs h3 h2
  | exit i=>exact h2.elim
end
section
variable {P:Program}{n:Nat}{f:FuncId}{rc:RC}{args:List AV}{h:zaa}{c:Cfg}{np nt d:Nat}{rs:List ResultVar}
theorem zbh {R:CRes → zaa → Prop}(F:FunIs P c.inl f np nt d rs rc) (hi:c.inl f=true) (hl:args.length=np)
  (W:Wp P (CN P c n) c.inl KK nt d rc ⟨zcr 0 args,h,[]⟩ (EndQ P (CN P c n) c.inl rs R)) (hm:c.mem f args h=none:=by rfl) (hk:c.cold f=false:=by rfl):∃ r h',CN P c (n+1) f args h=some (r,h') ∧ R r h':=by
 have hlt:f<P.funcs.size:=by
  obtain ⟨fn,hfn,_⟩:=F.fn
  rcases Nat.lt_or_ge f P.funcs.size with h | h
  ·exact h
  ·rw [Array.getElem?_eq_none h] at hfn;cases hfn
 obtain ⟨r,h',h1,h2⟩:=zm5 F hl W
 refine ⟨r,h',?_,h2⟩
 unfold CN zb4
 simp only [hi,if_true,hm,hk,Bool.false_eq_true,if_false]
 rw [if_neg (Nat.not_le.2 hlt)]
 exact h1
theorem zcp {R:AV → zaa → Prop}(F:FunIs P c.inl f np nt d rs rc) (hi:c.inl f=true) (hl:args.length=np)
  (W:Wp P (CN P c n) c.inl KK nt d rc ⟨zcr 0 args,h,[]⟩ (RetQ P rs R)) (hm:c.mem f args h=none:=by rfl) (hk:c.cold f=false:=by rfl):∃ v h',CN P c (n+1) f args h=some (.ret v,h') ∧ R v h':=by
 have hlt:f<P.funcs.size:=by
  obtain ⟨fn,hfn,_⟩:=F.fn
  rcases Nat.lt_or_ge f P.funcs.size with h | h
  ·exact h
  ·rw [Array.getElem?_eq_none h] at hfn;cases hfn
 obtain ⟨v,h',h1,h2⟩:=zqt F hl W
 refine ⟨v,h',?_,h2⟩
 unfold CN zb4
 simp only [hi,if_true,hm,hk,Bool.false_eq_true,if_false]
 rw [if_neg (Nat.not_le.2 hlt)]
 exact h1
def OutR (r':CRes):CRes → zaa → Prop
 | .ret v,h=>∃ w,frz h 64 v=some w ∧ r'=.ret w
 | .pan v,h=>∃ w,frz h 64 v=some w ∧ r'=.pan w
theorem zcw {r':CRes}(F:FunIs P c.inl f np nt d rs rc) (hi:c.inl f=false) (hs:c.sum f args=none) (hl:args.length=np) (hp:zan args=true)
  (W:Wp P (CN P c n) c.inl KK nt d rc ⟨zcr 0 args,[],[]⟩ (EndQ P (CN P c n) c.inl rs (OutR r'))):CN P c (n+1) f args h=some (r',h):=by
 have hlt:f<P.funcs.size:=by
  obtain ⟨fn,hfn,_⟩:=F.fn
  rcases Nat.lt_or_ge f P.funcs.size with h | h
  ·exact h
  ·rw [Array.getElem?_eq_none h] at hfn;cases hfn
 obtain ⟨r,h',h1,h2⟩:=zm5 F hl W
 unfold CN zb4
 simp only [hi,hs,Bool.false_eq_true,if_false,hp,hlt,decide_true,Bool.and_self,if_true]
 unfold zhm
 unfold CN at h1
 rw [h1]
 cases r with
 | ret v=>obtain ⟨w,e1,e2⟩:=h2;subst e2;simp only [CRes.map?,e1,Option.map_some]
 | pan v=>obtain ⟨w,e1,e2⟩:=h2;subst e2;simp only [CRes.map?,e1,Option.map_some]
theorem yieldC {b:Nat}(hi:c.inl (P.funcs.size+b)=true):CN P c (n+1) (P.funcs.size+b) args h=zkr P (CN P c n) (zcf P c.inl (CN P c n)) KK b args h:=by
 unfold CN
 conv=>lhs;unfold zb4
 simp only [hi,if_true]
 rw [if_pos (Nat.le_add_right _ _),Nat.add_sub_cancel_left]
end
theorem zjm {n:Nat}{t:TypeId}{x:AV}(hx:zex n x):zex (n+1) (.ifc t x):=fun h=>by
 unfold frz;simp only;rw [hx h];rfl
theorem cutS {P:Program}{call:zba}{inl:FuncId → Bool}{k n d:Nat}(hn:n<2 ^ d) {rc:RC}(ho:okR n rc=true) {Q:Ex → LS → Prop}{s:LS}(hw:Wp P call inl k n d rc s Q):OkR P call inl k n d rc s Q:=zb2 hn rc ho hw
theorem cvI {P:Program}{call:zba}{g:FuncId}{args:List AV}{h h':zaa}{K X:AV → zaa → Prop}{v:AV}(h0:fnOk P g=true) (h1:call g args h=some (.ret v,h')) (h2:K v h'):fnOk P g=true ∧ ∃ r h',call g args h=some (r,h') ∧ WpR K X h' r:=⟨h0,.ret v,h',h1,h2⟩
theorem ivI {P:Program}{call:zba}{t:TypeId}{name:String}{g:FuncId}{args:List AV}{h h':zaa}{K X:AV → zaa → Prop}{v:AV}(hm:zs7 P t name=some g) (h0:fnOk P g=true) (h1:call g args h=some (.ret v,h')) (h2:K v h'):∃ g,zs7 P t name=some g ∧ fnOk P g=true ∧ ∃ r h',call g args h=some (r,h') ∧ WpR K X h' r:=⟨g,hm,h0,.ret v,h',h1,h2⟩
theorem clP {call:zba}{g:FuncId}{args:List AV}{h h':zaa}{K X:AV → zaa → Prop}{v:AV}(h1:call g args h=some (.pan v,h')) (h2:X v h'):∃ r h',call g args h=some (r,h') ∧ WpR K X h' r:=⟨.pan v,h',h1,h2⟩
end Go.Abs
namespace Go.Abs
open Go.Sort
def zp8:List AV → Option (List Int)
 | []=>some []
 | .int .i64 k::r=>(zp8 r).map (k::·)
 | _=>none
theorem zrw:∀ {cs:List AV}{zs:List Int},zp8 cs=some zs → cs=zs.map (AV.int .i64)
 | [],zs,h=>by cases h;rfl
 | .int .i64 k::r,zs,h=>by
  unfold zp8 at h
  obtain ⟨ys,h1,h2⟩:=Option.map_eq_some_iff.1 h
  rw [← h2,zrw h1];rfl
theorem zrq:∀ zs:List Int,zp8 (zs.map (AV.int .i64))=some zs
 | []=>rfl
 | k::r=>by simp [zp8,zrq r]
section
variable {P:Program}{n₀:Nat}{w₀ w:World}{S₀ S:SM}{m:BM}{h:zaa}{b ver:Nat}{el':Option TypeId}{zs:List Int}
theorem z2i {S:SM}{m:BM}{x:AV}{vs:Array Value}(h:VRs S m [x] vs.toList):∃ v,vs=#[v] ∧ VR S m x v:=by
 unfold VRs VRs at h
 obtain ⟨v,r,h1,h2,rfl⟩:=h
 exact ⟨v,by apply Array.toList_inj.1;rw [h1],h2⟩
def zyb (P:Program) (f:FuncId):Prop:=(∀ (n c:Nat) (w:World),Calls P f #[.slice none n c] w fun e w'=>e=.returned (.slice none 0 0) ∧ w'=w) ∧ ∀ (a:Addr) (c:Nat) (w:World),
 Calls P f #[.slice (some a) 0 c] w fun e w'=>∃ p,e=.returned (.slice p 0 0) ∧ Go.RowKit.Below w.heap.size w w'
end
end Go.Abs
