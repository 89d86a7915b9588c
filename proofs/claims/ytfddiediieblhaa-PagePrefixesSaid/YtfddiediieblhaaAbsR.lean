/- Statements and calls, with all that the program fixes looked up: what has to hold for a run to end well. -/
import Derived.Test.YtfddiediieblhaaAbsQ
set_option linter.unusedVariables false
set_option linter.unusedSimpArgs false
namespace Go.Abs

/-- What a statement does, but for operations that look at nothing but values. -/
inductive RK where
  | op (o : RO)
  | dfr (c : Call)
  | pan (x : RX)
  deriving Inhabited

structure RI where
  dst : Option Tmp
  guard : Option (Nat × Bool)
  op : RK
  deriving Inhabited

inductive RC where
  | skip
  | ret
  | exit (id : Nat)
  | ops (l : List RI)
  | draw (l : List (RI × Nat))
  | seq (a b : RC)
  | cond (c : RX) (a b : RC)
  | block (id : Nat) (c : RC)
  | loop (c : RC)
  | cut (c : RC)
  | raw (c : Code)
  deriving Inhabited

def resK (P : Program) (o : Oper) : RK :=
  match o.op with
  | .defer c => .dfr c
  | .panic x => match resX x with
    | some a => .pan a
    | none => .op (.raw o)
  | _ => .op (resO P o)

def resI (P : Program) (ops : Array Oper) (o : Oper) : Option RI :=
  match o.guard with
  | none => some ⟨o.dst, none, resK P o⟩
  | some (j, want) => match (ops[j]?).bind (·.dst) with
    | none => none
    | some d => some ⟨o.dst, some (d, want), resK P o⟩

def resIs (P : Program) (ops : Array Oper) : List Oper → Option (List RI)
  | [] => some []
  | o :: r => match resI P ops o, resIs P ops r with
    | some a, some as => some (a :: as)
    | _, _ => none

def resD (P : Program) (ops : Array Oper) : List (Nat × Nat) → Option (List (RI × Nat))
  | [] => some []
  | (i, k) :: r => match ops[i]? with
    | none => none
    | some o => match resI P ops o, resD P ops r with
      | some a, some as => some ((a, k) :: as)
      | _, _ => none

def resC (P : Program) (inl : FuncId → Bool) : Code → RC
  | .skip => .skip
  | .ret => .ret
  | .exit i => .exit i
  | .region id ops d => if d then
      (match sched P inl ops ops.size (Array.replicate ops.size false) [] with
      | some order => if P.follows .mixedOrders && Region.noSelect ops then match resD P ops order with
          | some l => .draw l
          | none => .raw (.region id ops d)
          else .raw (.region id ops d)
      | none => .raw (.region id ops d))
    else match resIs P ops ops.toList with
      | some l => .ops l
      | none => .raw (.region id ops d)
  | .seq a b => .seq (resC P inl a) (resC P inl b)
  | .cond c a b => match resX c with
    | some x => .cond x (resC P inl a) (resC P inl b)
    | none => .raw (.cond c a b)
  | .block i c => .block i (resC P inl c)
  | .loop c => .loop (resC P inl c)
  | c => .raw c

/-- What is known of a frame: temporaries and what they hold. -/
abbrev LT := List (Nat × AV)

def lk : LT → Nat → Option AV
  | [], _ => none
  | (i, v) :: r, n => cond (Nat.beq n i) (some v) (lk r n)

def evO (L : LT) : RX → Option AV
  | .t n => lk L n
  | .c v => some v

def pt (L : LT) (dst : Option Tmp) (v : AV) : LT := match dst with
  | none => L
  | some d => (d, v) :: L

/-- What is known of a state. -/
structure LS where
  L : LT
  h : AHeap
  df : List DI

def LS.know (s : LS) (c : RX) (b : Bool) : LS := match c with
  | .t d => ⟨(d, .bool b) :: s.L, s.h, s.df⟩
  | .c _ => s

def Tr.shape : Nat → Tr → Bool
  | 0, .leaf => true
  | d + 1, .node _ l r => Tr.shape d l && Tr.shape d r
  | _, _ => false

/-- So many temporaries, and what they hold. -/
def HasL (n d : Nat) (L : LT) (tm : Tm) : Prop := (tm.n = n ∧ Tr.shape d tm.t = true) ∧ ∀ i v, lk L i = some v → tm.get i = v

/-- What is known is known there, too. -/
def subL : LT → LT → Prop
  | [], _ => True
  | [(i, v)], L => lk L i = some v
  | (i, v) :: r, L => lk L i = some v ∧ subL r L

def LS.sub (s t : LS) : Prop := subL s.L t.L ∧ t.h = s.h ∧ t.df = s.df

section
variable (P : Program) (call : CallF)

noncomputable def WpK (i : RI) (s : LS) (N : LS → Prop) (X : AV → LS → Prop) : Prop :=
  match i.op with
  | .op o => WpO P call (evO s.L) o s.h (fun v h => N ⟨pt s.L i.dst v, h, s.df⟩) (fun v h => X v ⟨s.L, h, s.df⟩)
  | .dfr c => c.operands.toList.all (known (evO s.L)) = true ∧ ∃ d, dfr (evR (evO s.L)) c P = some d ∧ N ⟨pt s.L i.dst (.tup []), s.h, d :: s.df⟩
  | .pan x => match evO s.L x with
    | some (.ifc t v) => X (.ifc t v) s
    | _ => False

noncomputable def WpI (i : RI) (s : LS) (N : LS → Prop) (X : AV → LS → Prop) : Prop :=
  match i.guard with
  | none => WpK P call i s N X
  | some (d, want) => match lk s.L d with
    | some (.bool b) => @Bool.rec (fun _ => Prop)
        (@Bool.rec (fun _ => Prop) (WpK P call i ⟨(d, .bool false) :: s.L, s.h, s.df⟩ N X) (N ⟨pt ((d, .bool false) :: s.L) i.dst (.tup []), s.h, s.df⟩) want)
        (@Bool.rec (fun _ => Prop) (N ⟨pt ((d, .bool true) :: s.L) i.dst (.tup []), s.h, s.df⟩) (WpK P call i ⟨(d, .bool true) :: s.L, s.h, s.df⟩ N X) want) b
    | some (.tup []) => N ⟨pt s.L i.dst (.tup []), s.h, s.df⟩
    | _ => False

noncomputable def WpOps : List RI → LS → (LS → Prop) → (AV → LS → Prop) → Prop
  | [], s, N, _ => N s
  | i :: r, s, N, X => WpI P call i s (fun s' => WpOps r s' N X) X

/-- An operation of a region of open order. -/
noncomputable def WpV (i : RI) (L : LT) (h : AHeap) (K : LT → AV → AHeap → Prop) : Prop :=
  match i.op with
  | .op o => match i.guard with
    | none => WpO P call (evO L) o h (K L) (fun _ _ => False)
    | some (d, want) => match lk L d with
      | some (.bool b) => @Bool.rec (fun _ => Prop)
          (@Bool.rec (fun _ => Prop) (WpO P call (evO ((d, .bool false) :: L)) o h (K ((d, .bool false) :: L)) (fun _ _ => False)) (K ((d, .bool false) :: L) (.tup []) h) want)
          (@Bool.rec (fun _ => Prop) (K ((d, .bool true) :: L) (.tup []) h) (WpO P call (evO ((d, .bool true) :: L)) o h (K ((d, .bool true) :: L)) (fun _ _ => False)) want) b
      | some (.tup []) => K L (.tup []) h
      | _ => False
  | _ => False

noncomputable def WpM (L : LT) (h : AHeap) : List (RI × AV) → Prop
  | [] => True
  | [(i, v)] => WpV P call i L h (fun _ v' _ => v' = v)
  | (i, v) :: r => WpV P call i L h (fun _ v' _ => v' = v) ∧ WpM L h r

noncomputable def WpD : List (RI × Nat) → List (RI × AV) → LT → AHeap → (LT → AHeap → Prop) → Prop
  | [], _, L, h, N => N L h
  | (i, k) :: r, M, L, h, N => WpV P call i L h fun L' v h' => match k with
    | 0 => WpD r M (pt L' i.dst v) h' N
    | 1 => WpD r ((i, v) :: M) (pt L' i.dst v) h' N
    | _ => match M with
      | [] => WpD r [] (pt L' i.dst v) h' N
      | p :: q => WpM P call (pt L' i.dst v) h' (p :: q) ∧ WpD r (p :: q) (pt L' i.dst v) h' N

variable (inl : FuncId → Bool) (k n d : Nat)

/-- A run of a statement ends well. -/
def OkC (c : Code) (s : LS) (Q : Ex → LS → Prop) : Prop := ∀ tm, HasL n d s.L tm → ∃ ex st', evalC P call (drawA P inl call) k c ⟨tm, s.h, s.df⟩ = some (ex, st') ∧ ∃ L', HasL n d L' st'.tm ∧ Q ex ⟨L', st'.h, st'.df⟩

def RC.erase : RC → RC
  | .seq a b => .seq a.erase b.erase
  | .cond c a b => .cond c a.erase b.erase
  | .block i c => .block i c.erase
  | .loop c => .loop c.erase
  | .cut c => c.erase
  | c => c

def OkR (rc : RC) (s : LS) (Q : Ex → LS → Prop) : Prop := ∀ c, resC P inl c = rc.erase → OkC P call inl k n d c s Q

noncomputable def Wp : RC → LS → (Ex → LS → Prop) → Prop
  | .skip, s, Q => Q .norm s
  | .ret, s, Q => Q .ret s
  | .exit i, s, Q => Q (.exit i) s
  | .ops l, s, Q => WpOps P call l s (Q .norm) (fun v s' => Q (.pan v) s')
  | .draw l, s, Q => WpD P call l [] s.L s.h (fun L h => Q .norm ⟨L, h, s.df⟩)
  | .seq a b, s, Q => Wp a s (fun ex s' => match ex with
    | .norm => Wp b s' Q
    | e => Q e s')
  | .cond c a b, s, Q => match evO s.L c with
    | some (.bool t) => @Bool.rec (fun _ => Prop) (Wp b (s.know c false) Q) (Wp a (s.know c true) Q) t
    | _ => False
  | .block id c, s, Q => Wp c s (fun ex s' => match ex with
    | .exit i => cond (Nat.beq i id) (Q .norm s') (Q (.exit i) s')
    | e => Q e s')
  | .loop c, s, Q => OkR P call inl k n d (.loop c) s Q
  | .cut c, s, Q => OkR P call inl k n d c s Q
  | .raw c, s, Q => OkC P call inl k n d c s Q
end

/-- All that is written is a temporary. -/
def okD (n : Nat) : Option Tmp → Bool
  | none => true
  | some d => Nat.blt d n
def okR (n : Nat) : RC → Bool
  | .ops l => l.all fun i => okD n i.dst
  | .draw l => l.all fun p => okD n p.1.dst
  | .seq a b => okR n a && okR n b
  | .cond _ a b => okR n a && okR n b
  | .block _ c => okR n c
  | .loop c => okR n c
  | .cut c => okR n c
  | _ => true

section
variable {P : Program} {call : CallF} {inl : FuncId → Bool} {k n d : Nat} {tm : Tm} {h : AHeap} {L : LT}

theorem Tr.shape_set : ∀ (d : Nat) (t : Tr) (i : Nat) (v : AV), Tr.shape d t = true → Tr.shape d (t.set i v) = true
  | 0, .leaf, _, _, h => h
  | 0, .node _ _ _, _, _, h => by simp [Tr.shape] at h
  | d + 1, .leaf, _, _, h => by simp [Tr.shape] at h
  | d + 1, .node x l r, 0, v, h => by rw [Tr.set_zero]; simpa [Tr.shape] using h
  | d + 1, .node x l r, i + 1, v, h => by
    simp [Tr.shape] at h
    rw [Tr.set_succ]
    cases Nat.beq (Nat.mod i 2) 0 <;> simp only [cond, Tr.shape, Bool.and_eq_true]
    · exact ⟨h.1, Tr.shape_set d r _ v h.2⟩
    · exact ⟨Tr.shape_set d l _ v h.1, h.2⟩

theorem Tr.get_set_in : ∀ (d : Nat) (t : Tr) (i : Nat) (v : AV), Tr.shape d t = true → i + 1 < 2 ^ d → (t.set i v).get i = v
  | 0, _, i, _, _, hi => by simp at hi
  | d + 1, .leaf, _, _, h, _ => by simp [Tr.shape] at h
  | d + 1, .node x l r, 0, v, _, _ => rfl
  | d + 1, .node x l r, i + 1, v, h, hi => by
    simp [Tr.shape] at h
    have hh : i / 2 + 1 < 2 ^ d := by
      have : 2 ^ (d + 1) = 2 * 2 ^ d := by rw [Nat.pow_succ]; omega
      omega
    rw [Tr.set_succ]
    cases hb : Nat.beq (Nat.mod i 2) 0 <;> simp only [cond] <;> rw [Tr.get_succ, hb] <;> simp only [cond]
    · exact Tr.get_set_in d r _ v h.2 hh
    · exact Tr.get_set_in d l _ v h.1 hh

theorem HasL.put (hn : n < 2 ^ d) (H : HasL n d L tm) {dst : Option Tmp} (hd : okD n dst = true) (v : AV) : HasL n d (pt L dst v) (putT tm dst v) := by
  cases dst with
  | none => exact H
  | some e =>
    have he : e < n := Nat.blt_eq ▸ hd
    obtain ⟨⟨h1, h2⟩, h3⟩ := H
    have hb : Nat.blt e tm.n = true := by rw [h1]; exact hd
    refine ⟨⟨?_, ?_⟩, fun i u hi => ?_⟩
    · show (tm.set e v).n = n; rw [Tm.set_n]; exact h1
    · show Tr.shape d (tm.set e v).t = true
      unfold Tm.set
      rw [hb]
      exact Tr.shape_set d _ e v h2
    · show (tm.set e v).get i = u
      change cond (Nat.beq i e) (some v) (lk L i) = some u at hi
      cases hq : Nat.beq i e with
      | true =>
        rw [hq] at hi
        cases hi
        have : i = e := Nat.eq_of_beq_eq_true hq
        subst this
        unfold Tm.set Tm.get
        rw [hb]
        exact Tr.get_set_in d _ _ _ h2 (Nat.lt_of_le_of_lt he hn)
      | false =>
        rw [hq] at hi
        have : i ≠ e := Nat.ne_of_beq_eq_false hq
        rw [Tm.get_set_ne _ _ this]
        exact h3 i u hi

theorem HasL.know (H : HasL n d L tm) {i : Nat} {v : AV} (hv : lk L i = some v) : HasL n d ((i, v) :: L) tm := by
  refine ⟨H.1, fun j u hj => ?_⟩
  change cond (Nat.beq j i) (some v) (lk L j) = some u at hj
  cases hq : Nat.beq j i with
  | true =>
    rw [hq] at hj
    cases hj
    have : j = i := Nat.eq_of_beq_eq_true hq
    subst this
    exact H.2 _ _ hv
  | false => rw [hq] at hj; exact H.2 _ _ hj

theorem HasL.agree (H : HasL n d L tm) : Agree (evO L) tm := fun x a hx => by
  cases x with
  | t i => exact H.2 _ _ hx
  | c v => cases hx; rfl

theorem subL_cons {i : Nat} {v : AV} {r L' : LT} (hs : subL ((i, v) :: r) L') : lk L' i = some v ∧ subL r L' := by
  cases r with
  | nil => exact ⟨hs, trivial⟩
  | cons => exact hs

theorem subL_lk : ∀ {L L' : LT}, subL L L' → ∀ i v, lk L i = some v → lk L' i = some v
  | [], _, _, i, v, h => by cases h
  | (j, u) :: r, L', hs, i, v, h => by
    obtain ⟨h1, h2⟩ := subL_cons hs
    change cond (Nat.beq i j) (some u) (lk r i) = some v at h
    cases hq : Nat.beq i j with
    | true =>
      rw [hq] at h
      cases h
      have : i = j := Nat.eq_of_beq_eq_true hq
      subst this
      exact h1
    | false => rw [hq] at h; exact subL_lk h2 i v h

theorem HasL.sub {L' : LT} (hs : subL L L') (H : HasL n d L' tm) : HasL n d L tm := ⟨H.1, fun i v hi => H.2 i v (subL_lk hs i v hi)⟩

/-- An operation, as the machine has it. -/
theorem WpK_sound (hn : n < 2 ^ d) {o : Oper} {g : Option (Nat × Bool)} {s : LS} {N : LS → Prop} {X : AV → LS → Prop} (H : HasL n d s.L tm) (hd : okD n o.dst = true) (hw : WpK P call ⟨o.dst, g, resK P o⟩ s N X) :
    ∃ ex st', stepA P call o ⟨tm, s.h, s.df⟩ = some (ex, st') ∧ ∃ L', HasL n d L' st'.tm ∧ (match ex with | .norm => N ⟨L', st'.h, st'.df⟩ | .pan v => X v ⟨L', st'.h, st'.df⟩ | _ => False) := by
  have gen : resK P o = .op (resO P o) → (∀ c, o.op ≠ .defer c) → (∀ x, o.op ≠ .panic x) → ∃ ex st', stepA P call o ⟨tm, s.h, s.df⟩ = some (ex, st') ∧ ∃ L', HasL n d L' st'.tm ∧ (match ex with | .norm => N ⟨L', st'.h, st'.df⟩ | .pan v => X v ⟨L', st'.h, st'.df⟩ | _ => False) := fun he h1 h2 => by
    unfold WpK at hw
    rw [he] at hw
    obtain ⟨r, h', g1, g2⟩ := WpO_sound H.agree hw
    unfold stepV at g1
    unfold stepA
    split
    · rename_i c hc; exact (h1 c hc).elim
    · rename_i x hx; exact (h2 x hx).elim
    · split at g1
      · rename_i v hv; cases g1; simp only [hv]; exact ⟨_, _, rfl, _, H.put hn hd v, g2⟩
      · rename_i v h'' hv; cases g1; simp only [hv]; exact ⟨_, _, rfl, _, H.put hn hd v, g2⟩
      · rename_i f args hv
        simp only [hv]
        rw [g1]
        cases r
        · exact ⟨_, _, rfl, _, H.put hn hd _, g2⟩
        · exact ⟨_, _, rfl, _, H, g2⟩
      · cases g1
  unfold resK at hw gen
  unfold WpK at hw
  cases hop : o.op
  case defer c =>
    rw [hop] at hw
    obtain ⟨hk, di, h1, h2⟩ := hw
    unfold stepA
    rw [hop]
    have hops : ∀ x ∈ c.operands, ev tm x = evR (evO s.L) x := by
      intro x hx
      have := List.all_eq_true.1 hk x (Array.mem_toList_iff.2 hx)
      unfold known at this
      unfold evR
      cases hx' : resX x with
      | none =>
        cases x with
        | tmp t => simp [resX] at hx'
        | const v => simp [resX] at hx'; exact hx'
        | global g => rfl
        | func f => simp [resX] at hx'
      | some a =>
        rw [hx'] at this
        simp only at this ⊢
        cases ha : evO s.L a with
        | none => rw [ha] at this; cases this
        | some v => exact H.agree.ev hx' ha
    have hdf : dfr (ev tm) c P = dfr (evR (evO s.L)) c P := by
      unfold dfr
      have hargs : mapM' (ev tm) c.args.toList = mapM' (evR (evO s.L)) c.args.toList := mapM'_congr fun x hx => hops x (by unfold Call.operands; simp; right; simpa using hx)
      rw [hargs]
      cases hc : c.callee with
      | value f =>
        have := hops f (by unfold Call.operands; simp [hc])
        cases mapM' (evR (evO s.L)) c.args.toList <;> simp only [this]
      | invoke r m => rfl
      | builtin b => rfl
    simp only [hdf, h1]
    exact ⟨_, _, rfl, _, H.put hn hd _, h2⟩
  case panic x =>
    rw [hop] at hw
    simp only at hw
    split at hw
    · rename_i e
      split at e
      · cases e
      · rename_i hx
        cases e
        obtain ⟨hk, r, h', g1, g2⟩ := hw
        unfold stepV at g1
        simp only [exOp, hop] at g1
        cases g1
    · rename_i c e; split at e <;> cases e
    · rename_i a e
      split at e
      · rename_i b hb
        cases e
        unfold stepA
        rw [hop]
        split at hw
        · rename_i t v hv; simp only [H.agree.ev hb hv]; exact ⟨_, _, rfl, _, H, hw⟩
        · exact hw.elim
      · cases e
  all_goals exact gen (by rw [hop]) (by rw [hop]; simp) (by rw [hop]; simp)

def guardV (tm : Tm) (d : Nat) (want : Bool) (r : Option Bool) : Prop := ∀ v, tm.get d = v → r = match v with
  | .bool b => some (b == want)
  | .tup [] => some false
  | _ => none

theorem resI_guard {ops : Array Oper} {o : Oper} {i : RI} (hi : resI P ops o = some i) : i.dst = o.dst ∧ i.op = resK P o ∧ ((i.guard = none ∧ guardOf ops o tm = some true) ∨
    ∃ d want, i.guard = some (d, want) ∧ guardV tm d want (guardOf ops o tm)) := by
  unfold resI at hi
  unfold guardOf
  split at hi
  · rename_i hg; cases hi; exact ⟨rfl, rfl, .inl ⟨rfl, by rw [hg]⟩⟩
  · rename_i j want hg
    split at hi
    · cases hi
    · rename_i d hd
      cases hi
      refine ⟨rfl, rfl, .inr ⟨d, want, rfl, fun v hv => ?_⟩⟩
      rw [hg]
      simp only [hd, hv]
      cases v <;> first | rfl | (rename_i l; cases l <;> rfl)

theorem WpOps_sound (hn : n < 2 ^ d) {ops : Array Oper} : ∀ {l : List Oper} {rl : List RI} {tm : Tm} {s : LS} {N : LS → Prop} {X : AV → LS → Prop}, resIs P ops l = some rl → (rl.all fun i => okD n i.dst) = true → HasL n d s.L tm → WpOps P call rl s N X →
    ∃ ex st', runOps P call ops l ⟨tm, s.h, s.df⟩ = some (ex, st') ∧ ∃ L', HasL n d L' st'.tm ∧ (match ex with | .norm => N ⟨L', st'.h, st'.df⟩ | .pan v => X v ⟨L', st'.h, st'.df⟩ | _ => False)
  | [], _, tm, s, N, X, hr, _, H, hw => by
    simp [resIs] at hr; subst hr
    exact ⟨.norm, _, rfl, _, H, hw⟩
  | o :: l, _, tm, s, N, X, hr, hall, H, hw => by
    unfold resIs at hr
    split at hr
    · rename_i a as ha has
      cases hr
      simp only [List.all_cons, Bool.and_eq_true] at hall
      unfold WpOps WpI at hw
      obtain ⟨e1, e2, e3⟩ := resI_guard (tm := tm) ha
      obtain ⟨adst, ag, aop⟩ := a
      simp only at e1 e2 e3 hall
      subst e1 e2
      have go : ∀ L, HasL n d L tm → guardOf ops o tm = some true → WpK P call ⟨o.dst, ag, resK P o⟩ ⟨L, s.h, s.df⟩ (fun s' => WpOps P call as s' N X) X → ∃ ex st', runOps P call ops (o :: l) ⟨tm, s.h, s.df⟩ = some (ex, st') ∧ ∃ L', HasL n d L' st'.tm ∧ (match ex with | .norm => N ⟨L', st'.h, st'.df⟩ | .pan v => X v ⟨L', st'.h, st'.df⟩ | _ => False) := fun L HL hg hw => by
        obtain ⟨ex, st', g1, L', g3, g2⟩ := WpK_sound hn HL hall.1 hw
        unfold runOps
        simp only [hg, g1]
        cases ex with
        | norm => exact WpOps_sound hn (s := ⟨L', st'.h, st'.df⟩) has hall.2 g3 g2
        | pan v => exact ⟨_, _, rfl, _, g3, g2⟩
        | exit i => exact g2.elim
        | ret => exact g2.elim
      have skip : ∀ L, HasL n d L tm → guardOf ops o tm = some false → WpOps P call as ⟨pt L o.dst (.tup []), s.h, s.df⟩ N X → ∃ ex st', runOps P call ops (o :: l) ⟨tm, s.h, s.df⟩ = some (ex, st') ∧ ∃ L', HasL n d L' st'.tm ∧ (match ex with | .norm => N ⟨L', st'.h, st'.df⟩ | .pan v => X v ⟨L', st'.h, st'.df⟩ | _ => False) := fun L HL hg hw => by
        unfold runOps
        simp only [hg]
        exact WpOps_sound hn (s := ⟨pt L o.dst (.tup []), s.h, s.df⟩) has hall.2 (HL.put hn hall.1 _) hw
      rcases e3 with ⟨e3, e4⟩ | ⟨i, want, e3, e4⟩
      · subst e3
        exact go s.L H e4 hw
      · subst e3
        simp only at hw
        split at hw
        · rename_i b hb
          have e5 := e4 _ (H.2 _ _ hb)
          cases b with
          | true =>
            simp only at hw
            cases want with
            | true => exact go _ (H.know hb) e5 hw
            | false => exact skip _ (H.know hb) e5 hw
          | false =>
            simp only at hw
            cases want with
            | true => exact skip _ (H.know hb) e5 hw
            | false => exact go _ (H.know hb) e5 hw
        · rename_i hb
          exact skip _ H (e4 _ (H.2 _ _ hb)) hw
        · exact hw.elim
    · cases hr

mutual
theorem beqV_refl : ∀ (x : AV), beqV x x = true
  | .undef => by simp [beqV]
  | .bool a => by simp [beqV]
  | .int k n => by simp [beqV]
  | .flt k n => by simp [beqV]
  | .str s => by simp [beqV]
  | .nilp => by simp [beqV]
  | .ptr b v o => by simp [beqV]
  | .pin cs o => by simp [beqV, beqVs_refl cs]
  | .lst sz xs c => by simp [beqV, beqVs_refl xs]
  | .sl sz b v o l => by simp [beqV]
  | .mapn => by simp [beqV]
  | .map b => by simp [beqV]
  | .fn f x z => by simp [beqV, beqVs_refl x, beqVs_refl z]
  | .nilf => by simp [beqV]
  | .ifc t x => by simp [beqV, beqV_refl x]
  | .nili => by simp [beqV]
  | .agg cs => by simp [beqV, beqVs_refl cs]
  | .tup cs => by simp [beqV, beqVs_refl cs]
theorem beqVs_refl : ∀ (xs : List AV), beqVs xs xs = true
  | [] => by simp [beqVs]
  | x :: xs => by simp [beqVs, beqV_refl x, beqVs_refl xs]
end

theorem WpV_sound {ops : Array Oper} {o : Oper} {i : RI} (H : HasL n d L tm) (hi : resI P ops o = some i) {K : LT → AV → AHeap → Prop} (hw : WpV P call i L h K) : ∃ v h' L', HasL n d L' tm ∧ valA P call ops o tm h = some (v, h') ∧ K L' v h' := by
  obtain ⟨e1, e2, e3⟩ := resI_guard (tm := tm) hi
  obtain ⟨adst, ag, aop⟩ := i
  simp only at e1 e2 e3
  subst e1 e2
  unfold WpV at hw
  simp only at hw
  split at hw
  · rename_i ro hro
    have hk : ro = resO P o := by
      unfold resK at hro
      split at hro
      · cases hro
      · rename_i x hx
        split at hro
        · cases hro
        · cases hro
          unfold resO resOp
          rw [hx]; rfl
      · cases hro; rfl
    subst hk
    have go : ∀ L, HasL n d L tm → guardOf ops o tm = some true → WpO P call (evO L) (resO P o) h (K L) (fun _ _ => False) → ∃ v h' L', HasL n d L' tm ∧ valA P call ops o tm h = some (v, h') ∧ K L' v h' := fun L HL hg hw => by
      obtain ⟨r, h', g1, g2⟩ := WpO_sound HL.agree hw
      unfold stepV at g1
      unfold valA
      rw [hg]
      simp only
      split at g1
      · rename_i v hv; cases g1; rw [hv]; exact ⟨_, _, _, HL, rfl, g2⟩
      · rename_i v h'' hv; cases g1; rw [hv]; exact ⟨_, _, _, HL, rfl, g2⟩
      · rename_i f args hv
        rw [hv]
        simp only [g1]
        cases r
        · exact ⟨_, _, _, HL, rfl, g2⟩
        · exact g2.elim
      · cases g1
    have skip : ∀ L, HasL n d L tm → guardOf ops o tm = some false → K L (.tup []) h → ∃ v h' L', HasL n d L' tm ∧ valA P call ops o tm h = some (v, h') ∧ K L' v h' := fun L HL hg hw => ⟨_, _, _, HL, by unfold valA; rw [hg], hw⟩
    rcases e3 with ⟨e3, e4⟩ | ⟨i, want, e3, e4⟩
    · subst e3
      exact go _ H e4 hw
    · subst e3
      simp only at hw
      split at hw
      · rename_i b hb
        have e5 := e4 _ (H.2 _ _ hb)
        cases b with
        | true =>
          simp only at hw
          cases want with
          | true => exact go _ (H.know hb) e5 hw
          | false => exact skip _ (H.know hb) e5 hw
        | false =>
          simp only at hw
          cases want with
          | true => exact skip _ (H.know hb) e5 hw
          | false => exact go _ (H.know hb) e5 hw
      · rename_i hb
        exact skip _ H (e4 _ (H.2 _ _ hb)) hw
      · exact hw.elim
  · exact hw.elim

/-- What was read early. -/
inductive MonR (P : Program) (ops : Array Oper) : Mon → List (RI × AV) → Prop
  | nil : MonR P ops [] []
  | cons {o : Oper} {i : RI} {v : AV} {M : Mon} {R : List (RI × AV)} (hi : resI P ops o = some i) (hr : MonR P ops M R) : MonR P ops ((o, v) :: M) ((i, v) :: R)

theorem WpM_sound (H : HasL n d L tm) {ops : Array Oper} : ∀ {M : Mon} {R : List (RI × AV)}, MonR P ops M R → WpM P call L h R → monOk P call ops M tm h = true
  | _, _, .nil, _ => rfl
  | _, _, .cons (o := o) (i := i) (v := v) (M := M) (R := R) hi hr, hw => by
    have h2 : WpV P call i L h (fun _ v' _ => v' = v) ∧ WpM P call L h R := by
      cases R with
      | nil => exact ⟨hw, trivial⟩
      | cons => exact hw
    obtain ⟨v', h', L', _, g1, g2⟩ := WpV_sound H hi h2.1
    have ih := WpM_sound H hr h2.2
    subst g2
    unfold monOk at ih ⊢
    simp only [List.all_cons, g1, beqV_refl, ih, Bool.and_self]

theorem WpD_sound (hn : n < 2 ^ d) {ops : Array Oper} : ∀ {l : List (Nat × Nat)} {rl : List (RI × Nat)} {M : Mon} {R : List (RI × AV)} {tm : Tm} {L : LT} {h : AHeap} {N : LT → AHeap → Prop}, resD P ops l = some rl → (rl.all fun p => okD n p.1.dst) = true → MonR P ops M R → HasL n d L tm → WpD P call rl R L h N →
    ∃ tm' h', runS P call ops l M tm h = some (tm', h') ∧ ∃ L', HasL n d L' tm' ∧ N L' h'
  | [], _, M, R, tm, L, h, N, hr, _, hm, H, hw => by
    simp [resD] at hr; subst hr
    exact ⟨tm, h, rfl, L, H, hw⟩
  | (j, k) :: l, _, M, R, tm, L, h, N, hr, hall, hm, H, hw => by
    unfold resD at hr
    split at hr
    · cases hr
    · rename_i o ho
      split at hr
      · rename_i a as ha has
        cases hr
        simp only [List.all_cons, Bool.and_eq_true] at hall
        unfold WpD at hw
        obtain ⟨v, h', L', H', g1, g2⟩ := WpV_sound H ha hw
        have hd : a.dst = o.dst := (resI_guard (tm := tm) ha).1
        have hp : HasL n d (pt L' a.dst v) (putT tm o.dst v) := by rw [hd]; exact H'.put hn (by rw [← hd]; exact hall.1) v
        unfold runS
        simp only [ho, g1]
        split
        · exact WpD_sound hn has hall.2 hm hp g2
        · exact WpD_sound hn has hall.2 (.cons ha hm) hp g2
        · rename_i hk0 hk1
          split at g2
          · exact (hk0 rfl).elim
          · exact (hk1 rfl).elim
          · cases hm with
            | nil =>
              simp only at g2
              rw [if_pos (by rfl)]
              exact WpD_sound hn has hall.2 .nil hp g2
            | cons hi hr =>
              simp only at g2
              rw [if_pos (WpM_sound hp (.cons hi hr) g2.1)]
              exact WpD_sound hn has hall.2 (.cons hi hr) hp g2.2
      · cases hr

theorem OkC.mono {c : Code} {s : LS} {Q Q' : Ex → LS → Prop} (hq : ∀ ex s, Q ex s → Q' ex s) (ho : OkC P call inl k n d c s Q) : OkC P call inl k n d c s Q' :=
  fun tm H => let ⟨ex, st', h1, L', h3, h2⟩ := ho tm H; ⟨ex, st', h1, L', h3, hq _ _ h2⟩

/-- Which statements come to a region. -/
theorem resC_region {id : Nat} {ops : Array Oper} {dr : Bool} : (∃ l, resC P inl (.region id ops dr) = .ops l) ∨ (∃ l, resC P inl (.region id ops dr) = .draw l) ∨ resC P inl (.region id ops dr) = .raw (.region id ops dr) := by
  unfold resC
  split
  · split
    · split
      · split
        · exact .inr (.inl ⟨_, rfl⟩)
        · exact .inr (.inr rfl)
      · exact .inr (.inr rfl)
    · exact .inr (.inr rfl)
  · split
    · exact .inl ⟨_, rfl⟩
    · exact .inr (.inr rfl)

theorem resC_cond {x : Operand} {a b : Code} : (∃ y, resX x = some y ∧ resC P inl (.cond x a b) = .cond y (resC P inl a) (resC P inl b)) ∨ resC P inl (.cond x a b) = .raw (.cond x a b) := by
  cases hx : resX x with
  | none =>
    right
    rw [resC]
    simp only [hx]
  | some y =>
    left
    refine ⟨y, rfl, ?_⟩
    rw [resC]
    simp only [hx]

theorem inv_seq {c : Code} {ra rb : RC} (h : resC P inl c = .seq ra rb) : ∃ a b, c = .seq a b ∧ resC P inl a = ra ∧ resC P inl b = rb := by
  cases c with
  | seq a b => unfold resC at h; cases h; exact ⟨a, b, rfl, rfl, rfl⟩
  | region id ops dr => rcases resC_region (P := P) (inl := inl) (id := id) (ops := ops) (dr := dr) with ⟨l, e⟩ | ⟨l, e⟩ | e <;> rw [e] at h <;> cases h
  | cond x a b => rcases resC_cond (P := P) (inl := inl) (x := x) (a := a) (b := b) with ⟨y, _, e⟩ | e <;> rw [e] at h <;> cases h
  | _ => unfold resC at h; cases h
theorem inv_loop {c : Code} {ra : RC} (h : resC P inl c = .loop ra) : ∃ a, c = .loop a ∧ resC P inl a = ra := by
  cases c with
  | loop a => unfold resC at h; cases h; exact ⟨a, rfl, rfl⟩
  | region id ops dr => rcases resC_region (P := P) (inl := inl) (id := id) (ops := ops) (dr := dr) with ⟨l, e⟩ | ⟨l, e⟩ | e <;> rw [e] at h <;> cases h
  | cond x a b => rcases resC_cond (P := P) (inl := inl) (x := x) (a := a) (b := b) with ⟨y, _, e⟩ | e <;> rw [e] at h <;> cases h
  | _ => unfold resC at h; cases h
theorem inv_block {c : Code} {i : Nat} {ra : RC} (h : resC P inl c = .block i ra) : ∃ a, c = .block i a ∧ resC P inl a = ra := by
  cases c with
  | block j a => unfold resC at h; cases h; exact ⟨a, rfl, rfl⟩
  | region id ops dr => rcases resC_region (P := P) (inl := inl) (id := id) (ops := ops) (dr := dr) with ⟨l, e⟩ | ⟨l, e⟩ | e <;> rw [e] at h <;> cases h
  | cond x a b => rcases resC_cond (P := P) (inl := inl) (x := x) (a := a) (b := b) with ⟨y, _, e⟩ | e <;> rw [e] at h <;> cases h
  | _ => unfold resC at h; cases h
theorem inv_cond {c : Code} {x : RX} {ra rb : RC} (h : resC P inl c = .cond x ra rb) : ∃ y a b, c = .cond y a b ∧ resX y = some x ∧ resC P inl a = ra ∧ resC P inl b = rb := by
  cases c with
  | cond z a b =>
    rcases resC_cond (P := P) (inl := inl) (x := z) (a := a) (b := b) with ⟨y, hy, e⟩ | e
    · rw [e] at h; cases h; exact ⟨z, a, b, rfl, hy, rfl, rfl⟩
    · rw [e] at h; cases h
  | region id ops dr => rcases resC_region (P := P) (inl := inl) (id := id) (ops := ops) (dr := dr) with ⟨l, e⟩ | ⟨l, e⟩ | e <;> rw [e] at h <;> cases h
  | _ => unfold resC at h; cases h
theorem inv_simple {c : Code} {r : RC} (h : resC P inl c = r) : (r = .skip → c = .skip) ∧ (r = .ret → c = .ret) ∧ (∀ i, r = .exit i → c = .exit i) ∧ (∀ c', r = .raw c' → c = c') ∧ (∀ c', r ≠ .cut c') ∧ (∀ l, r = .ops l → ∃ id ops dr, c = .region id ops dr) ∧ (∀ l, r = .draw l → ∃ id ops dr, c = .region id ops dr) := by
  subst h
  cases c with
  | region id ops dr =>
    refine ⟨?_, ?_, ?_, ?_, ?_, fun _ _ => ⟨_, _, _, rfl⟩, fun _ _ => ⟨_, _, _, rfl⟩⟩ <;> rcases resC_region (P := P) (inl := inl) (id := id) (ops := ops) (dr := dr) with ⟨l, e⟩ | ⟨l, e⟩ | e <;> rw [e] <;> intros <;> first | (rename_i h; cases h; done) | (rename_i h; cases h; rfl) | (intro h; cases h)
  | cond x a b =>
    refine ⟨?_, ?_, ?_, ?_, ?_, ?_, ?_⟩ <;> rcases resC_cond (P := P) (inl := inl) (x := x) (a := a) (b := b) with ⟨y, _, e⟩ | e <;> rw [e] <;> intros <;> first | (rename_i h; cases h; done) | (rename_i h; cases h; rfl) | (intro h; cases h)
  | _ =>
    refine ⟨?_, ?_, ?_, ?_, ?_, ?_, ?_⟩ <;> unfold resC <;> intros <;> first | (rename_i h; cases h; done) | (rename_i h; cases h; rfl) | (intro h; cases h) | rfl

theorem Wp_sound (hn : n < 2 ^ d) : ∀ (rc : RC) {s : LS} {Q : Ex → LS → Prop}, okR n rc = true → Wp P call inl k n d rc s Q → OkR P call inl k n d rc s Q
  | .skip, s, Q, _, hw => fun c hc tm H => by
    have := (inv_simple hc).1 rfl; subst this
    exact ⟨_, _, rfl, _, H, hw⟩
  | .ret, s, Q, _, hw => fun c hc tm H => by
    have := (inv_simple hc).2.1 rfl; subst this
    exact ⟨_, _, rfl, _, H, hw⟩
  | .exit i, s, Q, _, hw => fun c hc tm H => by
    have := (inv_simple hc).2.2.1 i rfl; subst this
    exact ⟨_, _, rfl, _, H, hw⟩
  | .raw c', s, Q, _, hw => fun c hc tm H => by
    have := (inv_simple hc).2.2.2.1 c' rfl; subst this
    exact hw tm H
  | .cut c', s, Q, _, hw => hw
  | .loop c', s, Q, _, hw => hw
  | .ops l, s, Q, ho, hw => fun c hc tm H => by
    obtain ⟨id, ops, dr, rfl⟩ := (inv_simple hc).2.2.2.2.2.1 l rfl
    change _ = RC.ops l at hc
    unfold resC at hc
    split at hc
    · split at hc
      · split at hc
        · split at hc <;> cases hc
        · cases hc
      · cases hc
    · rename_i hdr
      split at hc
      · rename_i l' hl
        cases hc
        obtain ⟨ex, st', g1, L', g3, g2⟩ := WpOps_sound hn hl ho H hw
        refine ⟨ex, st', ?_, L', g3, ?_⟩
        · unfold evalC; rw [if_neg hdr]; exact g1
        · cases ex
          · exact g2
          · exact g2.elim
          · exact g2.elim
          · exact g2
      · cases hc
  | .draw l, s, Q, ho, hw => fun c hc tm H => by
    obtain ⟨id, ops, dr, rfl⟩ := (inv_simple hc).2.2.2.2.2.2 l rfl
    change _ = RC.draw l at hc
    unfold resC at hc
    split at hc
    · rename_i hdr
      split at hc
      · rename_i order hord
        split at hc
        · rename_i hf
          split at hc
          · rename_i l' hl
            cases hc
            obtain ⟨tm', h', g1, L', g3, g2⟩ := WpD_sound hn hl ho .nil H hw
            refine ⟨.norm, ⟨tm', h', s.df⟩, ?_, L', g3, g2⟩
            unfold evalC
            rw [if_pos hdr]
            unfold drawA
            simp only [hord, g1]
            rw [if_pos hf]
          · cases hc
        · cases hc
      · cases hc
    · split at hc <;> cases hc
  | .seq a b, s, Q, ho, hw => fun c hc tm H => by
    unfold okR at ho
    simp only [Bool.and_eq_true] at ho
    obtain ⟨ca, cb, rfl, ha, hb⟩ := inv_seq hc
    obtain ⟨ex, st', h1, L', h3, h2⟩ := Wp_sound hn a ho.1 (show Wp P call inl k n d a s _ from hw) ca ha tm H
    cases ex with
    | norm =>
      obtain ⟨ex', st'', h4, L'', h6, h5⟩ := Wp_sound hn b ho.2 (show Wp P call inl k n d b ⟨L', st'.h, st'.df⟩ Q from h2) cb hb st'.tm h3
      exact ⟨ex', st'', by unfold evalC; simp only [h1]; exact h4, L'', h6, h5⟩
    | exit i => exact ⟨_, _, by unfold evalC; simp only [h1], L', h3, h2⟩
    | ret => exact ⟨_, _, by unfold evalC; simp only [h1], L', h3, h2⟩
    | pan v => exact ⟨_, _, by unfold evalC; simp only [h1], L', h3, h2⟩
  | .cond x a b, s, Q, ho, hw => fun c hc tm H => by
    unfold okR at ho
    simp only [Bool.and_eq_true] at ho
    obtain ⟨y, ca, cb, rfl, hy, ha, hb⟩ := inv_cond hc
    unfold Wp at hw
    split at hw
    · rename_i t ht
      have hcv : ev tm y = some (.bool t) := H.agree.ev hy ht
      have Hk : HasL n d (s.know x t).L tm := by
        cases x with
        | t i => exact H.know ht
        | c v => exact H
      have eh : (s.know x t).h = s.h ∧ (s.know x t).df = s.df := by cases x <;> exact ⟨rfl, rfl⟩
      cases t with
      | true =>
        obtain ⟨ex, st', h1, L', h3, h2⟩ := Wp_sound hn a ho.1 (show Wp P call inl k n d a (s.know x true) Q from hw) ca ha tm Hk
        rw [eh.1, eh.2] at h1
        exact ⟨ex, st', by unfold evalC; simp only [hcv, if_true]; exact h1, L', h3, h2⟩
      | false =>
        obtain ⟨ex, st', h1, L', h3, h2⟩ := Wp_sound hn b ho.2 (show Wp P call inl k n d b (s.know x false) Q from hw) cb hb tm Hk
        rw [eh.1, eh.2] at h1
        exact ⟨ex, st', by unfold evalC; simp only [hcv]; exact h1, L', h3, h2⟩
    · exact hw.elim
  | .block id b, s, Q, ho, hw => fun c hc tm H => by
    obtain ⟨cb, rfl, hb⟩ := inv_block hc
    obtain ⟨ex, st', h1, L', h3, h2⟩ := Wp_sound hn b ho (show Wp P call inl k n d b s _ from hw) cb hb tm H
    cases ex with
    | norm => exact ⟨_, _, by unfold evalC; simp only [h1], L', h3, h2⟩
    | exit i =>
      simp only at h2
      by_cases hi : i = id
      · subst hi
        rw [show Nat.beq i i = true from Nat.beq_refl i] at h2
        exact ⟨_, _, by unfold evalC; simp only [h1, if_true], L', h3, h2⟩
      · have : Nat.beq i id = false := by
          cases hq : Nat.beq i id
          · rfl
          · exact (hi (Nat.eq_of_beq_eq_true hq)).elim
        rw [this] at h2
        exact ⟨_, _, by unfold evalC; simp only [h1]; rw [if_neg hi], L', h3, h2⟩
    | ret => exact ⟨_, _, by unfold evalC; simp only [h1], L', h3, h2⟩
    | pan v => exact ⟨_, _, by unfold evalC; simp only [h1], L', h3, h2⟩

/-- Loops: what is known at the head of each round. -/
theorem loopI (hn : n < 2 ^ d) {rc : RC} (ho : okR n rc = true) {α : Type} (S : α → LS) (I : α → Prop) (μ : α → Nat) {Q : Ex → LS → Prop} {s : LS} (x : α) (h0 : LS.sub (S x) s) (hx : I x) (hk : μ x < k)
    (step : ∀ x, I x → Wp P call inl k n d rc (S x) (fun ex s' => match ex with
      | .norm => ∃ y, I y ∧ μ y < μ x ∧ LS.sub (S y) s'
      | e => Q e s')) : OkR P call inl k n d (.loop rc) s Q := by
  intro c0 hc0
  obtain ⟨c, rfl, hc⟩ := inv_loop hc0
  have main : ∀ (m : Nat) (x : α) (s : LS) (tm : Tm), LS.sub (S x) s → I x → μ x < m → HasL n d s.L tm → ∃ ex st', loopN (evalC P call (drawA P inl call) k c) m ⟨tm, s.h, s.df⟩ = some (ex, st') ∧ ∃ L', HasL n d L' st'.tm ∧ Q ex ⟨L', st'.h, st'.df⟩ := by
    intro m
    induction m with
    | zero => intro x _ _ _ _ h; omega
    | succ m ih =>
      intro x s tm hs hx hm H
      obtain ⟨e1, e2, e3⟩ := hs
      obtain ⟨ex, st', h1, L', h3, h2⟩ := Wp_sound hn rc ho (step x hx) c hc tm (HasL.sub e1 H)
      rw [← e2, ← e3] at h1
      unfold loopN
      simp only [h1]
      cases ex with
      | norm =>
        obtain ⟨y, hy, hlt, hsub⟩ := h2
        exact ih y ⟨L', st'.h, st'.df⟩ st'.tm hsub hy (by omega) h3
      | exit i => exact ⟨_, _, rfl, L', h3, h2⟩
      | ret => exact ⟨_, _, rfl, L', h3, h2⟩
      | pan v => exact ⟨_, _, rfl, L', h3, h2⟩
  intro tm H
  obtain ⟨ex, st', h1, h2⟩ := main k x s tm h0 hx hk H
  exact ⟨ex, st', by unfold evalC; exact h1, h2⟩

/-- Where paths meet, what is needed is known. -/
theorem cutI (hn : n < 2 ^ d) {rc : RC} (ho : okR n rc = true) {Q : Ex → LS → Prop} {s t : LS} (hs : LS.sub t s) (hw : Wp P call inl k n d rc t Q) : OkR P call inl k n d rc s Q := by
  intro c hc tm H
  obtain ⟨e1, e2, e3⟩ := hs
  have := Wp_sound hn rc ho hw c hc tm (HasL.sub e1 H)
  rw [← e2, ← e3] at this
  exact this
end
end Go.Abs
