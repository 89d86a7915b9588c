/- Functions, with all that the program fixes looked up. -/
import Derived.Test.YtfddiediieblhaaAbsR
import Derived.IntWalk
set_option linter.unusedVariables false
set_option linter.unusedSimpArgs false
namespace Go.Abs

abbrev Str := List UInt8
@[reducible] def u8 (b : UInt8) : AV := .int .u8 b.toNat
@[reducible] def i64 (n : Int) : AV := .int .i64 n
theorem br {b : Bool} {T F : Prop} (h1 : b = true → T) (h2 : b = false → F) : @Bool.rec (fun _ => Prop) F T b := by
  cases b
  · exact h2 rfl
  · exact h1 rfl

theorem brd {p : Prop} {i : Decidable p} {T F : Prop} (h1 : p → T) (h2 : ¬p → F) : @Bool.rec (fun _ => Prop) F T (@decide p i) := br (fun e => h1 (of_decide_eq_true e)) (fun e => h2 (of_decide_eq_false e))
theorem bre {α : Type} [i : BEq α] [LawfulBEq α] {a b : α} {T F : Prop} (h1 : a = b → T) (h2 : a ≠ b → F) : @Bool.rec (fun _ => Prop) F T (@BEq.beq α i a b) := br (fun e => h1 (eq_of_beq e)) (fun e => h2 fun q => by subst q; simp at e)
theorem brq {α : Type} [i : BEq α] [LawfulBEq α] {a b : α} {T F : Prop} (h1 : a ≠ b → T) (h2 : a = b → F) : @Bool.rec (fun _ => Prop) F T (@bne α i a b) := br (fun e => h1 (by intro q; subst q; simp at e)) (fun e => h2 (by simpa using e))
theorem brn {b : Bool} {T F : Prop} (h1 : b = false → T) (h2 : b = true → F) : @Bool.rec (fun _ => Prop) F T (!b) := br (fun e => h1 (by simpa using e)) (fun e => h2 (by simpa using e))
theorem ldI {h : AHeap} {b ver : Nat} {q : Option TypeId → List AV → Nat → Prop} {el : Option TypeId} {cs : List AV} {frz : Nat} (h1 : h[b]? = some (.cells ver el cs frz)) (h2 : q el cs frz) : ∃ el cs frz, h[b]? = some (.cells ver el cs frz) ∧ q el cs frz := ⟨el, cs, frz, h1, h2⟩
theorem stI {h : AHeap} {b ver o sz : Nat} {v : AV} {q : Option TypeId → List AV → Nat → List AV → Prop} {el : Option TypeId} {cs xs : List AV} {frz : Nat} (h1 : h[b]? = some (.cells ver el cs frz)) (h2 : v.cells? = some xs) (h3 : xs.length = sz) (h4 : Nat.ble (o + xs.length) cs.length = true) (h5 : Nat.ble frz o = true)
    (h6 : q el cs frz xs) : ∃ el cs frz xs, h[b]? = some (.cells ver el cs frz) ∧ v.cells? = some xs ∧ xs.length = sz ∧ o + xs.length ≤ cs.length ∧ frz ≤ o ∧ q el cs frz xs :=
  ⟨el, cs, frz, xs, h1, h2, h3, Nat.le_of_ble_eq_true h4, Nat.le_of_ble_eq_true h5, h6⟩
theorem get_last (h : AHeap) (x : AB) : (h ++ [x])[h.length]? = some x := by simp
theorem get_set_last (h : AHeap) (x y : AB) : ((h ++ [x]).set h.length y)[h.length]? = some y := by simp
theorem ixL {α : Type} {f : α → AV} {g : α → List AV} (hc : ∀ a, (f a).cells? = some (g a)) {l : List α} {j : Nat} (hj : j < l.length) {sz sz' : Nat} (hs : l ≠ [] → sz' = sz) {q : List AV → Prop} (hq : q (g l[j])) :
    0 ≤ (j : Int) ∧ sz' = sz ∧ ∃ y, (l.map f)[(j : Int).toNat]? = some y ∧ ∃ cs, y.cells? = some cs ∧ q cs :=
  ⟨by omega, hs (fun e => by subst e; simp at hj), f l[j], by simp [hj], g l[j], hc _, hq⟩
theorem lenI {α : Type} (f : α → AV) (l : List α) : some (AV.int .i64 ((l.map f).length : Nat)) = some (.int .i64 (l.length : Nat)) := by rw [List.length_map]
theorem rawI {P : Program} {call : CallF} {ρ : RX → Option AV} {o : Oper} {h h' : AHeap} {K X : AV → AHeap → Prop} {v : AV} (h0 : o.op.operands.toList.all (known ρ) = true) (h1 : stepV P call o (evR ρ) h = some (.ret v, h')) (h2 : K v h') :
    o.op.operands.toList.all (known ρ) = true ∧ ∃ r h', stepV P call o (evR ρ) h = some (r, h') ∧ WpR K X h' r := ⟨h0, .ret v, h', h1, h2⟩
theorem strI {i : Int} {s : List UInt8} {b : UInt8} {q : UInt8 → Prop} (h0 : 0 ≤ i) (h1 : s[i.toNat]? = some b) (h2 : q b) : 0 ≤ i ∧ ∃ b, s[i.toNat]? = some b ∧ q b := ⟨h0, b, h1, h2⟩
theorem clI {call : CallF} {g : FuncId} {args : List AV} {h h' : AHeap} {K X : AV → AHeap → Prop} {v : AV} (h1 : call g args h = some (.ret v, h')) (h2 : K v h') : ∃ r h', call g args h = some (r, h') ∧ WpR K X h' r := ⟨.ret v, h', h1, h2⟩
theorem remI {a b z : Int} {q : Int → Prop} (h0 : b ≠ 0) (h1 : a.tmod b = z) (h2 : q z) : b ≠ 0 ∧ ∃ z, a.tmod b = z ∧ q z := ⟨h0, z, h1, h2⟩
theorem zI {k : IntKind} {x z : Int} {q : Int → Prop} (h1 : k.wrap x = z) (h2 : q z) : ∃ z, k.wrap x = z ∧ q z := ⟨z, h1, h2⟩
theorem eqI {P : Program} {t : TypeId} {a b : AV} {r : Bool} {q : Bool → Prop} (h1 : eqA P 20 t a b = some r) (h2 : q r) : ∃ r, eqA P 20 t a b = some r ∧ q r := ⟨r, h1, h2⟩

theorem slI {sz : Nat} {x v : AV} {l u m : Option Int} {q : AV → Prop} (h1 : sliceA sz x l u m = some v) (h2 : q v) : ∃ v, sliceA sz x l u m = some v ∧ q v := ⟨v, h1, h2⟩
theorem sl_hi {α : Type} (f : α → AV) (l : List α) {sz sz' : Nat} (hz : l ≠ [] → sz' = sz) (c : Bool) (k : Nat) (hk : k ≤ l.length) :
    sliceA sz (.lst sz' (l.map f) c) none (some (k : Int)) none = some (.lst sz ((l.take k).map f) (sz != 0 && (c && ((k : Int) == (l.length : Nat))))) := by
  unfold sliceA
  simp only [Option.getD_none, Option.getD_some, List.length_map]
  rw [if_pos ⟨by omega, by omega, by omega, by by_cases e : l = []; exact .inr (by simp [e]); exact .inl (hz e)⟩]
  simp [List.map_take]
theorem sl_lo {α : Type} (f : α → AV) (l : List α) {sz sz' : Nat} (hz : l ≠ [] → sz' = sz) (c : Bool) (k : Nat) (hk : k ≤ l.length) :
    sliceA sz (.lst sz' (l.map f) c) (some (k : Int)) none none = some (.lst sz ((l.drop k).map f) (sz != 0 && (c && ((l.length : Int) == (l.length : Nat))))) := by
  unfold sliceA
  simp only [Option.getD_none, Option.getD_some, List.length_map]
  rw [if_pos ⟨by omega, by omega, by omega, by by_cases e : l = []; exact .inr (by simp [e]); exact .inl (hz e)⟩]
  have : (l.map f).take (Int.toNat l.length) = l.map f := by rw [Int.toNat_natCast]; exact List.take_of_length_le (by simp)
  rw [this]
  simp [List.map_drop]
theorem nxI {α : Type} {S : α → LS} {I : α → Prop} {μ : α → Nat} {k : Nat} {s : LS} (y : α) (h1 : I y) (h2 : μ y < k) (h3 : LS.sub (S y) s) : ∃ y, I y ∧ μ y < k ∧ LS.sub (S y) s := ⟨y, h1, h2, h3⟩

/-- The loops of a text, in order. -/
def RC.loops : RC → List RC
  | .seq a b => a.loops ++ b.loops
  | .cond _ a b => a.loops ++ b.loops
  | .block _ c => c.loops
  | .loop c => c :: c.loops
  | .cut c => c.loops
  | _ => []
def RC.lp (c : RC) (i : Nat) : RC := match c.loops[i]? with
  | some c => c
  | none => .skip

/-- The first text behind a cut. -/
def cutOf : RC → RC
  | .cut c => c
  | .seq a b => match cutOf a with
    | .skip => cutOf b
    | c => c
  | .cond _ a b => match cutOf a with
    | .skip => cutOf b
    | c => c
  | .block _ c => cutOf c
  | .loop c => cutOf c
  | _ => .skip

/-- How many rounds a loop may take. -/
abbrev KK : Nat := 18446744073709551616

/-- Calls, with the loops' bound. -/
noncomputable def CN (P : Program) (c : Cfg) (n : Nat) : CallF := callN P c (drawA P c.inl) KK n
theorem wpartI {K : AV → Prop} {o : Option AV} {v : AV} (h1 : o = some v) (h2 : K v) : WPart K o := by subst h1; exact h2

/-- The results, looked up. -/
def resAL (P : Program) (L : LT) (h : AHeap) : List ResultVar → Option (List AV)
  | [] => some []
  | .tmp t :: r => match lk L t with
    | some v => match resAL P L h r with
      | some vs => some (v :: vs)
      | none => none
    | none => none
  | .cell a t :: r => match lk L a with
    | some p => match loadA P h t p with
      | some v => match resAL P L h r with
        | some vs => some (v :: vs)
        | none => none
      | none => none
    | none => none

def tupA : List AV → AV
  | [v] => v
  | vs => .tup vs

def RetQ (P : Program) (rs : List ResultVar) (R : AV → AHeap → Prop) : Ex → LS → Prop := fun ex s => match ex with
  | .norm | .ret => s.df = [] ∧ ∃ vs, resAL P s.L s.h rs = some vs ∧ R (tupA vs) s.h
  | _ => False

theorem retK {P : Program} {t : Tmp} {L : LT} {h : AHeap} {x v : AV} (hk : lk L t = some x) (h2 : frz h 64 x = some v) : ([] : List DI) = [] ∧ ∃ vs, resAL P L h [.tmp t] = some vs ∧ frz h 64 (tupA vs) = some v := ⟨rfl, [x], by simp [resAL, hk], h2⟩
theorem retK2 {P : Program} {t u : Tmp} {L : LT} {h : AHeap} {x y v : AV} (hk : lk L t = some x) (hk2 : lk L u = some y) (h2 : frz h 64 (.tup [x, y]) = some v) : ([] : List DI) = [] ∧ ∃ vs, resAL P L h [.tmp t, .tmp u] = some vs ∧ frz h 64 (tupA vs) = some v := ⟨rfl, [x, y], by simp [resAL, hk, hk2], h2⟩
theorem frz_bool {h : AHeap} {b c : Bool} (e : b = c) : frz h 64 (.bool b) = some (.bool c) := by subst e; rfl
theorem frz_int {h : AHeap} {k : IntKind} {b c : Int} (e : b = c) : frz h 64 (.int k b) = some (.int k c) := by subst e; rfl
theorem frz_str {h : AHeap} {b c : List UInt8} (e : b = c) : frz h 64 (.str b) = some (.str c) := by subst e; rfl
theorem frz_ib {h : AHeap} {k : IntKind} {a a' : Int} {b b' : Bool} (e1 : a = a') (e2 : b = b') : frz h 64 (.tup [.int k a, .bool b]) = some (.tup [.int k a', .bool b']) := by subst e1 e2; rfl
theorem frz_ii {h : AHeap} {k k' : IntKind} {a a' b b' : Int} (e1 : a = a') (e2 : b = b') : frz h 64 (.tup [.int k a, .int k' b]) = some (.tup [.int k a', .int k' b']) := by subst e1 e2; rfl
theorem frz_si {h : AHeap} {k' : IntKind} {a a' : List UInt8} {b b' : Int} (e1 : a = a') (e2 : b = b') : frz h 64 (.tup [.str a, .int k' b]) = some (.tup [.str a', .int k' b']) := by subst e1 e2; rfl
theorem allM_id {f : AV → Option AV} : ∀ {xs : List AV}, (∀ x ∈ xs, f x = some x) → allM f xs = some xs
  | [], _ => rfl
  | x :: xs, h => by
    unfold allM
    rw [h x (List.mem_cons_self ..), allM_id fun y hy => h y (List.mem_cons_of_mem _ hy)]
/-- Values that are kept as they are. -/
def FrzOk (n : Nat) (x : AV) : Prop := ∀ h, frz h n x = some x
theorem frzOk_agg {n : Nat} {xs : List AV} (hx : ∀ x ∈ xs, FrzOk n x) : FrzOk (n + 1) (.agg xs) := fun h => by
  unfold frz; simp only; rw [allM_id fun x hx' => hx x hx' h]; rfl
theorem frzOk_tup {n : Nat} {xs : List AV} (hx : ∀ x ∈ xs, FrzOk n x) : FrzOk (n + 1) (.tup xs) := fun h => by
  unfold frz; simp only; rw [allM_id fun x hx' => hx x hx' h]; rfl
theorem frzOk_lst {n sz : Nat} {c : Bool} {xs : List AV} (hx : ∀ x ∈ xs, FrzOk n x) : FrzOk (n + 1) (.lst sz xs c) := fun h => by
  unfold frz; simp only; rw [allM_id fun x hx' => hx x hx' h]; rfl
theorem frzOk_int {n : Nat} {k : IntKind} {i : Int} : FrzOk (n + 1) (.int k i) := fun h => rfl
theorem frzOk_str {n : Nat} {s : List UInt8} : FrzOk (n + 1) (.str s) := fun h => rfl
theorem frzOk_bool {n : Nat} {b : Bool} : FrzOk (n + 1) (.bool b) := fun h => rfl
theorem retP {P : Program} {rs : List ResultVar} {L : LT} {h : AHeap} {vs : List AV} {v : AV} (h1 : resAL P L h rs = some vs) (h2 : frz h 64 (tupA vs) = some v) : ([] : List DI) = [] ∧ ∃ vs, resAL P L h rs = some vs ∧ frz h 64 (tupA vs) = some v := ⟨rfl, vs, h1, h2⟩

section
variable {P : Program} {inl : FuncId → Bool} {n : Nat} {f : FuncId} {fn : Func} {rc : RC} {args : List AV} {v : AV} {h h' : AHeap}

theorem resAL_sound {L : LT} {tm : Tm} {n d : Nat} (H : HasL n d L tm) : ∀ {rs : List ResultVar} {vs : List AV}, resAL P L h rs = some vs → resA P tm h rs = some vs
  | [], vs, hr => by cases hr; rfl
  | .tmp t :: r, vs, hr => by
    unfold resAL at hr
    split at hr
    · rename_i v hv
      split at hr
      · rename_i vs' hvs
        cases hr
        unfold resA
        rw [resAL_sound H hvs, H.2 _ _ hv]
        rfl
      · cases hr
    · cases hr
  | .cell a t :: r, vs, hr => by
    unfold resAL at hr
    split at hr
    · rename_i p hp
      split at hr
      · rename_i v hv
        split at hr
        · rename_i vs' hvs
          cases hr
          unfold resA
          rw [resAL_sound H hvs, H.2 _ _ hp, hv]
        · cases hr
      · cases hr
    · cases hr

theorem retA_of {tm : Tm} {vs : List AV} (h1 : resA P tm h fn.results.toList = some vs) : retA P fn tm h = some (tupA vs) := by
  unfold retA
  rw [h1]
  cases vs with
  | nil => rfl
  | cons a r => cases r <;> rfl

/-- The parameters. -/
def paramL : Nat → List AV → LT
  | _, [] => []
  | i, v :: r => (i, v) :: paramL (i + 1) r

theorem Tr.shape_full : ∀ d, Tr.shape d (Tr.full d) = true
  | 0 => rfl
  | d + 1 => by simp [Tr.full, Tr.shape, Tr.shape_full d]

theorem lk_param : ∀ {args : List AV} {i j : Nat} {v : AV}, lk (paramL i args) j = some v → i ≤ j ∧ args[j - i]? = some v
  | [], i, j, v, h => by cases h
  | a :: r, i, j, v, h => by
    change cond (Nat.beq j i) (some a) (lk (paramL (i + 1) r) j) = some v at h
    cases hq : Nat.beq j i with
    | true =>
      rw [hq] at h
      cases h
      have : j = i := Nat.eq_of_beq_eq_true hq
      subst this
      exact ⟨Nat.le_refl _, by simp⟩
    | false =>
      rw [hq] at h
      obtain ⟨h1, h2⟩ := lk_param h
      refine ⟨by omega, ?_⟩
      have : j - i = (j - (i + 1)) + 1 := by omega
      rw [this]
      simpa using h2

theorem setL_get {n d : Nat} (hn : n < 2 ^ d) : ∀ {args : List AV} {i : Nat} {tm : Tm}, tm.n = n → Tr.shape d tm.t = true → i + args.length ≤ n →
    (Tm.setL args i tm).n = n ∧ Tr.shape d (Tm.setL args i tm).t = true ∧ (∀ j v, lk (paramL i args) j = some v → (Tm.setL args i tm).get j = v) ∧ ∀ j, j < i → (Tm.setL args i tm).get j = tm.get j
  | [], i, tm, h1, h2, h3 => ⟨h1, h2, fun j v h => (by cases h), fun _ _ => rfl⟩
  | a :: r, i, tm, h1, h2, h3 => by
    simp only [List.length_cons] at h3
    have H : HasL n d [] tm := ⟨⟨h1, h2⟩, fun i v h => by cases h⟩
    have H' := H.put hn (dst := some i) (by show Nat.blt i n = true; rw [Nat.blt_eq]; omega) a
    obtain ⟨g1, g2, g3, g4⟩ := setL_get hn (args := r) (i := i + 1) H'.1.1 H'.1.2 (by omega)
    refine ⟨g1, g2, fun j v hj => ?_, fun j hj => ?_⟩
    · change cond (Nat.beq j i) (some a) (lk (paramL (i + 1) r) j) = some v at hj
      cases hq : Nat.beq j i with
      | true =>
        rw [hq] at hj
        cases hj
        have : j = i := Nat.eq_of_beq_eq_true hq
        subst this
        show (Tm.setL r (j + 1) (putT tm (some j) a)).get j = a
        rw [g4 j (by omega)]
        exact H'.2 j a (by show cond (Nat.beq j j) (some a) _ = some a; rw [show Nat.beq j j = true from Nat.beq_refl j]; rfl)
      | false => rw [hq] at hj; exact g3 j v hj
    · show (Tm.setL r (i + 1) (putT tm (some i) a)).get j = tm.get j
      rw [g4 j (by omega)]
      exact Tm.get_set_ne _ _ (by omega)

theorem start_has {d : Nat} (hd : Nat.log2 (fn.ntmps + 1) + 1 = d) (hl : args.length ≤ fn.ntmps) : HasL fn.ntmps d (paramL 0 args) (startT fn args) := by
  have hn : fn.ntmps < 2 ^ d := by
    subst hd
    have := @Nat.lt_log2_self (fn.ntmps + 1)
    omega
  have e : args.length + (fn.ntmps - args.length) = fn.ntmps := by omega
  unfold startT
  rw [e]
  obtain ⟨g1, g2, g3, _⟩ := setL_get hn (args := args) (i := 0) (tm := Tm.new fn.ntmps) rfl (by unfold Tm.new; rw [hd]; exact Tr.shape_full d) (by omega)
  exact ⟨⟨g1, g2⟩, g3⟩

/-- What a function's text says, looked up. -/
structure FunIs (P : Program) (inl : FuncId → Bool) (f : FuncId) (np nt d : Nat) (rs : List ResultVar) (rc : RC) : Prop where
  fn : ∃ fn, P.funcs[f]? = some fn ∧ fn.body.map (resC P inl) = some rc.erase ∧ fn.ntmps = nt ∧ fn.results.toList = rs
  dep : Nat.log2 (nt + 1) + 1 = d
  par : np ≤ nt
  ok : okR nt rc = true

theorem body_wp {call : CallF} {R : AV → AHeap → Prop} {np nt d : Nat} {rs : List ResultVar} (F : FunIs P inl f np nt d rs rc) (hp : args.length = np)
    (W : Wp P call inl KK nt d rc ⟨paramL 0 args, h, []⟩ (RetQ P rs R)) : ∃ v h', bodyA P call (drawA P inl call) KK f args h = some (.ret v, h') ∧ R v h' := by
  obtain ⟨fn, hfn, hrc, hnt, hrs⟩ := F.fn
  cases hb : fn.body with
  | none => rw [hb] at hrc; cases hrc
  | some c =>
    rw [hb] at hrc
    have hrc' : resC P inl c = rc.erase := Option.some.inj hrc
    have hn : nt < 2 ^ d := by
      have := @Nat.lt_log2_self (nt + 1)
      have := F.dep
      subst this
      omega
    have Hs : HasL nt d (paramL 0 args) (startT fn args) := by
      subst hnt
      exact start_has F.dep (by rw [hp]; exact F.par)
    obtain ⟨ex, st', h1, L', h3, h2⟩ := Wp_sound hn rc F.ok W c hrc' (startT fn args) Hs
    unfold bodyA
    simp only [hfn, hb]
    simp only at h1
    rw [h1]
    cases ex with
    | norm =>
      obtain ⟨h4, vs, h5, h6⟩ := h2
      simp only
      simp only at h4
      rw [h4]
      unfold leaveA
      refine ⟨tupA vs, st'.h, ?_, h6⟩
      rw [retA_of (by rw [hrs]; exact resAL_sound h3 h5)]
      rfl
    | ret =>
      obtain ⟨h4, vs, h5, h6⟩ := h2
      simp only
      simp only at h4
      rw [h4]
      unfold leaveA
      refine ⟨tupA vs, st'.h, ?_, h6⟩
      rw [retA_of (by rw [hrs]; exact resAL_sound h3 h5)]
      rfl
    | exit i => exact h2.elim
    | pan v => exact h2.elim

/-- A function that works in memory of its own. -/
theorem fun_pure {c : Cfg} {np nt d : Nat} {rs : List ResultVar} (F : FunIs P c.inl f np nt d rs rc) (hi : c.inl f = false) (hs : c.sum f args = none) (hl : args.length = np) (hp : pureBs args = true)
    (W : Wp P (CN P c n) c.inl KK nt d rc ⟨paramL 0 args, [], []⟩ (RetQ P rs fun v' h' => frz h' 64 v' = some v)) : CN P c (n + 1) f args h = some (.ret v, h) := by
  have hlt : f < P.funcs.size := by
    obtain ⟨fn, hfn, _⟩ := F.fn
    rcases Nat.lt_or_ge f P.funcs.size with h | h
    · exact h
    · rw [Array.getElem?_eq_none h] at hfn; cases hfn
  obtain ⟨v', h', h1, h2⟩ := body_wp F hl W
  unfold CN callN
  simp only [hi, hs, Bool.false_eq_true, if_false, hp, hlt, decide_true, Bool.and_self, if_true]
  unfold pureA
  unfold CN at h1
  rw [h1]
  simp only [CRes.map?, h2, Option.map_some]

/-- A function that works in its caller's memory. -/
theorem fun_inl {c : Cfg} {np nt d : Nat} {rs : List ResultVar} (F : FunIs P c.inl f np nt d rs rc) (hi : c.inl f = true) (hl : args.length = np)
    (W : Wp P (CN P c n) c.inl KK nt d rc ⟨paramL 0 args, h, []⟩ (RetQ P rs fun v' h'' => v' = v ∧ h'' = h')) : CN P c (n + 1) f args h = some (.ret v, h') := by
  have hlt : f < P.funcs.size := by
    obtain ⟨fn, hfn, _⟩ := F.fn
    rcases Nat.lt_or_ge f P.funcs.size with h | h
    · exact h
    · rw [Array.getElem?_eq_none h] at hfn; cases hfn
  obtain ⟨v', h'', h1, h2, h3⟩ := body_wp F hl W
  subst h2 h3
  unfold CN callN
  simp only [hi, if_true]
  rw [if_neg (Nat.not_le.2 hlt)]
  exact h1

/-- A call whose result is known. -/
theorem fun_sum {c : Cfg} (hi : c.inl f = false) (hlt : f < P.funcs.size) (hs : c.sum f args = some v) (hp : pureBs args = true) : CN P c (n + 1) f args h = some (.ret v, h) := by
  unfold CN callN
  simp only [hi, hs, Bool.false_eq_true, if_false, hp, hlt, decide_true, Bool.and_self, if_true]

theorem wrap_i64 {z : Int} (h1 : -9223372036854775808 ≤ z) (h2 : z < 9223372036854775808) : IntKind.i64.wrap z = z := IntWalk.i64_in z ⟨h1, by omega⟩
end
end Go.Abs
