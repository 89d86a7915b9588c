/- Texts put together: AbsS, AbsU, AbsV, AbsW. -/
import Derived.Test.YtfddiediieblhaaGreatLis5
import Derived.IntWalk
import Derived.Carry
import Derived.Handed
import Derived.JoinedOf
import Derived.OpenShut
import Derived.ShutString
import Derived.ChangeOld
import Derived.WalkKit
import Derived.ProofKit
import Derived.Sort.Row
import Derived.Sort.Grow
import Derived.Lib.SlicesCompact
import Derived.Laws.AppendOwn
/- Functions, with all that the program fixes looked up. -/
set_option linter.unusedVariables false
set_option linter.unusedSimpArgs false
namespace Go.Abs

abbrev Str := List UInt8
@[reducible] def u8 (b : UInt8) : AV := .int .u8 b.toNat
@[reducible] def i64 (n : Int) : AV := .int .i64 n
theorem br {b : Bool} {T F : Prop} (h1 : b = true → T) (h2 : b = false → F) : @Bool.rec (fun _ => Prop) F T b := by
  cases b
  · exact h2 rfl
  · exact h1 rfl

theorem brd {p : Prop} {i : Decidable p} {T F : Prop} (h1 : p → T) (h2 : ¬p → F) : @Bool.rec (fun _ => Prop) F T (@decide p i) := br (fun e => h1 (of_decide_eq_true e)) (fun e => h2 (of_decide_eq_false e))
theorem bre {α : Type} [i : BEq α] [LawfulBEq α] {a b : α} {T F : Prop} (h1 : a = b → T) (h2 : a ≠ b → F) : @Bool.rec (fun _ => Prop) F T (@BEq.beq α i a b) := br (fun e => h1 (eq_of_beq e)) (fun e => h2 fun q => by subst q; simp at e)
theorem brq {α : Type} [i : BEq α] [LawfulBEq α] {a b : α} {T F : Prop} (h1 : a ≠ b → T) (h2 : a = b → F) : @Bool.rec (fun _ => Prop) F T (@bne α i a b) := br (fun e => h1 (by intro q; subst q; simp at e)) (fun e => h2 (by simpa using e))
theorem brn {b : Bool} {T F : Prop} (h1 : b = false → T) (h2 : b = true → F) : @Bool.rec (fun _ => Prop) F T (!b) := br (fun e => h1 (by simpa using e)) (fun e => h2 (by simpa using e))
theorem ldI {h : AHeap} {b ver : Nat} {q : Option TypeId → List AV → Nat → Prop} {el : Option TypeId} {cs : List AV} {frz : Nat} (h1 : h[b]? = some (.cells ver el cs frz)) (h2 : q el cs frz) : ∃ el cs frz, h[b]? = some (.cells ver el cs frz) ∧ q el cs frz := ⟨el, cs, frz, h1, h2⟩
theorem stI {h : AHeap} {b ver o sz : Nat} {v : AV} {q : Option TypeId → List AV → Nat → List AV → Prop} {el : Option TypeId} {cs xs : List AV} {frz : Nat} (h1 : h[b]? = some (.cells ver el cs frz)) (h2 : v.cells? = some xs) (h3 : xs.length = sz) (h4 : Nat.ble (o + xs.length) cs.length = true) (h5 : Nat.ble frz o = true)
    (h6 : q el cs frz xs) : ∃ el cs frz xs, h[b]? = some (.cells ver el cs frz) ∧ v.cells? = some xs ∧ xs.length = sz ∧ o + xs.length ≤ cs.length ∧ frz ≤ o ∧ q el cs frz xs :=
  ⟨el, cs, frz, xs, h1, h2, h3, Nat.le_of_ble_eq_true h4, Nat.le_of_ble_eq_true h5, h6⟩
theorem get_last (h : AHeap) (x : AB) : (h ++ [x])[h.length]? = some x := by simp
theorem get_set_last (h : AHeap) (x y : AB) : ((h ++ [x]).set h.length y)[h.length]? = some y := by simp
theorem ixL {α : Type} {f : α → AV} {g : α → List AV} (hc : ∀ a, (f a).cells? = some (g a)) {l : List α} {j : Nat} (hj : j < l.length) {sz sz' : Nat} (hs : l ≠ [] → sz' = sz) {q : List AV → Prop} (hq : q (g l[j])) :
    0 ≤ (j : Int) ∧ sz' = sz ∧ ∃ y, (l.map f)[(j : Int).toNat]? = some y ∧ ∃ cs, y.cells? = some cs ∧ q cs :=
  ⟨by omega, hs (fun e => by subst e; simp at hj), f l[j], by simp [hj], g l[j], hc _, hq⟩
theorem lenI {α : Type} (f : α → AV) (l : List α) : some (AV.int .i64 ((l.map f).length : Nat)) = some (.int .i64 (l.length : Nat)) := by rw [List.length_map]
theorem rawI {P : Program} {call : CallF} {ρ : RX → Option AV} {o : Oper} {h h' : AHeap} {K X : AV → AHeap → Prop} {v : AV} (h0 : o.op.operands.toList.all (known ρ) = true) (h1 : stepV P call o (evR ρ) h = some (.ret v, h')) (h2 : K v h') :
    o.op.operands.toList.all (known ρ) = true ∧ ∃ r h', stepV P call o (evR ρ) h = some (r, h') ∧ WpR K X h' r := ⟨h0, .ret v, h', h1, h2⟩
theorem clI {call : CallF} {g : FuncId} {args : List AV} {h h' : AHeap} {K X : AV → AHeap → Prop} {v : AV} (h1 : call g args h = some (.ret v, h')) (h2 : K v h') : ∃ r h', call g args h = some (r, h') ∧ WpR K X h' r := ⟨.ret v, h', h1, h2⟩
theorem zI {k : IntKind} {x z : Int} {q : Int → Prop} (h1 : k.wrap x = z) (h2 : q z) : ∃ z, k.wrap x = z ∧ q z := ⟨z, h1, h2⟩
theorem eqI {P : Program} {t : TypeId} {a b : AV} {r : Bool} {q : Bool → Prop} (h1 : eqA P 20 t a b = some r) (h2 : q r) : ∃ r, eqA P 20 t a b = some r ∧ q r := ⟨r, h1, h2⟩

theorem slI {sz : Nat} {x v : AV} {l u m : Option Int} {q : AV → Prop} (h1 : sliceA sz x l u m = some v) (h2 : q v) : ∃ v, sliceA sz x l u m = some v ∧ q v := ⟨v, h1, h2⟩
theorem sl_hi {α : Type} (f : α → AV) (l : List α) {sz sz' : Nat} (hz : l ≠ [] → sz' = sz) (c : Bool) (k : Nat) (hk : k ≤ l.length) :
    sliceA sz (.lst sz' (l.map f) c) none (some (k : Int)) none = some (.lst sz ((l.take k).map f) (sz != 0 && (c && ((k : Int) == (l.length : Nat))))) := by
  unfold sliceA
  simp only [Option.getD_none, Option.getD_some, List.length_map]
  rw [if_pos ⟨by omega, by omega, by omega, by by_cases e : l = []; exact .inr (by simp [e]); exact .inl (hz e)⟩]
  simp [List.map_take]
theorem sl_lo {α : Type} (f : α → AV) (l : List α) {sz sz' : Nat} (hz : l ≠ [] → sz' = sz) (c : Bool) (k : Nat) (hk : k ≤ l.length) :
    sliceA sz (.lst sz' (l.map f) c) (some (k : Int)) none none = some (.lst sz ((l.drop k).map f) (sz != 0 && (c && ((l.length : Int) == (l.length : Nat))))) := by
  unfold sliceA
  simp only [Option.getD_none, Option.getD_some, List.length_map]
  rw [if_pos ⟨by omega, by omega, by omega, by by_cases e : l = []; exact .inr (by simp [e]); exact .inl (hz e)⟩]
  have : (l.map f).take (Int.toNat l.length) = l.map f := by rw [Int.toNat_natCast]; exact List.take_of_length_le (by simp)
  rw [this]
  simp [List.map_drop]
theorem nxI {α : Type} {S : α → LS} {I : α → Prop} {μ : α → Nat} {k : Nat} {s : LS} (y : α) (h1 : I y) (h2 : μ y < k) (h3 : LS.sub (S y) s) : ∃ y, I y ∧ μ y < k ∧ LS.sub (S y) s := ⟨y, h1, h2, h3⟩

/-- The loops of a text, in order. -/
def RC.loops : RC → List RC
  | .seq a b => a.loops ++ b.loops
  | .cond _ a b => a.loops ++ b.loops
  | .block _ c => c.loops
  | .loop c => c :: c.loops
  | .rangeF _ _ a b => a.loops ++ b.loops
  | .cut c => c.loops
  | _ => []
def RC.lp (c : RC) (i : Nat) : RC := match c.loops[i]? with
  | some c => c
  | none => .skip

/-- The first text behind a cut. -/
def cutOf : RC → RC
  | .cut c => c
  | .seq a b => match cutOf a with
    | .skip => cutOf b
    | c => c
  | .cond _ a b => match cutOf a with
    | .skip => cutOf b
    | c => c
  | .block _ c => cutOf c
  | .loop c => cutOf c
  | _ => .skip

/-- How many rounds a loop may take. -/
abbrev KK : Nat := 18446744073709551616

/-- Calls, with the loops' bound. -/
noncomputable def CN (P : Program) (c : Cfg) (n : Nat) : CallF := callN P c (drawA P c.inl) KK n
theorem wpartI {K : AV → Prop} {o : Option AV} {v : AV} (h1 : o = some v) (h2 : K v) : WPart K o := by subst h1; exact h2

/-- The results, looked up. -/
noncomputable def resAL (P : Program) (L : LT) (h : AHeap) : List ResultVar → Option (List AV)
  | [] => some []
  | .tmp t :: r => match lk L t with
    | some v => match resAL P L h r with
      | some vs => some (v :: vs)
      | none => none
    | none => none
  | .cell a t :: r => match lk L a with
    | some p => match loadA P h t p with
      | some v => match resAL P L h r with
        | some vs => some (v :: vs)
        | none => none
      | none => none
    | none => none

def tupA : List AV → AV
  | [v] => v
  | vs => .tup vs

noncomputable def RetQ (P : Program) (rs : List ResultVar) (R : AV → AHeap → Prop) : Ex → LS → Prop := fun ex s => match ex with
  | .norm | .ret => s.df = [] ∧ ∃ vs, resAL P s.L s.h rs = some vs ∧ R (tupA vs) s.h
  | _ => False

theorem retK {P : Program} {t : Tmp} {L : LT} {h : AHeap} {x v : AV} (hk : lk L t = some x) (h2 : frz h 64 x = some v) : ([] : List DI) = [] ∧ ∃ vs, resAL P L h [.tmp t] = some vs ∧ frz h 64 (tupA vs) = some v := ⟨rfl, [x], by simp [resAL, hk], h2⟩
theorem frz_bool {h : AHeap} {b c : Bool} (e : b = c) : frz h 64 (.bool b) = some (.bool c) := by subst e; rfl
theorem frz_int {h : AHeap} {k : IntKind} {b c : Int} (e : b = c) : frz h 64 (.int k b) = some (.int k c) := by subst e; rfl
theorem allM_id {f : AV → Option AV} : ∀ {xs : List AV}, (∀ x ∈ xs, f x = some x) → allM f xs = some xs
  | [], _ => rfl
  | x :: xs, h => by
    unfold allM
    rw [h x (List.mem_cons_self ..), allM_id fun y hy => h y (List.mem_cons_of_mem _ hy)]
/-- Values that are kept as they are. -/
def FrzOk (n : Nat) (x : AV) : Prop := ∀ h, frz h n x = some x
theorem frzOk_agg {n : Nat} {xs : List AV} (hx : ∀ x ∈ xs, FrzOk n x) : FrzOk (n + 1) (.agg xs) := fun h => by
  unfold frz; simp only; rw [allM_id fun x hx' => hx x hx' h]; rfl
theorem frzOk_lst {n sz : Nat} {c : Bool} {xs : List AV} (hx : ∀ x ∈ xs, FrzOk n x) : FrzOk (n + 1) (.lst sz xs c) := fun h => by
  unfold frz; simp only; rw [allM_id fun x hx' => hx x hx' h]; rfl
theorem frzOk_int {n : Nat} {k : IntKind} {i : Int} : FrzOk (n + 1) (.int k i) := fun h => rfl
theorem retP {P : Program} {rs : List ResultVar} {L : LT} {h : AHeap} {vs : List AV} {v : AV} (h1 : resAL P L h rs = some vs) (h2 : frz h 64 (tupA vs) = some v) : ([] : List DI) = [] ∧ ∃ vs, resAL P L h rs = some vs ∧ frz h 64 (tupA vs) = some v := ⟨rfl, vs, h1, h2⟩

section
variable {P : Program} {inl : FuncId → Bool} {n : Nat} {f : FuncId} {fn : Func} {rc : RC} {args : List AV} {v : AV} {h h' : AHeap}

theorem resAL_sound {L : LT} {tm : Tm} {n d : Nat} (H : HasL n d L tm) : ∀ {rs : List ResultVar} {vs : List AV}, resAL P L h rs = some vs → resA P tm h rs = some vs
  | [], vs, hr => by cases hr; rfl
  | .tmp t :: r, vs, hr => by
    unfold resAL at hr
    split at hr
    · rename_i v hv
      split at hr
      · rename_i vs' hvs
        cases hr
        unfold resA
        rw [resAL_sound H hvs, H.2 _ _ hv]
        rfl
      · cases hr
    · cases hr
  | .cell a t :: r, vs, hr => by
    unfold resAL at hr
    split at hr
    · rename_i p hp
      split at hr
      · rename_i v hv
        split at hr
        · rename_i vs' hvs
          cases hr
          unfold resA
          rw [resAL_sound H hvs, H.2 _ _ hp, hv]
        · cases hr
      · cases hr
    · cases hr

theorem retA_of {tm : Tm} {vs : List AV} (h1 : resA P tm h fn.results.toList = some vs) : retA P fn tm h = some (tupA vs) := by
  unfold retA
  rw [h1]
  cases vs with
  | nil => rfl
  | cons a r => cases r <;> rfl

/-- The parameters. -/
def paramL : Nat → List AV → LT
  | _, [] => []
  | i, v :: r => (i, v) :: paramL (i + 1) r

theorem Tr.shape_full : ∀ d, Tr.shape d (Tr.full d) = true
  | 0 => rfl
  | d + 1 => by simp [Tr.full, Tr.shape, Tr.shape_full d]

theorem setL_get {n d : Nat} (hn : n < 2 ^ d) : ∀ {args : List AV} {i : Nat} {tm : Tm}, tm.n = n → Tr.shape d tm.t = true → i + args.length ≤ n →
    (Tm.setL args i tm).n = n ∧ Tr.shape d (Tm.setL args i tm).t = true ∧ (∀ j v, lk (paramL i args) j = some v → (Tm.setL args i tm).get j = v) ∧ ∀ j, j < i → (Tm.setL args i tm).get j = tm.get j
  | [], i, tm, h1, h2, h3 => ⟨h1, h2, fun j v h => (by cases h), fun _ _ => rfl⟩
  | a :: r, i, tm, h1, h2, h3 => by
    simp only [List.length_cons] at h3
    have H : HasL n d [] tm := ⟨⟨h1, h2⟩, fun i v h => by cases h⟩
    have H' := H.put hn (dst := some i) (by show Nat.blt i n = true; rw [Nat.blt_eq]; omega) a
    obtain ⟨g1, g2, g3, g4⟩ := setL_get hn (args := r) (i := i + 1) H'.1.1 H'.1.2 (by omega)
    refine ⟨g1, g2, fun j v hj => ?_, fun j hj => ?_⟩
    · change cond (Nat.beq j i) (some a) (lk (paramL (i + 1) r) j) = some v at hj
      cases hq : Nat.beq j i with
      | true =>
        rw [hq] at hj
        cases hj
        have : j = i := Nat.eq_of_beq_eq_true hq
        subst this
        show (Tm.setL r (j + 1) (putT tm (some j) a)).get j = a
        rw [g4 j (by omega)]
        exact H'.2 j a (by show cond (Nat.beq j j) (some a) _ = some a; rw [show Nat.beq j j = true from Nat.beq_refl j]; rfl)
      | false => rw [hq] at hj; exact g3 j v hj
    · show (Tm.setL r (i + 1) (putT tm (some i) a)).get j = tm.get j
      rw [g4 j (by omega)]
      exact Tm.get_set_ne _ _ (by omega)

theorem start_has {d : Nat} (hd : Nat.log2 (fn.ntmps + 1) + 1 = d) (hl : args.length ≤ fn.ntmps) : HasL fn.ntmps d (paramL 0 args) (startT fn args) := by
  have hn : fn.ntmps < 2 ^ d := by
    subst hd
    have := @Nat.lt_log2_self (fn.ntmps + 1)
    omega
  have e : args.length + (fn.ntmps - args.length) = fn.ntmps := by omega
  unfold startT
  rw [e]
  obtain ⟨g1, g2, g3, _⟩ := setL_get hn (args := args) (i := 0) (tm := Tm.new fn.ntmps) rfl (by unfold Tm.new; rw [hd]; exact Tr.shape_full d) (by omega)
  exact ⟨⟨g1, g2⟩, g3⟩

/-- What a function's text says, looked up. -/
structure FunIs (P : Program) (inl : FuncId → Bool) (f : FuncId) (np nt d : Nat) (rs : List ResultVar) (rc : RC) : Prop where
  fn : ∃ fn, P.funcs[f]? = some fn ∧ fn.body.map (resC P inl) = some rc.erase ∧ fn.ntmps = nt ∧ fn.results.toList = rs
  dep : Nat.log2 (nt + 1) + 1 = d
  par : np ≤ nt
  ok : okR nt rc = true

theorem body_wp {call : CallF} {R : AV → AHeap → Prop} {np nt d : Nat} {rs : List ResultVar} (F : FunIs P inl f np nt d rs rc) (hp : args.length = np)
    (W : Wp P call inl KK nt d rc ⟨paramL 0 args, h, []⟩ (RetQ P rs R)) : ∃ v h', bodyA P call (drawA P inl call) KK f args h = some (.ret v, h') ∧ R v h' := by
  obtain ⟨fn, hfn, hrc, hnt, hrs⟩ := F.fn
  cases hb : fn.body with
  | none => rw [hb] at hrc; cases hrc
  | some c =>
    rw [hb] at hrc
    have hrc' : resC P inl c = rc.erase := Option.some.inj hrc
    have hn : nt < 2 ^ d := by
      have := @Nat.lt_log2_self (nt + 1)
      have := F.dep
      subst this
      omega
    have Hs : HasL nt d (paramL 0 args) (startT fn args) := by
      subst hnt
      exact start_has F.dep (by rw [hp]; exact F.par)
    obtain ⟨ex, st', h1, L', h3, h2⟩ := Wp_sound hn rc F.ok W c hrc' (startT fn args) Hs
    unfold bodyA
    simp only [hfn, hb]
    simp only at h1
    rw [h1]
    cases ex with
    | norm =>
      obtain ⟨h4, vs, h5, h6⟩ := h2
      simp only
      simp only at h4
      rw [h4]
      unfold leaveA
      refine ⟨tupA vs, st'.h, ?_, h6⟩
      rw [retA_of (by rw [hrs]; exact resAL_sound h3 h5)]
      rfl
    | ret =>
      obtain ⟨h4, vs, h5, h6⟩ := h2
      simp only
      simp only at h4
      rw [h4]
      unfold leaveA
      refine ⟨tupA vs, st'.h, ?_, h6⟩
      rw [retA_of (by rw [hrs]; exact resAL_sound h3 h5)]
      rfl
    | exit i => exact h2.elim
    | pan v => exact h2.elim

/-- A function that works in memory of its own. -/
theorem fun_pure {c : Cfg} {np nt d : Nat} {rs : List ResultVar} (F : FunIs P c.inl f np nt d rs rc) (hi : c.inl f = false) (hs : c.sum f args = none) (hl : args.length = np) (hp : pureBs args = true)
    (W : Wp P (CN P c n) c.inl KK nt d rc ⟨paramL 0 args, [], []⟩ (RetQ P rs fun v' h' => frz h' 64 v' = some v)) : CN P c (n + 1) f args h = some (.ret v, h) := by
  have hlt : f < P.funcs.size := by
    obtain ⟨fn, hfn, _⟩ := F.fn
    rcases Nat.lt_or_ge f P.funcs.size with h | h
    · exact h
    · rw [Array.getElem?_eq_none h] at hfn; cases hfn
  obtain ⟨v', h', h1, h2⟩ := body_wp F hl W
  unfold CN callN
  simp only [hi, hs, Bool.false_eq_true, if_false, hp, hlt, decide_true, Bool.and_self, if_true]
  unfold pureA
  unfold CN at h1
  rw [h1]
  simp only [CRes.map?, h2, Option.map_some]

/-- A function that works in its caller's memory. -/
theorem fun_inl {c : Cfg} {np nt d : Nat} {rs : List ResultVar} (F : FunIs P c.inl f np nt d rs rc) (hi : c.inl f = true) (hl : args.length = np)
    (W : Wp P (CN P c n) c.inl KK nt d rc ⟨paramL 0 args, h, []⟩ (RetQ P rs fun v' h'' => v' = v ∧ h'' = h')) (hm : c.mem f args h = none := by rfl) (hk : c.cold f = false := by rfl) : CN P c (n + 1) f args h = some (.ret v, h') := by
  have hlt : f < P.funcs.size := by
    obtain ⟨fn, hfn, _⟩ := F.fn
    rcases Nat.lt_or_ge f P.funcs.size with h | h
    · exact h
    · rw [Array.getElem?_eq_none h] at hfn; cases hfn
  obtain ⟨v', h'', h1, h2, h3⟩ := body_wp F hl W
  subst h2 h3
  unfold CN callN
  simp only [hi, if_true, hm, hk, Bool.false_eq_true, if_false]
  rw [if_neg (Nat.not_le.2 hlt)]
  exact h1

/-- A call whose result is known. -/
theorem fun_sum {c : Cfg} (hi : c.inl f = false) (hlt : f < P.funcs.size) (hs : c.sum f args = some v) (hp : pureBs args = true) : CN P c (n + 1) f args h = some (.ret v, h) := by
  unfold CN callN
  simp only [hi, hs, Bool.false_eq_true, if_false, hp, hlt, decide_true, Bool.and_self, if_true]

theorem wrap_i64 {z : Int} (h1 : -9223372036854775808 ≤ z) (h2 : z < 9223372036854775808) : IntKind.i64.wrap z = z := IntWalk.i64_in z ⟨h1, by omega⟩
end
end Go.Abs
/- From calls of the small machine to the rows of laws. -/
set_option linter.unusedVariables false
set_option linter.unusedSimpArgs false
namespace Go.Abs
open Go.ChangeShapes Go.WideShapes Go.ChangeAt Go.RowKit

/-- All cells of a world. -/
def cellsW (W : World) : SM := fun b o => W.cell? ⟨b, o, none⟩

section
variable {H : Type} {enc : TypeId × Value → H} {P : Program} {W W' : World}

theorem trodAll_lt {sp : Nat → Bool} : ∀ {ts : List TypeId} {vs : List Value} {ds : List (DataW H)} {p : List MemPlace}, DataW.TrodAll enc P W 0 sp true ts vs ds p → ∀ x ∈ p, x.block < W.heap.size
  | [], vs, ds, p, h => by
    obtain ⟨_, _, rfl⟩ := trodAll_nil h
    intro x hx; cases hx
  | t :: ts, vs, ds, p, h => by
    obtain ⟨v, vs', d, ds', p', q, rfl, rfl, rfl, h1, h2⟩ := trodAll_cons h
    intro x hx
    rcases List.mem_append.1 hx with hx | hx
    · obtain ⟨m, hm⟩ := h1; exact DataW.trod_lt m _ _ _ hm x hx
    · exact trodAll_lt h2 x hx

theorem trodAll_stays (hl : laidOutB P = true) (hb : Below W.heap.size W W') : ∀ {ts : List TypeId} {vs : List Value} {ds : List (DataW H)} {p : List MemPlace}, (ts.all fun t => P.readableRec t && decide (t < P.types.size)) = true → DataW.TrodAll enc P W 0 (fun _ => true) true ts vs ds p →
    DataW.TrodAll enc P W' 0 (fun b => decide (b < W.heap.size)) true ts vs ds p
  | [], vs, ds, p, _, h => by
    obtain ⟨rfl, rfl, rfl⟩ := trodAll_nil h
    exact trodAll_mk0
  | t :: ts, vs, ds, p, hty, h => by
    simp only [List.all_cons, Bool.and_eq_true, decide_eq_true_eq] at hty
    have hlt := trodAll_lt h
    obtain ⟨v, vs', d, ds', p', q, rfl, rfl, rfl, h1, h2⟩ := trodAll_cons h
    exact trodAll_cons_mk (Below.trod hl hty.1.1 hty.1.2 h1 hb fun x hx => hlt x (List.mem_append_left _ hx)) (trodAll_stays hl hb hty.2 h2)

theorem trodAll_len {sp : Nat → Bool} : ∀ {ts : List TypeId} {vs : List Value} {ds : List (DataW H)} {p : List MemPlace}, DataW.TrodAll enc P W 0 sp true ts vs ds p → ds.length = ts.length
  | [], vs, ds, p, h => by obtain ⟨_, rfl, _⟩ := trodAll_nil h; rfl
  | t :: ts, vs, ds, p, h => by
    obtain ⟨v, vs', d, ds', p', q, rfl, rfl, rfl, h1, h2⟩ := trodAll_cons h
    simp [trodAll_len h2]

/-- A law's call, read as a row reads it. -/
theorem law_call {f : FuncId} {fn : Func} {s : ChangeSpec} {tb : TypeId} (hl : laidOutB P = true) (hty : (fn.params.toList.all fun t => P.readableRec t && decide (t < P.types.size)) = true) (hres : fn.resultTypes = #[tb]) (htb : P.underlying tb = some .bool) (hvars : s.vars = [])
    (hs : ∀ (ds : List (DataW H)), ds.length = fn.params.size → s.fn H ds = { results := [.lit (.bool true)], args := ds }) {args : Array Value} {ds gs : List (DataW H)} {before : List MemPlace}
    (hW : DataW.Whole enc P fn.params.toList s.vars false W args.toList ds gs before) {as : List AV} (hv : VRs (cellsW W) noBM as args.toList) (hp : PureCalls P f as (.ret (.bool true))) :
    Calls P f args W fun e W' => ∃ v, e = .returned v ∧ s.post enc P fn false true false false W args v W' := by
  refine (hp (cellsW W) W args (fun b o v h => h) hv).mono fun e W' hq => ?_
  obtain ⟨S', g1, g2, g3, g4, g5, genv, u, e1, h1⟩ := hq
  unfold VR at h1
  subst h1
  have bel : Below W.heap.size W W' := ⟨genv.1, genv.2.2, genv.2.1, g4, g5⟩
  have hW' := hW
  obtain ⟨p, q, hA0, hV, rfl, hfz, hnd⟩ := hW
  have hA : DataW.TrodAll enc P W 0 (fun _ => true) true fn.params.toList args.toList ds p := hA0
  rw [hvars] at hV
  obtain ⟨rfl, rfl⟩ := trodVars_none hV
  have hlen : ds.length = fn.params.size := by rw [trodAll_len hA]; simp
  have hsp := hs (ds ++ []) (by simpa using hlen)
  refine ⟨.bool true, e1, ds, [], _, [], p, [], hW', ?_, ?_, ?_, bel.frame _, fun h => by cases h⟩
  · rw [hsp, hres]; exact trodAll_mk1 (shut_bool htb _)
  · rw [hsp]; simp only [List.append_nil]; exact trodAll_stays hl bel hty hA
  · rw [hsp, hvars]; exact rfl
end

section
variable {H : Type} {enc : TypeId × Value → H} {P : Program} {W : World} {base : Nat} {sp : Nat → Bool} {held : Bool} {fuel : Nat} {t : TypeId} {cs : List Value} {x : DataW H × List MemPlace}

theorem rd_str (ht : P.underlying t = some .string) (h : DataW.trod enc P W base sp held fuel t cs = some x) : ∃ s : List UInt8, cs = [.string ⟨s.toArray⟩] := by
  cases fuel with
  | zero => simp [DataW.trod] at h
  | succ n =>
    unfold DataW.trod at h
    rw [ht] at h
    split at h <;> simp_all
    rename_i s
    exact ⟨s.data.toList, by simp⟩
theorem rd_int {k : IntKind} (ht : P.underlying t = some (.int k)) (h : DataW.trod enc P W base sp held fuel t cs = some x) : ∃ n, cs = [.int k n] ∧ (Lit.int k n).wf = true := by
  cases fuel with
  | zero => simp [DataW.trod] at h
  | succ n =>
    unfold DataW.trod at h
    rw [ht] at h
    split at h <;> simp_all
theorem rd_bool (ht : P.underlying t = some .bool) (h : DataW.trod enc P W base sp held fuel t cs = some x) : ∃ b, cs = [.bool b] := by
  cases fuel with
  | zero => simp [DataW.trod] at h
  | succ n =>
    unfold DataW.trod at h
    rw [ht] at h
    split at h <;> simp_all
theorem rd_u8 (ht : P.underlying t = some (.int .u8)) (h : DataW.trod enc P W base sp held fuel t cs = some x) : ∃ b : UInt8, cs = [.int .u8 b.toNat] := by
  obtain ⟨n, rfl, hw⟩ := rd_int ht h
  refine ⟨UInt8.ofNat n.toNat, ?_⟩
  have h2 : 0 ≤ n ∧ n ≤ 255 := by simpa [Lit.wf, IntKind.min, IntKind.max, IntKind.signed, IntKind.bits] using hw
  have : (UInt8.ofNat n.toNat).toNat = n.toNat := by
    rw [UInt8.toNat_ofNat']; omega
  rw [this]
  congr 1
  congr 1
  omega

theorem VRs_get {S : SM} {m : BM} : ∀ {as : List AV} {vs : List Value}, as.length = vs.length → (∀ (i : Nat) (a : AV) (v : Value), as[i]? = some a → vs[i]? = some v → VR S m a v) → VRs S m as vs
  | [], [], _, _ => by unfold VRs; rfl
  | [], _ :: _, h, _ => by simp at h
  | _ :: _, [], h, _ => by simp at h
  | a :: as, v :: vs, h, hv => by
    unfold VRs
    exact ⟨v, vs, rfl, hv 0 a v rfl rfl, VRs_get (by simpa using h) fun i b u h1 h2 => hv (i + 1) b u (by simpa using h1) (by simpa using h2)⟩
theorem VRs_app {S : SM} {m : BM} : ∀ {as : List AV} {bs : List AV} {vs us : List Value}, VRs S m as vs → VRs S m bs us → VRs S m (as ++ bs) (vs ++ us)
  | [], bs, vs, us, h, k => by unfold VRs at h; subst h; exact k
  | a :: as, bs, vs, us, h, k => by
    unfold VRs at h
    obtain ⟨v, vs', rfl, h1, h2⟩ := h
    show VRs S m (a :: (as ++ bs)) (v :: vs' ++ us)
    unfold VRs
    exact ⟨v, vs' ++ us, rfl, h1, VRs_app h2 k⟩
theorem VRs_one {S : SM} {m : BM} {a : AV} {v : Value} (h : VR S m a v) : VRs S m [a] [v] := by unfold VRs; exact ⟨v, [], rfl, h, by unfold VRs; rfl⟩

theorem CR_of {S : SM} {m : BM} : ∀ {as : List AV} {vs : List Value} {B q : Nat}, VRs S m as vs → (∀ i v, vs[i]? = some v → S B (q + i) = some v) → CR S m as B q
  | [], _, _, _, _, _ => by unfold CR; trivial
  | a :: as, vs, B, q, h, hc => by
    unfold VRs at h
    obtain ⟨v, vs', rfl, h1, h2⟩ := h
    unfold CR
    refine ⟨⟨v, by simpa using hc 0 v rfl, h1⟩, CR_of h2 fun i u hu => ?_⟩
    have := hc (i + 1) u (by simpa using hu)
    rwa [show q + (i + 1) = q + 1 + i by omega] at this

/-- Elements that are structs. -/
theorem ER_of {S : SM} {m : BM} {α : Type} {g : α → List AV} {sz : Nat} : ∀ {l : List α} {B q : Nat}, (∀ i e, l[i]? = some e → CR S m (g e) B (q + i * sz)) → ER S m sz (l.map fun e => .agg (g e)) B q
  | [], _, _, _ => by unfold ER; trivial
  | e :: l, B, q, h => by
    show ER S m sz (.agg (g e) :: l.map fun e => .agg (g e)) B q
    unfold ER
    refine ⟨by simpa using h 0 e rfl, ER_of fun i e' he => ?_⟩
    have := h (i + 1) e' (by simpa using he)
    rwa [show q + (i + 1) * sz = q + sz + i * sz by rw [Nat.add_mul]; omega] at this

theorem list_of {α : Type} {p : Nat → α → Prop} : ∀ (n : Nat), (∀ i, i < n → ∃ a, p i a) → ∃ l : List α, l.length = n ∧ ∀ i a, l[i]? = some a → p i a
  | 0, _ => ⟨[], rfl, fun i a h => by simp at h⟩
  | n + 1, h => by
    obtain ⟨l, h1, h2⟩ := list_of n fun i hi => h i (by omega)
    obtain ⟨a, ha⟩ := h n (by omega)
    refine ⟨l ++ [a], by simp [h1], fun i b hb => ?_⟩
    rcases Nat.lt_or_ge i l.length with hi | hi
    · rw [List.getElem?_append_left hi] at hb; exact h2 i b hb
    · rw [List.getElem?_append_right hi] at hb
      have : i = n := by
        rcases Nat.lt_or_ge (i - l.length) 1 with h3 | h3
        · omega
        · rw [List.getElem?_eq_none (by simpa using h3)] at hb; cases hb
      subst this
      simp [h1] at hb
      subst hb; exact ha

/-- A slice of structs. -/
theorem rd_slice {α : Type} {g : α → List AV} {ok : α → Prop} {e : TypeId} {sz : Nat} (ht : P.underlying t = some (.slice e)) (hsz : P.cellsOf e = sz) (h0 : sz ≠ 0)
    (he : ∀ (fuel : Nat) (cs : List Value) (x : DataW H × List MemPlace), DataW.trod enc P W base sp held fuel e cs = some x → ∃ a : α, VRs (cellsW W) noBM (g a) cs ∧ ok a)
    (h : DataW.trod enc P W base sp held fuel t cs = some x) : ∃ (l : List α) (v : Value), cs = [v] ∧ VR (cellsW W) noBM (.lst sz (l.map fun a => .agg (g a)) false) v ∧ ∀ a ∈ l, ok a := by
  rcases DataW.trod_slice ht h with ⟨rfl, _⟩ | ⟨a, len, cap, elems, rest, n, _, rfl, _, hb, hlc, hcm, hel, hi, _, _⟩
  · exact ⟨[], _, rfl, by unfold VR; exact ⟨none, 0, rfl, Nat.le_refl _, (fun h => by cases h), fun h => (h rfl).elim⟩, fun a h => by cases h⟩
  · rw [hsz] at hi
    obtain ⟨l, hl, hg⟩ := list_of (p := fun i (b : α) => (∃ cs', W.cells? base (a.add (i * sz)) sz = some cs' ∧ VRs (cellsW W) noBM (g b) cs') ∧ ok b) len fun i hil => by
      have h1 := hi i hil
      have h2 : elems[i]? = some (elems[i]'(by omega)) := List.getElem?_eq_getElem (by omega)
      rw [h2] at h1
      obtain ⟨cs', h3, h4⟩ := Option.bind_eq_some_iff.1 h1
      obtain ⟨b, h5, h6⟩ := he _ _ _ h4
      exact ⟨b, ⟨cs', h3, h5⟩, h6⟩
    refine ⟨l, _, rfl, ?_, fun b hb => ?_⟩
    · unfold VR
      refine ⟨some a, cap, by simp [hl], by simpa [hl] using hlc, (fun h => by cases h), fun hne => ?_⟩
      have hpos : 0 < len := by
        rcases Nat.eq_zero_or_pos len with h | h
        · subst h
          have : l = [] := List.length_eq_zero_iff.1 hl
          subst this
          exact (hne rfl).elim
        · exact h
      have hspot : a.spot = none := by
        obtain ⟨b, hb⟩ : ∃ b, l[0]? = some b := ⟨_, List.getElem?_eq_getElem (by omega)⟩
        obtain ⟨⟨cs', h1, h2⟩, _⟩ := hg 0 b hb
        obtain ⟨_, h3, h4⟩ := World.cells?_some h1
        have h5 := h4 0 (by omega)
        rw [List.getElem?_eq_getElem (by omega)] at h5
        have := World.cell?_spot h5
        simpa [Addr.add] using this
      obtain ⟨B, q, spot⟩ := a
      simp only at hspot
      subst hspot
      refine ⟨B, q, rfl, ER_of fun i b hb => ?_⟩
      obtain ⟨⟨cs', h1, h2⟩, _⟩ := hg i b hb
      obtain ⟨_, h3, h4⟩ := World.cells?_some h1
      refine CR_of h2 fun j v hj => ?_
      have hjl : j < sz := by
        rcases Nat.lt_or_ge j sz with h | h
        · exact h
        · rw [List.getElem?_eq_none (by omega)] at hj; cases hj
      have h6 := h4 j hjl
      rw [hj] at h6
      have e7 : ((⟨B, q, none⟩ : Addr).add (i * sz)).add j = ⟨B, q + i * sz + j, none⟩ := by
        unfold Addr.add
        by_cases e1 : i * sz = 0 <;> by_cases e2 : j = 0 <;> simp [e1, e2]
      rw [e7] at h6
      exact h6
    · obtain ⟨i, hi', rfl⟩ := List.getElem_of_mem hb
      exact (hg i _ (List.getElem?_eq_getElem hi')).2
end

/-- Calls in memory of their own. -/
theorem pure_of_CN {P : Program} {c : Cfg} {n : Nat} {f : FuncId} {args : List AV} {v : AV} (hsum : SumOk P c) (hinl : c.inl f = false) (h : CN P c (n + 1) f args [] = some (.ret v, [])) : PureCalls P f args (.ret v) := by
  unfold CN callN at h
  simp only [hinl, Bool.false_eq_true, if_false] at h
  split at h
  · split at h
    · rename_i u hu
      cases h
      exact hsum.1 _ _ _ hu
    · cases hp : pureA P (callN P c (drawA P c.inl) KK n) (drawA P c.inl) KK f args with
      | none => rw [hp] at h; cases h
      | some r =>
        rw [hp] at h
        cases h
        exact pureA_sound (callN_sound hsum (drawsOk P c.inl) KK n) (callN_apart P c (drawA P c.inl) KK n) (drawsOk P c.inl) hp
  · cases h
end Go.Abs
/- How functions end: deferred calls, panics that are recovered; rounds of ranges over functions. -/
set_option linter.unusedVariables false
set_option linter.unusedSimpArgs false
namespace Go.Abs

section
variable {P : Program} {call : CallF} {inl : FuncId → Bool} {k n d : Nat}

/-- The text of a deferred function that asks for a panic first. -/
def defTxt (P : Program) (inl : FuncId → Bool) (fn : Func) : Option (Option Tmp × List RI × RC) := match fn.body with
  | some (.seq (.region _ ops false) rest) => match isRecover ops with
    | some (dst, more) => match resIs P ops more with
      | some l => some (dst, l, resC P inl rest)
      | none => none
    | none => none
  | _ => none
def calmL (l : List RI) : Bool := l.all fun i => match i.op with | .dfr _ => false | _ => true

structure DefIs (P : Program) (inl : FuncId → Bool) (f : FuncId) (np nt d : Nat) (rs : List ResultVar) (dst : Option Tmp) (more : List RI) (rc : RC) : Prop where
  fn : ∃ fn, P.funcs[f]? = some fn ∧ defTxt P inl fn = some (dst, more, rc.erase) ∧ fn.ntmps = nt ∧ fn.results.toList = rs
  dep : Nat.log2 (nt + 1) + 1 = d
  par : np ≤ nt
  ok : (okR nt rc && (okD nt dst && (more.all fun i => okD nt i.dst))) = true
  calm : calmL more = true
  fine : fnOk P f = true

/-- What is deferred, carried out. -/
noncomputable def LeaveQ (P : Program) (call : CallF) (inl : FuncId → Bool) (rs : List ResultVar) (R : CRes → AHeap → Prop) (L : LT) : List DI → Md → AHeap → Prop
  | [], .ret, h => ∃ vs, resAL P L h rs = some vs ∧ R (.ret (tupA vs)) h
  | [], .pan v false, h => R (.pan v) h
  | [], .pan _ true, _ => False
  | .fn f args :: ds, u, h => fnOk P f = true ∧ ∃ u' h', evalDef P call (drawA P inl call) KK f args u h = some (u', h') ∧ LeaveQ P call inl rs R L ds (settleA u') h'
  | .col b :: ds, u, h => h[b]? = some .dfd ∧ LeaveQ P call inl rs R L ds u (h.set b .dead)

noncomputable def EndQ (P : Program) (call : CallF) (inl : FuncId → Bool) (rs : List ResultVar) (R : CRes → AHeap → Prop) : Ex → LS → Prop := fun ex s => match ex with
  | .norm | .ret => LeaveQ P call inl rs R s.L s.df .ret s.h
  | .pan v => LeaveQ P call inl rs R s.L s.df (.pan v false) s.h
  | _ => False

theorem leaveQ_sound {fn : Func} {rs : List ResultVar} {R : CRes → AHeap → Prop} {L : LT} {tm : Tm} (hrs : fn.results.toList = rs) (H : HasL n d L tm) : ∀ {ds : List DI} {u : Md} {h : AHeap}, LeaveQ P call inl rs R L ds u h →
    ∃ r h', leaveA P call (drawA P inl call) KK fn tm ds u h = some (r, h') ∧ R r h'
  | [], .ret, h, hq => by
    unfold LeaveQ at hq
    obtain ⟨vs, h1, h2⟩ := hq
    refine ⟨_, _, ?_, h2⟩
    unfold leaveA
    rw [retA_of (by rw [hrs]; exact resAL_sound H h1)]
    rfl
  | [], .pan v false, h, hq => by
    unfold LeaveQ at hq
    exact ⟨_, _, by unfold leaveA; rfl, hq⟩
  | [], .pan _ true, _, hq => by unfold LeaveQ at hq; exact hq.elim
  | .fn f args :: ds, u, h, hq => by
    unfold LeaveQ at hq
    obtain ⟨hf, u', h', h1, h2⟩ := hq
    unfold leaveA
    simp only [hf, h1]
    exact leaveQ_sound hrs H h2
  | .col b :: ds, u, h, hq => by
    unfold LeaveQ at hq
    unfold leaveA
    simp only [hq.1]
    exact leaveQ_sound hrs H hq.2

theorem body_wp2 {R : CRes → AHeap → Prop} {f : FuncId} {args : List AV} {h : AHeap} {rc : RC} {np nt d : Nat} {rs : List ResultVar} (F : FunIs P inl f np nt d rs rc) (hp : args.length = np)
    (W : Wp P call inl KK nt d rc ⟨paramL 0 args, h, []⟩ (EndQ P call inl rs R)) : ∃ r h', bodyA P call (drawA P inl call) KK f args h = some (r, h') ∧ R r h' := by
  obtain ⟨fn, hfn, hrc, hnt, hrs⟩ := F.fn
  cases hb : fn.body with
  | none => rw [hb] at hrc; cases hrc
  | some c =>
    rw [hb] at hrc
    have hrc' : resC P inl c = rc.erase := Option.some.inj hrc
    have hn : nt < 2 ^ d := by
      have := @Nat.lt_log2_self (nt + 1)
      have := F.dep
      subst this
      omega
    have Hs : HasL nt d (paramL 0 args) (startT fn args) := by
      subst hnt
      exact start_has F.dep (by rw [hp]; exact F.par)
    obtain ⟨ex, st', h1, L', h3, h2⟩ := Wp_sound hn rc F.ok W c hrc' (startT fn args) Hs
    unfold bodyA
    simp only [hfn, hb]
    simp only at h1
    rw [h1]
    cases ex with
    | norm => exact leaveQ_sound hrs h3 h2
    | ret => exact leaveQ_sound hrs h3 h2
    | pan v => exact leaveQ_sound hrs h3 h2
    | exit i => exact h2.elim
end

section
variable {P : Program} {n : Nat} {f : FuncId} {rc : RC} {args : List AV} {h : AHeap} {c : Cfg} {np nt d : Nat} {rs : List ResultVar}
/-- A function whose arguments are taken out of memory: with values. -/
theorem fun_cold {v : AV} (F : FunIs P c.inl f np nt d rs rc) (hi : c.inl f = true) (hk : c.cold f = true) (hl : args.length = np) (hp : pureBs args = true)
    (W : Wp P (CN P c n) c.inl KK nt d rc ⟨paramL 0 args, [], []⟩ (RetQ P rs fun v' h' => frz h' 64 v' = some v)) (hm : c.mem f args h = none := by rfl) : CN P c (n + 1) f args h = some (.ret v, h) := by
  have hlt : f < P.funcs.size := by
    obtain ⟨fn, hfn, _⟩ := F.fn
    rcases Nat.lt_or_ge f P.funcs.size with h | h
    · exact h
    · rw [Array.getElem?_eq_none h] at hfn; cases hfn
  obtain ⟨v', h', h1, h2⟩ := body_wp F hl W
  unfold CN callN
  simp only [hi, if_true, hm, hk, hp]
  rw [if_neg (Nat.not_le.2 hlt)]
  unfold pureA
  unfold CN at h1
  rw [h1]
  simp only [CRes.map?, h2, Option.map_some]
/-- The same, with what lies in memory. -/
theorem cold_mem {v : AV} {args' : List AV} (hi : c.inl f = true) (hk : c.cold f = true) (hlt : f < P.funcs.size) (hn : pureBs args = false) (ha : allM (frz h 64) args = some args') (hp : pureBs args' = true) (hv : CN P c (n + 1) f args' h = some (.ret v, h)) (hm : c.mem f args h = none) (hm' : c.mem f args' h = none) :
    CN P c (n + 1) f args h = some (.ret v, lockH h (args.flatMap (rchV h 64))) := by
  unfold CN callN at hv ⊢
  simp only [hi, if_true, hm, hm', hk, hp, hn, ha, Bool.false_eq_true, if_false] at hv ⊢
  rw [if_neg (Nat.not_le.2 hlt)] at hv ⊢
  cases hq : pureA P (callN P c (drawA P c.inl) KK n) (drawA P c.inl) KK f args' with
  | none => rw [hq] at hv; simp at hv
  | some r =>
    rw [hq] at hv
    simp only [Option.map_some, Option.some.injEq, Prod.mk.injEq] at hv ⊢
    exact ⟨hv.1, trivial⟩

/-- What leaves a memory of its own. -/
def OutR (r' : CRes) : CRes → AHeap → Prop
  | .ret v, h => ∃ w, frz h 64 v = some w ∧ r' = .ret w
  | .pan v, h => ∃ w, frz h 64 v = some w ∧ r' = .pan w
end

theorem cutS {P : Program} {call : CallF} {inl : FuncId → Bool} {k n d : Nat} (hn : n < 2 ^ d) {rc : RC} (ho : okR n rc = true) {Q : Ex → LS → Prop} {s : LS} (hw : Wp P call inl k n d rc s Q) : OkR P call inl k n d rc s Q := Wp_sound hn rc ho hw
theorem cvI {P : Program} {call : CallF} {g : FuncId} {args : List AV} {h h' : AHeap} {K X : AV → AHeap → Prop} {v : AV} (h0 : fnOk P g = true) (h1 : call g args h = some (.ret v, h')) (h2 : K v h') : fnOk P g = true ∧ ∃ r h', call g args h = some (r, h') ∧ WpR K X h' r := ⟨h0, .ret v, h', h1, h2⟩
end Go.Abs
/- Calls whose work in the caller's memory is known: sorting numbers, and dropping equal neighbours. -/
set_option linter.unusedVariables false
set_option linter.unusedSimpArgs false
namespace Go.Abs
open Go.Sort
def ints? : List AV → Option (List Int)
  | [] => some []
  | .int .i64 k :: r => (ints? r).map (k :: ·)
  | _ => none
theorem ints_map : ∀ {cs : List AV} {zs : List Int}, ints? cs = some zs → cs = zs.map (AV.int .i64)
  | [], zs, h => by cases h; rfl
  | .int .i64 k :: r, zs, h => by
    unfold ints? at h
    obtain ⟨ys, h1, h2⟩ := Option.map_eq_some_iff.1 h
    rw [← h2, ints_map h1]; rfl
theorem map_ints : ∀ zs : List Int, ints? (zs.map (AV.int .i64)) = some zs
  | [] => rfl
  | k :: r => by simp [ints?, map_ints r]
theorem VRs_ints {S : SM} {m : BM} : ∀ {zs : List Int} {vs : List Value}, VRs S m (zs.map (AV.int .i64)) vs ↔ vs = zs.map (Value.int .i64)
  | [], vs => by unfold VRs; simp
  | k :: r, vs => by
    simp only [List.map_cons]
    unfold VRs VR
    constructor
    · rintro ⟨v, vs', rfl, rfl, h⟩
      rw [VRs_ints.1 h]
    · rintro rfl
      exact ⟨_, _, rfl, rfl, VRs_ints.2 rfl⟩
section
variable {P : Program} {n₀ : Nat} {w₀ w : World} {S₀ S : SM} {m : BM} {h : AHeap} {b ver : Nat} {el' : Option TypeId} {zs : List Int}
theorem row_in (s : Sim n₀ w₀ S₀ S m h w) (hb : h[b]? = some (.cells ver el' (zs.map (AV.int .i64)) 0)) {B K : Nat} (hm : m b ver = some (B, K)) :
    ∃ vs el fz, w.heap[B]? = some (.cells vs el fz) ∧ vs.size = K ∧ vs.toList.take zs.length = zs.map (Value.int .i64) ∧ zs.length ≤ K ∧ Holds (Value.int .i64) w B 0 zs.toArray ∧ B < w.heap.size := by
  obtain ⟨B₁, K₁, el, vs, fz, a1, a2, a3, a4, a5, a6, a7, a8⟩ := s.blk b _ hb
  rw [hm] at a1; cases a1
  rw [List.length_map] at a5
  have e := VRs_ints.1 a5
  have hle : zs.length ≤ K := by
    have := congrArg List.length e
    simp at this
    omega
  have hBl : B < w.heap.size := (Array.getElem?_eq_some_iff.1 a3).1
  refine ⟨vs, el, fz, a3, a4, e, hle, fun j hj => ?_, hBl⟩
  have hj' : j < zs.length := by simpa using hj
  constructor
  · have hv : vs[j]? = some (.int .i64 zs[j]) := by
      have h1 : (vs.toList.take zs.length)[j]? = (zs.map (Value.int .i64))[j]? := by rw [e]
      rw [List.getElem?_take, if_pos hj', List.getElem?_map, List.getElem?_eq_getElem hj'] at h1
      simpa using h1
    unfold World.cell?
    simp only [a3, Nat.zero_add]
    rw [hv]
    simp [hj']
  · exact a7 _ (Nat.zero_le _) (by omega)
theorem heap_modify {w : World} {B : Nat} {vs vs' : Array Value} {el : TypeId} {fz : Nat × Nat} (h : w.heap[B]? = some (.cells vs el fz)) (n : Nat) {d : Array Int} (hv : vs' = putCells (Value.int .i64) 0 d vs) : (putRow (Value.int .i64) (Sort.ahead w n) B 0 d).heap = (w.setRow B vs').heap := by
  apply Array.ext_getElem?
  intro k
  by_cases e : k = B
  · subst e
    rw [setRow_heap w k vs vs' el fz h]
    unfold putRow mapBlock Sort.ahead
    simp only [Array.getElem?_modify, if_true, h, Option.map_some, onCells, hv]
  · rw [setRow_other w B k vs' e]
    unfold putRow mapBlock Sort.ahead
    simp only [Array.getElem?_modify, if_neg (fun q => e q.symm : ¬ B = k)]
theorem row_set (s : Sim n₀ w₀ S₀ S m h w) (hb : h[b]? = some (.cells ver el' (zs.map (AV.int .i64)) 0)) {B K : Nat} (hm : m b ver = some (B, K)) (zs' : List Int) (hl : zs'.length = zs.length) (n : Nat) (os : Array Obj) :
    ∃ m', m.le m' ∧ Sim n₀ w₀ S₀ S m' (h.set b (.cells ver el' (zs'.map (AV.int .i64)) 0)) (grow (putRow (Value.int .i64) (Sort.ahead w n) B 0 zs'.toArray) os) ∧ m' b ver = some (B, K) := by
  obtain ⟨vs, el, fz, a3, a4, e, hle, _, hBl⟩ := row_in s hb hm
  have hsz : (putCells (Value.int .i64) 0 zs'.toArray vs).size = vs.size := by simp [putCells]
  have hv : VRs S m (zs'.map (AV.int .i64)) ((putCells (Value.int .i64) 0 zs'.toArray vs).toList.take (zs'.map (AV.int .i64)).length) := by
    rw [VRs_ints, List.length_map]
    apply List.ext_getElem?
    intro j
    rw [List.getElem?_take, List.getElem?_map]
    by_cases hj : j < zs'.length
    · rw [if_pos hj, List.getElem?_eq_getElem hj]
      have hjv : j < vs.size := by omega
      simp [putCells, hj, hjv]
    · rw [if_neg hj, List.getElem?_eq_none (by omega)]; rfl
  obtain ⟨g1, g2⟩ := s.write hb hm a3 hsz hv (Nat.le_refl ver) (fun o ho => absurd ho (Nat.not_lt_zero _))
  have hh := heap_modify a3 n (d := zs'.toArray) rfl
  have g3 := g2.heap (w' := putRow (Value.int .i64) (Sort.ahead w n) B 0 zs'.toArray) hh ⟨rfl, rfl, rfl⟩
  refine ⟨m.put b ver (B, K), g1, g3.called (SM.le_refl _) (fun b o v hv => ?_) (fun b o v hv => .inl hv) (by simp [grow]) (fun c hc => ?_) ⟨rfl, rfl, rfl⟩, BM.put_eq _ _ _ _⟩
  · have h1 := g3.stable b o v hv
    have h2 := g3.bound hv
    unfold World.cell? at h1 ⊢
    simp only [grow]
    rw [Array.getElem?_append_left h2]
    exact h1
  · simp only [grow]
    rw [Array.getElem?_append_left hc]
theorem compactLe (zs : List Int) : (Lib.compact zs).length ≤ zs.length := by
  unfold Lib.compact Lib.compactUpTo
  rw [List.length_map]
  exact Nat.le_trans (List.length_filter_le _ _) (by simp)
/-- Sorting a list of numbers in memory. -/
def sortA (args : List AV) (h : AHeap) : Option (AV × AHeap) := match args with
  | [.sl 1 b ver 0 n] => match h[b]? with
    | some (.cells ver' el cs 0) => match ints? cs with
      | some zs => if ver' = ver ∧ zs.length = n ∧ n < 4611686018427387904 then some (.tup [], h.set b (.cells ver el ((zs.mergeSort fun x y => decide (x ≤ y)).map (AV.int .i64)) 0)) else none
      | none => none
    | _ => none
  | [.lst _ [] _] => some (.tup [], h)
  | _ => none
/-- Dropping equal neighbours. -/
def compA (args : List AV) (h : AHeap) : Option (AV × AHeap) := match args with
  | [.sl 1 b ver 0 n] => match h[b]? with
    | some (.cells ver' el cs 0) => match ints? cs with
      | some zs => if ver' = ver ∧ zs.length = n ∧ n < 4611686018427387904 then some (.sl 1 b ver 0 (Lib.compact zs).length, h.set b (.cells ver el ((Lib.compact zs ++ List.replicate (zs.length - (Lib.compact zs).length) 0).map (AV.int .i64)) 0)) else none
      | none => none
    | _ => none
  | [.lst sz [] c] => some (.lst sz [] c, h)
  | _ => none
def SortC (P : Program) (f : FuncId) : Prop := (∀ (p : Option Addr) (cap : Nat) (w : World), Calls P f #[.slice p 0 cap] w fun e w' => e = .returned (.tuple #[]) ∧ w' = w) ∧ ∀ (blk off cap : Nat) (zs : List Int) (w : World), Holds (Value.int .i64) w blk off zs.toArray → blk < w.heap.size → zs.length < 4611686018427387904 →
  Calls P f #[.slice (some ⟨blk, off, none⟩) zs.length cap] w fun e w' => e = .returned (.tuple #[]) ∧ ∃ n os, w' = grow (putRow (Value.int .i64) (Sort.ahead w n) blk off (zs.mergeSort fun x y => decide (x ≤ y)).toArray) os
def CompC (P : Program) (f : FuncId) : Prop := (∀ (p : Option Addr) (cap : Nat) (w : World), Calls P f #[.slice p 0 cap] w fun e w' => e = .returned (.slice p 0 cap) ∧ w' = w) ∧ ∀ (blk off cap : Nat) (zs : List Int) (w : World), Holds (Value.int .i64) w blk off zs.toArray → zs.length ≤ 9223372036854775807 → zs.length ≤ cap →
  Calls P f #[.slice (some ⟨blk, off, none⟩) zs.length cap] w fun e w' => e = .returned (.slice (some ⟨blk, off, none⟩) (Lib.compact zs).length cap) ∧ ∃ q, w' = putRow (Value.int .i64) (Sort.ahead w q) blk off (Lib.compact zs ++ List.replicate (zs.length - (Lib.compact zs).length) 0).toArray
theorem one_arg {S : SM} {m : BM} {x : AV} {vs : Array Value} (h : VRs S m [x] vs.toList) : ∃ v, vs = #[v] ∧ VR S m x v := by
  unfold VRs VRs at h
  obtain ⟨v, r, h1, h2, rfl⟩ := h
  exact ⟨v, by apply Array.toList_inj.1; rw [h1], h2⟩
theorem sort_ok {f : FuncId} (hc : SortC P f) {args : List AV} {v : AV} {h' : AHeap} (he : sortA args h = some (v, h')) {vs : Array Value} (s : Sim n₀ w₀ S₀ S m h w) (hv : VRs S m args vs.toList) : Calls P f vs w (CQ n₀ w₀ S₀ S m (.ret v) h') := by
  unfold sortA at he
  split at he
  · rename_i b ver n
    split at he
    · rename_i ver' el cs hb
      split at he
      · rename_i zs hz
        split at he
        · rename_i hq
          obtain ⟨rfl, rfl, hlt⟩ := hq
          cases he
          have := ints_map hz
          subst this
          obtain ⟨x, rfl, hx⟩ := one_arg hv
          unfold VR at hx
          obtain ⟨B, K, cap, hm, rfl, hcap, hK⟩ := hx
          obtain ⟨_, _, _, _, _, _, _, hH, hBl⟩ := row_in s hb hm
          refine (hc.2 B 0 cap zs w hH hBl hlt).mono fun e w' hq => ?_
          obtain ⟨rfl, k, os, rfl⟩ := hq
          obtain ⟨m', g1, g2, _⟩ := row_set s hb hm (zs.mergeSort fun x y => decide (x ≤ y)) (List.length_mergeSort zs) k os
          exact ⟨S, m', SM.le_refl _, g1, g2, .tuple #[], rfl, by unfold VR; exact ⟨#[], rfl, by unfold VRs; rfl⟩⟩
        · cases he
      · cases he
    · cases he
  · cases he
    obtain ⟨x, rfl, hx⟩ := one_arg hv
    unfold VR at hx
    obtain ⟨a, cap, rfl, _⟩ := hx
    refine (hc.1 _ _ w).mono fun e w' hq => ?_
    obtain ⟨rfl, rfl⟩ := hq
    exact ⟨S, m, SM.le_refl _, BM.le_refl _, s, .tuple #[], rfl, by unfold VR; exact ⟨#[], rfl, by unfold VRs; rfl⟩⟩
  · cases he
theorem comp_ok {f : FuncId} (hc : CompC P f) {args : List AV} {v : AV} {h' : AHeap} (he : compA args h = some (v, h')) {vs : Array Value} (s : Sim n₀ w₀ S₀ S m h w) (hv : VRs S m args vs.toList) : Calls P f vs w (CQ n₀ w₀ S₀ S m (.ret v) h') := by
  unfold compA at he
  split at he
  · rename_i b ver n
    split at he
    · rename_i ver' el cs hb
      split at he
      · rename_i zs hz
        split at he
        · rename_i hq
          obtain ⟨rfl, rfl, hlt⟩ := hq
          cases he
          have := ints_map hz
          subst this
          obtain ⟨x, rfl, hx⟩ := one_arg hv
          unfold VR at hx
          obtain ⟨B, K, cap, hm, rfl, hcap, hK⟩ := hx
          obtain ⟨_, _, _, _, _, _, _, hH, hBl⟩ := row_in s hb hm
          have hle := compactLe zs
          refine (hc.2 B 0 cap zs w hH (by omega) hcap).mono fun e w' hq => ?_
          obtain ⟨rfl, q, rfl⟩ := hq
          obtain ⟨m', g1, g2, g3⟩ := row_set s hb hm (Lib.compact zs ++ List.replicate (zs.length - (Lib.compact zs).length) 0) (by simp; omega) q #[]
          have e0 : ∀ w : World, grow w #[] = w := fun w => by simp [grow]
          rw [e0] at g2
          exact ⟨S, m', SM.le_refl _, g1, g2, _, rfl, by unfold VR; exact ⟨B, K, cap, g3, rfl, by omega, hK⟩⟩
        · cases he
      · cases he
    · cases he
  · cases he
    obtain ⟨x, rfl, hx⟩ := one_arg hv
    have hx' := hx
    unfold VR at hx
    obtain ⟨a, cap, rfl, _⟩ := hx
    refine (hc.1 _ _ w).mono fun e w' hq => ?_
    obtain ⟨rfl, rfl⟩ := hq
    exact ⟨S, m, SM.le_refl _, BM.le_refl _, s, _, rfl, hx'⟩
  · cases he
/-- A copy of an empty list. -/
def cloneA (args : List AV) (h : AHeap) : Option (AV × AHeap) := match args with
  | [.lst _ [] _] => some (.lst 1 [] true, h)
  | _ => none
def CloneC (P : Program) (f : FuncId) : Prop := (∀ (n c : Nat) (w : World), Calls P f #[.slice none n c] w fun e w' => e = .returned (.slice none 0 0) ∧ w' = w) ∧ ∀ (a : Addr) (c : Nat) (w : World),
  Calls P f #[.slice (some a) 0 c] w fun e w' => ∃ p, e = .returned (.slice p 0 0) ∧ Go.RowKit.Below w.heap.size w w'
theorem empty_lst {S : SM} {m : BM} {a : Option Addr} : VR S m (.lst 1 [] true) (.slice a 0 0) := by
  unfold VR
  exact ⟨a, 0, rfl, Nat.zero_le _, fun _ => ⟨rfl, fun q => by cases q⟩, fun q => (q rfl).elim⟩
theorem clone_ok {f : FuncId} (hc : CloneC P f) {args : List AV} {v : AV} {h' : AHeap} (he : cloneA args h = some (v, h')) {vs : Array Value} (s : Sim n₀ w₀ S₀ S m h w) (hv : VRs S m args vs.toList) : Calls P f vs w (CQ n₀ w₀ S₀ S m (.ret v) h') := by
  unfold cloneA at he
  split at he
  · cases he
    obtain ⟨x, rfl, hx⟩ := one_arg hv
    unfold VR at hx
    obtain ⟨a, cap, rfl, _⟩ := hx
    cases a with
    | none =>
      refine (hc.1 _ _ w).mono fun e w' hq => ?_
      obtain ⟨rfl, rfl⟩ := hq
      exact ⟨S, m, SM.le_refl _, BM.le_refl _, s, _, rfl, empty_lst⟩
    | some a =>
      refine (hc.2 _ _ w).mono fun e w' hq => ?_
      obtain ⟨p, rfl, hb⟩ := hq
      have g := s.called (w' := w') (SM.le_refl _) (fun b o v hv => ?_) (fun b o v hv => .inl hv) hb.size (fun c hc => hb.block c hc) ⟨hb.os, hb.output, hb.tape⟩
      · exact ⟨S, m, SM.le_refl _, BM.le_refl _, g, _, rfl, empty_lst⟩
      · have h1 := s.stable b o v hv
        have h2 := s.bound hv
        unfold World.cell? at h1 ⊢
        simp only at h1 ⊢
        rw [hb.block b h2]
        exact h1
  · cases he
end
/-- What is known of three functions of a program. -/
def memS (fS fC fK : FuncId) (f : FuncId) (args : List AV) (h : AHeap) : Option (AV × AHeap) := cond (Nat.beq f fS) (sortA args h) (cond (Nat.beq f fC) (compA args h) (cond (Nat.beq f fK) (cloneA args h) none))
theorem memS_ok {P : Program} {fS fC fK : FuncId} (hs : SortC P fS) (hc : CompC P fC) (hk : CloneC P fK) : MemOk P (memS fS fC fK) := fun f args h v h' he n₀ w₀ S₀ S m w vs s hv => by
  unfold memS at he
  cases e1 : Nat.beq f fS with
  | true =>
    have : f = fS := Nat.eq_of_beq_eq_true e1
    subst this
    rw [e1] at he
    exact sort_ok hs he s hv
  | false =>
    rw [e1] at he
    simp only [cond_false] at he
    cases e2 : Nat.beq f fC with
    | true =>
      have : f = fC := Nat.eq_of_beq_eq_true e2
      subst this
      rw [e2] at he
      exact comp_ok hc he s hv
    | false =>
      rw [e2] at he
      simp only [cond_false] at he
      cases e3 : Nat.beq f fK with
      | true =>
        have : f = fK := Nat.eq_of_beq_eq_true e3
        subst this
        rw [e3] at he
        exact clone_ok hk he s hv
      | false => rw [e3] at he; cases he
end Go.Abs
