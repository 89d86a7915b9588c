/- Texts put together: AbsS, AbsU, AbsV, AbsW. -/
import Derived.Test.YtalaebjjleddaaaGreatFbk5
import Derived.IntWalk
import Derived.Carry
import Derived.Handed
import Derived.JoinedOf
import Derived.OpenShut
import Derived.ShutString
import Derived.ChangeOld
import Derived.WalkKit
import Derived.ProofKit
import Derived.Sort.Row
import Derived.Sort.Grow
import Derived.Lib.SlicesCompact
import Derived.Laws.AppendOwn
/- Functions, with all that the program fixes looked up. -/
set_option linter.unusedVariables false
set_option linter.unusedSimpArgs false
namespace Go.Abs

abbrev Str := List UInt8
@[reducible] def u8 (b : UInt8) : AV := .int .u8 b.toNat
@[reducible] def i64 (n : Int) : AV := .int .i64 n
theorem br {b : Bool} {T F : Prop} (h1 : b = true → T) (h2 : b = false → F) : @Bool.rec (fun _ => Prop) F T b := by
  cases b
  · exact h2 rfl
  · exact h1 rfl

theorem brd {p : Prop} {i : Decidable p} {T F : Prop} (h1 : p → T) (h2 : ¬p → F) : @Bool.rec (fun _ => Prop) F T (@decide p i) := br (fun e => h1 (of_decide_eq_true e)) (fun e => h2 (of_decide_eq_false e))
theorem bre {α : Type} [i : BEq α] [LawfulBEq α] {a b : α} {T F : Prop} (h1 : a = b → T) (h2 : a ≠ b → F) : @Bool.rec (fun _ => Prop) F T (@BEq.beq α i a b) := br (fun e => h1 (eq_of_beq e)) (fun e => h2 fun q => by subst q; simp at e)
theorem brq {α : Type} [i : BEq α] [LawfulBEq α] {a b : α} {T F : Prop} (h1 : a ≠ b → T) (h2 : a = b → F) : @Bool.rec (fun _ => Prop) F T (@bne α i a b) := br (fun e => h1 (by intro q; subst q; simp at e)) (fun e => h2 (by simpa using e))
theorem ldI {h : AHeap} {b ver : Nat} {q : Option TypeId → List AV → Nat → Prop} {el : Option TypeId} {cs : List AV} {frz : Nat} (h1 : h[b]? = some (.cells ver el cs frz)) (h2 : q el cs frz) : ∃ el cs frz, h[b]? = some (.cells ver el cs frz) ∧ q el cs frz := ⟨el, cs, frz, h1, h2⟩
theorem stI {h : AHeap} {b ver o sz : Nat} {v : AV} {q : Option TypeId → List AV → Nat → List AV → Prop} {el : Option TypeId} {cs xs : List AV} {frz : Nat} (h1 : h[b]? = some (.cells ver el cs frz)) (h2 : v.cells? = some xs) (h3 : xs.length = sz) (h4 : Nat.ble (o + xs.length) cs.length = true) (h5 : Nat.ble frz o = true)
    (h6 : q el cs frz xs) : ∃ el cs frz xs, h[b]? = some (.cells ver el cs frz) ∧ v.cells? = some xs ∧ xs.length = sz ∧ o + xs.length ≤ cs.length ∧ frz ≤ o ∧ q el cs frz xs :=
  ⟨el, cs, frz, xs, h1, h2, h3, Nat.le_of_ble_eq_true h4, Nat.le_of_ble_eq_true h5, h6⟩
theorem get_last (h : AHeap) (x : AB) : (h ++ [x])[h.length]? = some x := by simp
theorem strI {i : Int} {s : List UInt8} {b : UInt8} {q : UInt8 → Prop} (h0 : 0 ≤ i) (h1 : s[i.toNat]? = some b) (h2 : q b) : 0 ≤ i ∧ ∃ b, s[i.toNat]? = some b ∧ q b := ⟨h0, b, h1, h2⟩
theorem clI {call : CallF} {g : FuncId} {args : List AV} {h h' : AHeap} {K X : AV → AHeap → Prop} {v : AV} (h1 : call g args h = some (.ret v, h')) (h2 : K v h') : ∃ r h', call g args h = some (r, h') ∧ WpR K X h' r := ⟨.ret v, h', h1, h2⟩
theorem remI {a b z : Int} {q : Int → Prop} (h0 : b ≠ 0) (h1 : a.tmod b = z) (h2 : q z) : b ≠ 0 ∧ ∃ z, a.tmod b = z ∧ q z := ⟨h0, z, h1, h2⟩
theorem zI {k : IntKind} {x z : Int} {q : Int → Prop} (h1 : k.wrap x = z) (h2 : q z) : ∃ z, k.wrap x = z ∧ q z := ⟨z, h1, h2⟩
theorem eqI {P : Program} {t : TypeId} {a b : AV} {r : Bool} {q : Bool → Prop} (h1 : eqA P 20 t a b = some r) (h2 : q r) : ∃ r, eqA P 20 t a b = some r ∧ q r := ⟨r, h1, h2⟩

theorem slI {sz : Nat} {x v : AV} {l u m : Option Int} {q : AV → Prop} (h1 : sliceA sz x l u m = some v) (h2 : q v) : ∃ v, sliceA sz x l u m = some v ∧ q v := ⟨v, h1, h2⟩
theorem nxI {α : Type} {S : α → LS} {I : α → Prop} {μ : α → Nat} {k : Nat} {s : LS} (y : α) (h1 : I y) (h2 : μ y < k) (h3 : LS.sub (S y) s) : ∃ y, I y ∧ μ y < k ∧ LS.sub (S y) s := ⟨y, h1, h2, h3⟩

/-- The loops of a text, in order. -/
def RC.loops : RC → List RC
  | .seq a b => a.loops ++ b.loops
  | .cond _ a b => a.loops ++ b.loops
  | .block _ c => c.loops
  | .loop c => c :: c.loops
  | .rangeF _ _ a b => a.loops ++ b.loops
  | .cut c => c.loops
  | _ => []
def RC.lp (c : RC) (i : Nat) : RC := match c.loops[i]? with
  | some c => c
  | none => .skip

/-- How many rounds a loop may take. -/
abbrev KK : Nat := 18446744073709551616

/-- Calls, with the loops' bound. -/
noncomputable def CN (P : Program) (c : Cfg) (n : Nat) : CallF := callN P c (drawA P c.inl) KK n
theorem wpartI {K : AV → Prop} {o : Option AV} {v : AV} (h1 : o = some v) (h2 : K v) : WPart K o := by subst h1; exact h2

/-- The results, looked up. -/
noncomputable def resAL (P : Program) (L : LT) (h : AHeap) : List ResultVar → Option (List AV)
  | [] => some []
  | .tmp t :: r => match lk L t with
    | some v => match resAL P L h r with
      | some vs => some (v :: vs)
      | none => none
    | none => none
  | .cell a t :: r => match lk L a with
    | some p => match loadA P h t p with
      | some v => match resAL P L h r with
        | some vs => some (v :: vs)
        | none => none
      | none => none
    | none => none

def tupA : List AV → AV
  | [v] => v
  | vs => .tup vs

noncomputable def RetQ (P : Program) (rs : List ResultVar) (R : AV → AHeap → Prop) : Ex → LS → Prop := fun ex s => match ex with
  | .norm | .ret => s.df = [] ∧ ∃ vs, resAL P s.L s.h rs = some vs ∧ R (tupA vs) s.h
  | _ => False

theorem frz_bool {h : AHeap} {b c : Bool} (e : b = c) : frz h 64 (.bool b) = some (.bool c) := by subst e; rfl
theorem frz_int {h : AHeap} {k : IntKind} {b c : Int} (e : b = c) : frz h 64 (.int k b) = some (.int k c) := by subst e; rfl
theorem allM_id {f : AV → Option AV} : ∀ {xs : List AV}, (∀ x ∈ xs, f x = some x) → allM f xs = some xs
  | [], _ => rfl
  | x :: xs, h => by
    unfold allM
    rw [h x (List.mem_cons_self ..), allM_id fun y hy => h y (List.mem_cons_of_mem _ hy)]
/-- Values that are kept as they are. -/
def FrzOk (n : Nat) (x : AV) : Prop := ∀ h, frz h n x = some x
theorem frzOk_agg {n : Nat} {xs : List AV} (hx : ∀ x ∈ xs, FrzOk n x) : FrzOk (n + 1) (.agg xs) := fun h => by
  unfold frz; simp only; rw [allM_id fun x hx' => hx x hx' h]; rfl
theorem frzOk_int {n : Nat} {k : IntKind} {i : Int} : FrzOk (n + 1) (.int k i) := fun h => rfl
theorem retP {P : Program} {rs : List ResultVar} {L : LT} {h : AHeap} {vs : List AV} {v : AV} (h1 : resAL P L h rs = some vs) (h2 : frz h 64 (tupA vs) = some v) : ([] : List DI) = [] ∧ ∃ vs, resAL P L h rs = some vs ∧ frz h 64 (tupA vs) = some v := ⟨rfl, vs, h1, h2⟩

section
variable {P : Program} {inl : FuncId → Bool} {n : Nat} {f : FuncId} {fn : Func} {rc : RC} {args : List AV} {v : AV} {h h' : AHeap}

theorem resAL_sound {L : LT} {tm : Tm} {n d : Nat} (H : HasL n d L tm) : ∀ {rs : List ResultVar} {vs : List AV}, resAL P L h rs = some vs → resA P tm h rs = some vs
  | [], vs, hr => by cases hr; rfl
  | .tmp t :: r, vs, hr => by
    unfold resAL at hr
    split at hr
    · rename_i v hv
      split at hr
      · rename_i vs' hvs
        cases hr
        unfold resA
        rw [resAL_sound H hvs, H.2 _ _ hv]
        rfl
      · cases hr
    · cases hr
  | .cell a t :: r, vs, hr => by
    unfold resAL at hr
    split at hr
    · rename_i p hp
      split at hr
      · rename_i v hv
        split at hr
        · rename_i vs' hvs
          cases hr
          unfold resA
          rw [resAL_sound H hvs, H.2 _ _ hp, hv]
        · cases hr
      · cases hr
    · cases hr

theorem retA_of {tm : Tm} {vs : List AV} (h1 : resA P tm h fn.results.toList = some vs) : retA P fn tm h = some (tupA vs) := by
  unfold retA
  rw [h1]
  cases vs with
  | nil => rfl
  | cons a r => cases r <;> rfl

/-- The parameters. -/
def paramL : Nat → List AV → LT
  | _, [] => []
  | i, v :: r => (i, v) :: paramL (i + 1) r

theorem Tr.shape_full : ∀ d, Tr.shape d (Tr.full d) = true
  | 0 => rfl
  | d + 1 => by simp [Tr.full, Tr.shape, Tr.shape_full d]

theorem setL_get {n d : Nat} (hn : n < 2 ^ d) : ∀ {args : List AV} {i : Nat} {tm : Tm}, tm.n = n → Tr.shape d tm.t = true → i + args.length ≤ n →
    (Tm.setL args i tm).n = n ∧ Tr.shape d (Tm.setL args i tm).t = true ∧ (∀ j v, lk (paramL i args) j = some v → (Tm.setL args i tm).get j = v) ∧ ∀ j, j < i → (Tm.setL args i tm).get j = tm.get j
  | [], i, tm, h1, h2, h3 => ⟨h1, h2, fun j v h => (by cases h), fun _ _ => rfl⟩
  | a :: r, i, tm, h1, h2, h3 => by
    simp only [List.length_cons] at h3
    have H : HasL n d [] tm := ⟨⟨h1, h2⟩, fun i v h => by cases h⟩
    have H' := H.put hn (dst := some i) (by show Nat.blt i n = true; rw [Nat.blt_eq]; omega) a
    obtain ⟨g1, g2, g3, g4⟩ := setL_get hn (args := r) (i := i + 1) H'.1.1 H'.1.2 (by omega)
    refine ⟨g1, g2, fun j v hj => ?_, fun j hj => ?_⟩
    · change cond (Nat.beq j i) (some a) (lk (paramL (i + 1) r) j) = some v at hj
      cases hq : Nat.beq j i with
      | true =>
        rw [hq] at hj
        cases hj
        have : j = i := Nat.eq_of_beq_eq_true hq
        subst this
        show (Tm.setL r (j + 1) (putT tm (some j) a)).get j = a
        rw [g4 j (by omega)]
        exact H'.2 j a (by show cond (Nat.beq j j) (some a) _ = some a; rw [show Nat.beq j j = true from Nat.beq_refl j]; rfl)
      | false => rw [hq] at hj; exact g3 j v hj
    · show (Tm.setL r (i + 1) (putT tm (some i) a)).get j = tm.get j
      rw [g4 j (by omega)]
      exact Tm.get_set_ne _ _ (by omega)

theorem start_has {d : Nat} (hd : Nat.log2 (fn.ntmps + 1) + 1 = d) (hl : args.length ≤ fn.ntmps) : HasL fn.ntmps d (paramL 0 args) (startT fn args) := by
  have hn : fn.ntmps < 2 ^ d := by
    subst hd
    have := @Nat.lt_log2_self (fn.ntmps + 1)
    omega
  have e : args.length + (fn.ntmps - args.length) = fn.ntmps := by omega
  unfold startT
  rw [e]
  obtain ⟨g1, g2, g3, _⟩ := setL_get hn (args := args) (i := 0) (tm := Tm.new fn.ntmps) rfl (by unfold Tm.new; rw [hd]; exact Tr.shape_full d) (by omega)
  exact ⟨⟨g1, g2⟩, g3⟩

/-- What a function's text says, looked up. -/
structure FunIs (P : Program) (inl : FuncId → Bool) (f : FuncId) (np nt d : Nat) (rs : List ResultVar) (rc : RC) : Prop where
  fn : ∃ fn, P.funcs[f]? = some fn ∧ fn.body.map (resC P inl) = some rc.erase ∧ fn.ntmps = nt ∧ fn.results.toList = rs
  dep : Nat.log2 (nt + 1) + 1 = d
  par : np ≤ nt
  ok : okR nt rc = true

theorem body_wp {call : CallF} {R : AV → AHeap → Prop} {np nt d : Nat} {rs : List ResultVar} (F : FunIs P inl f np nt d rs rc) (hp : args.length = np)
    (W : Wp P call inl KK nt d rc ⟨paramL 0 args, h, []⟩ (RetQ P rs R)) : ∃ v h', bodyA P call (drawA P inl call) KK f args h = some (.ret v, h') ∧ R v h' := by
  obtain ⟨fn, hfn, hrc, hnt, hrs⟩ := F.fn
  cases hb : fn.body with
  | none => rw [hb] at hrc; cases hrc
  | some c =>
    rw [hb] at hrc
    have hrc' : resC P inl c = rc.erase := Option.some.inj hrc
    have hn : nt < 2 ^ d := by
      have := @Nat.lt_log2_self (nt + 1)
      have := F.dep
      subst this
      omega
    have Hs : HasL nt d (paramL 0 args) (startT fn args) := by
      subst hnt
      exact start_has F.dep (by rw [hp]; exact F.par)
    obtain ⟨ex, st', h1, L', h3, h2⟩ := Wp_sound hn rc F.ok W c hrc' (startT fn args) Hs
    unfold bodyA
    simp only [hfn, hb]
    simp only at h1
    rw [h1]
    cases ex with
    | norm =>
      obtain ⟨h4, vs, h5, h6⟩ := h2
      simp only
      simp only at h4
      rw [h4]
      unfold leaveA
      refine ⟨tupA vs, st'.h, ?_, h6⟩
      rw [retA_of (by rw [hrs]; exact resAL_sound h3 h5)]
      rfl
    | ret =>
      obtain ⟨h4, vs, h5, h6⟩ := h2
      simp only
      simp only at h4
      rw [h4]
      unfold leaveA
      refine ⟨tupA vs, st'.h, ?_, h6⟩
      rw [retA_of (by rw [hrs]; exact resAL_sound h3 h5)]
      rfl
    | exit i => exact h2.elim
    | pan v => exact h2.elim

/-- A function that works in memory of its own. -/
theorem fun_pure {c : Cfg} {np nt d : Nat} {rs : List ResultVar} (F : FunIs P c.inl f np nt d rs rc) (hi : c.inl f = false) (hs : c.sum f args = none) (hl : args.length = np) (hp : pureBs args = true)
    (W : Wp P (CN P c n) c.inl KK nt d rc ⟨paramL 0 args, [], []⟩ (RetQ P rs fun v' h' => frz h' 64 v' = some v)) : CN P c (n + 1) f args h = some (.ret v, h) := by
  have hlt : f < P.funcs.size := by
    obtain ⟨fn, hfn, _⟩ := F.fn
    rcases Nat.lt_or_ge f P.funcs.size with h | h
    · exact h
    · rw [Array.getElem?_eq_none h] at hfn; cases hfn
  obtain ⟨v', h', h1, h2⟩ := body_wp F hl W
  unfold CN callN
  simp only [hi, hs, Bool.false_eq_true, if_false, hp, hlt, decide_true, Bool.and_self, if_true]
  unfold pureA
  unfold CN at h1
  rw [h1]
  simp only [CRes.map?, h2, Option.map_some]

/-- A function that works in its caller's memory. -/
theorem fun_inl {c : Cfg} {np nt d : Nat} {rs : List ResultVar} (F : FunIs P c.inl f np nt d rs rc) (hi : c.inl f = true) (hl : args.length = np)
    (W : Wp P (CN P c n) c.inl KK nt d rc ⟨paramL 0 args, h, []⟩ (RetQ P rs fun v' h'' => v' = v ∧ h'' = h')) (hm : c.mem f args h = none := by rfl) (hk : c.cold f = false := by rfl) : CN P c (n + 1) f args h = some (.ret v, h') := by
  have hlt : f < P.funcs.size := by
    obtain ⟨fn, hfn, _⟩ := F.fn
    rcases Nat.lt_or_ge f P.funcs.size with h | h
    · exact h
    · rw [Array.getElem?_eq_none h] at hfn; cases hfn
  obtain ⟨v', h'', h1, h2, h3⟩ := body_wp F hl W
  subst h2 h3
  unfold CN callN
  simp only [hi, if_true, hm, hk, Bool.false_eq_true, if_false]
  rw [if_neg (Nat.not_le.2 hlt)]
  exact h1

/-- A call whose result is known. -/
theorem fun_sum {c : Cfg} (hi : c.inl f = false) (hlt : f < P.funcs.size) (hs : c.sum f args = some v) (hp : pureBs args = true) : CN P c (n + 1) f args h = some (.ret v, h) := by
  unfold CN callN
  simp only [hi, hs, Bool.false_eq_true, if_false, hp, hlt, decide_true, Bool.and_self, if_true]

theorem wrap_i64 {z : Int} (h1 : -9223372036854775808 ≤ z) (h2 : z < 9223372036854775808) : IntKind.i64.wrap z = z := IntWalk.i64_in z ⟨h1, by omega⟩
end
end Go.Abs
/- From calls of the small machine to the rows of laws. -/
set_option linter.unusedVariables false
set_option linter.unusedSimpArgs false
namespace Go.Abs
open Go.ChangeShapes Go.WideShapes Go.ChangeAt Go.RowKit

/-- All cells of a world. -/
def cellsW (W : World) : SM := fun b o => W.cell? ⟨b, o, none⟩

section
variable {H : Type} {enc : TypeId × Value → H} {P : Program} {W W' : World}

theorem trodAll_lt {sp : Nat → Bool} : ∀ {ts : List TypeId} {vs : List Value} {ds : List (DataW H)} {p : List MemPlace}, DataW.TrodAll enc P W 0 sp true ts vs ds p → ∀ x ∈ p, x.block < W.heap.size
  | [], vs, ds, p, h => by
    obtain ⟨_, _, rfl⟩ := trodAll_nil h
    intro x hx; cases hx
  | t :: ts, vs, ds, p, h => by
    obtain ⟨v, vs', d, ds', p', q, rfl, rfl, rfl, h1, h2⟩ := trodAll_cons h
    intro x hx
    rcases List.mem_append.1 hx with hx | hx
    · obtain ⟨m, hm⟩ := h1; exact DataW.trod_lt m _ _ _ hm x hx
    · exact trodAll_lt h2 x hx

theorem trodAll_stays (hl : laidOutB P = true) (hb : Below W.heap.size W W') : ∀ {ts : List TypeId} {vs : List Value} {ds : List (DataW H)} {p : List MemPlace}, (ts.all fun t => P.readableRec t && decide (t < P.types.size)) = true → DataW.TrodAll enc P W 0 (fun _ => true) true ts vs ds p →
    DataW.TrodAll enc P W' 0 (fun b => decide (b < W.heap.size)) true ts vs ds p
  | [], vs, ds, p, _, h => by
    obtain ⟨rfl, rfl, rfl⟩ := trodAll_nil h
    exact trodAll_mk0
  | t :: ts, vs, ds, p, hty, h => by
    simp only [List.all_cons, Bool.and_eq_true, decide_eq_true_eq] at hty
    have hlt := trodAll_lt h
    obtain ⟨v, vs', d, ds', p', q, rfl, rfl, rfl, h1, h2⟩ := trodAll_cons h
    exact trodAll_cons_mk (Below.trod hl hty.1.1 hty.1.2 h1 hb fun x hx => hlt x (List.mem_append_left _ hx)) (trodAll_stays hl hb hty.2 h2)

theorem trodAll_len {sp : Nat → Bool} : ∀ {ts : List TypeId} {vs : List Value} {ds : List (DataW H)} {p : List MemPlace}, DataW.TrodAll enc P W 0 sp true ts vs ds p → ds.length = ts.length
  | [], vs, ds, p, h => by obtain ⟨_, rfl, _⟩ := trodAll_nil h; rfl
  | t :: ts, vs, ds, p, h => by
    obtain ⟨v, vs', d, ds', p', q, rfl, rfl, rfl, h1, h2⟩ := trodAll_cons h
    simp [trodAll_len h2]

/-- A law's call, read as a row reads it. -/
theorem law_call {f : FuncId} {fn : Func} {s : ChangeSpec} {tb : TypeId} (hl : laidOutB P = true) (hty : (fn.params.toList.all fun t => P.readableRec t && decide (t < P.types.size)) = true) (hres : fn.resultTypes = #[tb]) (htb : P.underlying tb = some .bool) (hvars : s.vars = [])
    (hs : ∀ (ds : List (DataW H)), ds.length = fn.params.size → s.fn H ds = { results := [.lit (.bool true)], args := ds }) {args : Array Value} {ds gs : List (DataW H)} {before : List MemPlace}
    (hW : DataW.Whole enc P fn.params.toList s.vars false W args.toList ds gs before) {as : List AV} (hv : VRs (cellsW W) noBM as args.toList) (hp : PureCalls P f as (.ret (.bool true))) :
    Calls P f args W fun e W' => ∃ v, e = .returned v ∧ s.post enc P fn false true false false W args v W' := by
  refine (hp (cellsW W) W args (fun b o v h => h) hv).mono fun e W' hq => ?_
  obtain ⟨S', g1, g2, g3, g4, g5, genv, u, e1, h1⟩ := hq
  unfold VR at h1
  subst h1
  have bel : Below W.heap.size W W' := ⟨genv.1, genv.2.2, genv.2.1, g4, g5⟩
  have hW' := hW
  obtain ⟨p, q, hA0, hV, rfl, hfz, hnd⟩ := hW
  have hA : DataW.TrodAll enc P W 0 (fun _ => true) true fn.params.toList args.toList ds p := hA0
  rw [hvars] at hV
  obtain ⟨rfl, rfl⟩ := trodVars_none hV
  have hlen : ds.length = fn.params.size := by rw [trodAll_len hA]; simp
  have hsp := hs (ds ++ []) (by simpa using hlen)
  refine ⟨.bool true, e1, ds, [], _, [], p, [], hW', ?_, ?_, ?_, bel.frame _, fun h => by cases h⟩
  · rw [hsp, hres]; exact trodAll_mk1 (shut_bool htb _)
  · rw [hsp]; simp only [List.append_nil]; exact trodAll_stays hl bel hty hA
  · rw [hsp, hvars]; exact rfl
end

section
variable {H : Type} {enc : TypeId × Value → H} {P : Program} {W : World} {base : Nat} {sp : Nat → Bool} {held : Bool} {fuel : Nat} {t : TypeId} {cs : List Value} {x : DataW H × List MemPlace}

theorem rd_int {k : IntKind} (ht : P.underlying t = some (.int k)) (h : DataW.trod enc P W base sp held fuel t cs = some x) : ∃ n, cs = [.int k n] ∧ (Lit.int k n).wf = true := by
  cases fuel with
  | zero => simp [DataW.trod] at h
  | succ n =>
    unfold DataW.trod at h
    rw [ht] at h
    split at h <;> simp_all
theorem rd_u8 (ht : P.underlying t = some (.int .u8)) (h : DataW.trod enc P W base sp held fuel t cs = some x) : ∃ b : UInt8, cs = [.int .u8 b.toNat] := by
  obtain ⟨n, rfl, hw⟩ := rd_int ht h
  refine ⟨UInt8.ofNat n.toNat, ?_⟩
  have h2 : 0 ≤ n ∧ n ≤ 255 := by simpa [Lit.wf, IntKind.min, IntKind.max, IntKind.signed, IntKind.bits] using hw
  have : (UInt8.ofNat n.toNat).toNat = n.toNat := by
    rw [UInt8.toNat_ofNat']; omega
  rw [this]
  congr 1
  congr 1
  omega

theorem VRs_get {S : SM} {m : BM} : ∀ {as : List AV} {vs : List Value}, as.length = vs.length → (∀ (i : Nat) (a : AV) (v : Value), as[i]? = some a → vs[i]? = some v → VR S m a v) → VRs S m as vs
  | [], [], _, _ => by unfold VRs; rfl
  | [], _ :: _, h, _ => by simp at h
  | _ :: _, [], h, _ => by simp at h
  | a :: as, v :: vs, h, hv => by
    unfold VRs
    exact ⟨v, vs, rfl, hv 0 a v rfl rfl, VRs_get (by simpa using h) fun i b u h1 h2 => hv (i + 1) b u (by simpa using h1) (by simpa using h2)⟩
theorem VRs_app {S : SM} {m : BM} : ∀ {as : List AV} {bs : List AV} {vs us : List Value}, VRs S m as vs → VRs S m bs us → VRs S m (as ++ bs) (vs ++ us)
  | [], bs, vs, us, h, k => by unfold VRs at h; subst h; exact k
  | a :: as, bs, vs, us, h, k => by
    unfold VRs at h
    obtain ⟨v, vs', rfl, h1, h2⟩ := h
    show VRs S m (a :: (as ++ bs)) (v :: vs' ++ us)
    unfold VRs
    exact ⟨v, vs' ++ us, rfl, h1, VRs_app h2 k⟩
theorem VRs_one {S : SM} {m : BM} {a : AV} {v : Value} (h : VR S m a v) : VRs S m [a] [v] := by unfold VRs; exact ⟨v, [], rfl, h, by unfold VRs; rfl⟩

end

/-- Calls in memory of their own. -/
theorem pure_of_CN {P : Program} {c : Cfg} {n : Nat} {f : FuncId} {args : List AV} {v : AV} (hsum : SumOk P c) (hinl : c.inl f = false) (h : CN P c (n + 1) f args [] = some (.ret v, [])) : PureCalls P f args (.ret v) := by
  unfold CN callN at h
  simp only [hinl, Bool.false_eq_true, if_false] at h
  split at h
  · split at h
    · rename_i u hu
      cases h
      exact hsum.1 _ _ _ hu
    · cases hp : pureA P (callN P c (drawA P c.inl) KK n) (drawA P c.inl) KK f args with
      | none => rw [hp] at h; cases h
      | some r =>
        rw [hp] at h
        cases h
        exact pureA_sound (callN_sound hsum (drawsOk P c.inl) KK n) (callN_apart P c (drawA P c.inl) KK n) (drawsOk P c.inl) hp
  · cases h
end Go.Abs
/- How functions end: deferred calls, panics that are recovered; rounds of ranges over functions. -/
set_option linter.unusedVariables false
set_option linter.unusedSimpArgs false
namespace Go.Abs

section
variable {P : Program} {call : CallF} {inl : FuncId → Bool} {k n d : Nat}

/-- The text of a deferred function that asks for a panic first. -/
def defTxt (P : Program) (inl : FuncId → Bool) (fn : Func) : Option (Option Tmp × List RI × RC) := match fn.body with
  | some (.seq (.region _ ops false) rest) => match isRecover ops with
    | some (dst, more) => match resIs P ops more with
      | some l => some (dst, l, resC P inl rest)
      | none => none
    | none => none
  | _ => none
def calmL (l : List RI) : Bool := l.all fun i => match i.op with | .dfr _ => false | _ => true

structure DefIs (P : Program) (inl : FuncId → Bool) (f : FuncId) (np nt d : Nat) (rs : List ResultVar) (dst : Option Tmp) (more : List RI) (rc : RC) : Prop where
  fn : ∃ fn, P.funcs[f]? = some fn ∧ defTxt P inl fn = some (dst, more, rc.erase) ∧ fn.ntmps = nt ∧ fn.results.toList = rs
  dep : Nat.log2 (nt + 1) + 1 = d
  par : np ≤ nt
  ok : (okR nt rc && (okD nt dst && (more.all fun i => okD nt i.dst))) = true
  calm : calmL more = true
  fine : fnOk P f = true

end

section
variable {P : Program} {n : Nat} {f : FuncId} {rc : RC} {args : List AV} {h : AHeap} {c : Cfg} {np nt d : Nat} {rs : List ResultVar}
end

theorem cvI {P : Program} {call : CallF} {g : FuncId} {args : List AV} {h h' : AHeap} {K X : AV → AHeap → Prop} {v : AV} (h0 : fnOk P g = true) (h1 : call g args h = some (.ret v, h')) (h2 : K v h') : fnOk P g = true ∧ ∃ r h', call g args h = some (r, h') ∧ WpR K X h' r := ⟨h0, .ret v, h', h1, h2⟩
end Go.Abs
/- Calls whose work in the caller's memory is known: sorting numbers, and dropping equal neighbours. -/
set_option linter.unusedVariables false
set_option linter.unusedSimpArgs false
namespace Go.Abs
open Go.Sort
section
variable {P : Program} {n₀ : Nat} {w₀ w : World} {S₀ S : SM} {m : BM} {h : AHeap} {b ver : Nat} {el' : Option TypeId} {zs : List Int}
end
end Go.Abs
