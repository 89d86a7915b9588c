/- Contracts: few entries, entries that fit, the capacity. -/
import Derived.Test.YtfddiediieblhaaTd
set_option linter.unusedVariables false
set_option linter.unusedSimpArgs false
namespace Go.Proofs
open Go Go.Abs
def tiny (e : Entry) : Bool := decide (e.key.length ≤ 300) && decide (e.val.length ≤ 300)
def few (l : List Entry) : Bool := decide (l.length ≤ 100) && l.all tiny
theorem few_bad {l : List Entry} {j : Nat} (hj : j < l.length) (hb : tiny l[j] = false) : few l = false := by
  have : l.all tiny = false := by
    rw [List.all_eq_false]
    exact ⟨l[j], List.getElem_mem hj, by simp [hb]⟩
  simp [few, this]
theorem few_iff {l : List Entry} : few l = true ↔ l.length ≤ 100 ∧ ∀ e ∈ l, e.key.length ≤ 300 ∧ e.val.length ≤ 300 := by
  simp [few, tiny]
section
variable {n : Nat} {h : AHeap}
theorem few_loop {m : Nat} (l : List Entry) (sz : Nat) (hz : l ≠ [] → sz = 22) (c : Bool) {Q : Ex → LS → Prop} {s : LS}
    (hs : LS.sub ⟨[(0, .lst sz (l.map Entry.av) c), (3, i64 0)], [], []⟩ s)
    (hE : few l = decide (l.length ≤ 100) → ∀ L, lk L 0 = some (.lst sz (l.map Entry.av) c) → Q (.exit 0) ⟨L, [], []⟩) (hR : few l = false → ∀ L, lk L 2 = some (.bool false) → Q .ret ⟨L, [], []⟩) :
    OkR Try.prog (C m) cfg0.inl KK 33 6 (.loop (c11.lp 0)) s Q := by
  refine loopI (by decide) rfl (α := Nat) (fun x => ⟨[(0, .lst sz (l.map Entry.av) c), (3, i64 x)], [], []⟩)
    (fun x => (x ≤ l.length ∧ x ≤ 101) ∧ ∀ i (hi : i < l.length), i < x → tiny l[i] = true) (fun x => 101 - x) 0 hs ?_ ?_ ?_
  · exact ⟨⟨Nat.zero_le _, by omega⟩, fun i _ hi => absurd hi (Nat.not_lt_zero _)⟩
  · show 101 - 0 < KK; simp only [KK]; omega
  · rintro j ⟨⟨g1, g0⟩, g2⟩
    have ext : ∀ (hj : j < l.length), tiny l[j] = true → ∀ i (hi : i < l.length), i < j + 1 → tiny l[i] = true := fun hj hv i hi hi2 => by
      by_cases e : i = j
      · subst e; exact hv
      · exact g2 i hi (by omega)
    conv => whnf
    refine brd (fun b => ?_) (fun b => ?_)
    · have hj : j < l.length := by simp at b; omega
      conv => whnf
      refine brd (fun d => ?_) (fun d => ?_)
      · repeat' (conv => whnf); first
          | (exfalso; omega)
          | refine brd (fun _ => ?_) (fun _ => ?_)
          | refine ixL entry_cells hj hz ?_
          | refine zI (z := ((j + 1 : Nat) : Int)) (by rw [wrap_i64 (by omega) (by omega)]; rfl) ?_
          | refine hR (few_bad hj ?_) _ rfl
          | refine nxI (j + 1) ⟨⟨hj, by omega⟩, ext hj ?_⟩ (by omega) ⟨⟨rfl, rfl⟩, rfl, rfl⟩
        all_goals simp [tiny]; omega
      · conv => whnf
        refine hE ?_ _ rfl
        have : l.length > 100 := by omega
        simp [few, show ¬ l.length ≤ 100 by omega]
    · have hj : j = l.length := by simp at b; omega
      conv => whnf
      refine hE ?_ _ rfl
      have : l.all tiny = true := by
        rw [List.all_eq_true]
        intro e he
        obtain ⟨i, hi, rfl⟩ := List.getElem_of_mem he
        exact g2 i hi (by omega)
      simp [few, this]

theorem few_eq (hn : 1 ≤ n) (l : List Entry) (sz : Nat) (hz : l ≠ [] → sz = 22) (c : Bool) : C n 11 [.lst sz (l.map Entry.av) c] h = some (.ret (.bool (few l)), h) := by
  obtain ⟨m, rfl⟩ : ∃ m, n = m + 1 := ⟨n - 1, by omega⟩
  refine fun_pure F11 rfl rfl rfl (pure_lst entry_pure l rfl) ?_
  conv => whnf
  refine few_loop l sz hz c ⟨⟨rfl, rfl⟩, rfl, rfl⟩ (fun e L hk => ?_) (fun e L hk => ?_)
  · refine cutI (by decide) rfl (t := ⟨[(0, .lst sz (l.map Entry.av) c)], [], []⟩) ⟨hk, rfl, rfl⟩ ?_
    conv => whnf
    exact retP rfl (frz_bool (by rw [e]; simp; omega))
  · exact retK hk (frz_bool e.symm)

theorem capacity_eq (hn : 1 ≤ n) : C n 18 [] h = some (.ret (i64 496), h) := by
  obtain ⟨m, rfl⟩ : ∃ m, n = m + 1 := ⟨n - 1, by omega⟩
  refine fun_pure F18 rfl rfl rfl rfl ?_
  conv => whnf
  exact retP rfl (frz_int rfl)

def fits (l : List Entry) (lv : Int) : Bool := valid l lv && (match weight l lv with | some n => decide (n ≤ 496) | none => false)
theorem valid_iff {l : List Entry} {lv : Int} : valid l lv = true ↔ (0 ≤ lv ∧ lv ≤ 20) ∧ l ≠ [] ∧ (lv = 0 ∨ (2 ≤ l.length ∧ keyAt l 0 = [])) ∧ ∀ i, i < l.length → vAt lv l i = true := by
  simp [valid, within_iff, and_assoc]
theorem wsum_some {lv : Int} : ∀ {l : List Entry}, (∀ e ∈ l, weighB e lv = true) ↔ (∃ w, wsum lv l = some w)
  | [] => by simp [wsum]
  | e :: r => by
    simp only [List.mem_cons, forall_eq_or_imp, wsum]
    rw [wsum_some (l := r)]
    by_cases hw : weighB e lv = true
    · simp only [hw, if_true, true_and]
      constructor
      · rintro ⟨w, h⟩; exact ⟨_, by rw [h]; rfl⟩
      · rintro ⟨w, h⟩
        cases hr : wsum lv r with
        | none => rw [hr] at h; cases h
        | some x => exact ⟨x, rfl⟩
    · simp [hw]
theorem weigh_form {e : Entry} (hf : formOf e ≠ 0) : weighB e 0 = true := by
  have : formOf e = 0 ∨ formOf e = 1 ∨ formOf e = 2 ∨ formOf e = 3 := by
    unfold formOf
    repeat' (first | split)
    all_goals simp
  simp [weighB]; omega
theorem valid_weight {l : List Entry} {lv : Int} (hv : valid l lv = true) : ∃ w, weight l lv = some w := by
  obtain ⟨h1, h2, h3, h4⟩ := valid_iff.1 hv
  have : ∃ w, wsum lv l = some w := wsum_some.1 fun e he => by
    obtain ⟨j, hj, rfl⟩ := List.getElem_of_mem he
    have := h4 j hj
    rw [vAt_unf hj] at this
    by_cases e0 : lv = 0
    · subst e0
      simp at this
      exact weigh_form this.1
    · simp [e0] at this
      simp [weighB, show 0 < lv by omega, this.1.1]
  obtain ⟨w, hw⟩ := this
  exact ⟨6 + w, by simp [weight, hw, within_iff.2 h1]⟩
theorem fits_eq (hn : 6 ≤ n) (l : List Entry) (hl : l.length < 1099511627776) (he : ∀ e ∈ l, e.Ok) (lv : Int) (sz : Nat) (hz : l ≠ [] → sz = 22) (c : Bool) : C n 17 [.lst sz (l.map Entry.av) c, i64 lv] h = some (.ret (.bool (fits l lv)), h) := by
  obtain ⟨m, rfl⟩ : ∃ m, n = m + 1 := ⟨n - 1, by omega⟩
  refine fun_pure F17 rfl rfl rfl (pure_lst entry_pure l rfl) ?_
  conv => whnf
  refine clI (valid_eq (by omega) l hl lv sz hz c) ?_
  conv => whnf
  refine brn (fun a => ?_) (fun a => ?_)
  · conv => whnf
    exact retP rfl (frz_bool (by simp [fits, a]))
  · obtain ⟨w, hw⟩ := valid_weight a
    have e : weightR l lv = .tup [i64 w, i64 0] := by simp [weightR, hw]
    conv => whnf
    refine clI (Eq.trans (weight_eq (by omega) l hl he lv sz hz c) (by rw [e])) ?_
    conv => whnf
    exact retP rfl (frz_bool (by simp [fits, a, hw]))
end
end Go.Proofs
