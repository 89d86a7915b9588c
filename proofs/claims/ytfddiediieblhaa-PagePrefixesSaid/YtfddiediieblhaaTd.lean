/- Contracts of functions of a page: valid entries. -/
import Derived.Test.YtfddiediieblhaaTc
set_option linter.unusedVariables false
set_option linter.unusedSimpArgs false
namespace Go.Proofs
open Go Go.Abs
instance : Inhabited Entry := ⟨⟨[], [], 0, 0, 0, 0, Dg.zero⟩⟩

def keyAt (l : List Entry) (j : Nat) : Str := (l.getD j default).key
/-- An entry is valid, behind those in front of it. -/
def vAt (lv : Int) (l : List Entry) (j : Nat) : Bool :=
  (if lv = 0 then formOf (l.getD j default) != 0 else branches (l.getD j default) && (j == 0 || keyAt l j != [])) && (j == 0 || decide (cmpS (keyAt l (j - 1)) (keyAt l j) < 0))
def valid (l : List Entry) (lv : Int) : Bool :=
  within lv 0 20 && l != [] && (lv == 0 || (decide (2 ≤ l.length) && keyAt l 0 == [])) && (List.range l.length).all (vAt lv l)

theorem valid_bad {l : List Entry} {lv : Int} {j : Nat} (hj : j < l.length) (hb : vAt lv l j = false) : valid l lv = false := by
  have : (List.range l.length).all (vAt lv l) = false := by
    rw [List.all_eq_false]
    exact ⟨j, List.mem_range.2 hj, by simp [hb]⟩
  simp [valid, this]
theorem valid_good {l : List Entry} {lv : Int} (h1 : within lv 0 20 = true) (h2 : l ≠ []) (h3 : lv = 0 ∨ (2 ≤ l.length ∧ keyAt l 0 = [])) (h4 : ∀ i, i < l.length → vAt lv l i = true) : valid l lv = true := by
  have : (List.range l.length).all (vAt lv l) = true := by
    rw [List.all_eq_true]
    exact fun i hi => h4 i (List.mem_range.1 hi)
  simp [valid, this, h1, h2]
  exact h3

theorem getD_at {l : List Entry} {j : Nat} (hj : j < l.length) : l[j] = l.getD j default := by simp [hj]

theorem vAt_unf {lv : Int} {l : List Entry} {j : Nat} (hj : j < l.length) : vAt lv l j = ((if lv = 0 then formOf l[j] != 0 else branches l[j] && (decide (j = 0) || l[j].key != [])) && (decide (j = 0) || decide (cmpS l[j - 1].key l[j].key < 0))) := by
  have h1 : l.getD j default = l[j] := by simp [hj]
  have h2 : l.getD (j - 1) default = l[j - 1] := by simp [show j - 1 < l.length by omega]
  have h3 : (j == 0) = decide (j = 0) := by by_cases e : j = 0 <;> simp [e]
  unfold vAt keyAt
  rw [h1, h2, h3]

section
variable {n : Nat} {h : AHeap}
theorem valid_loop {m : Nat} (hn : 4 ≤ m) (l : List Entry) (hl : l.length < 1099511627776) (lv : Int) (sz : Nat) (hz : l ≠ [] → sz = 22) (c : Bool) (W : 0 ≤ lv) {Q : Ex → LS → Prop} {s : LS}
    (hs : LS.sub ⟨[(0, .lst sz (l.map Entry.av) c), (1, i64 lv), (31, .lst sz (l.map Entry.av) c), (32, i64 l.length), (33, i64 0)], [], []⟩ s)
    (hE : (∀ i, i < l.length → vAt lv l i = true) → ∀ L hp, Q (.exit 0) ⟨L, hp, []⟩) (hR : ∀ j, j < l.length → vAt lv l j = false → ∀ L hp, lk L 4 = some (.bool false) → Q .ret ⟨L, hp, []⟩) :
    OkR Try.prog (C m) cfg0.inl KK 78 7 (.loop (c15.lp 0)) s Q := by
  refine loopI (by decide) rfl (α := Nat × AHeap) (fun x => ⟨[(0, .lst sz (l.map Entry.av) c), (1, i64 lv), (31, .lst sz (l.map Entry.av) c), (32, i64 l.length), (33, i64 x.1)], x.2, []⟩)
    (fun x => x.1 ≤ l.length ∧ ∀ i, i < x.1 → vAt lv l i = true) (fun x => l.length - x.1) (0, []) hs ?_ ?_ ?_
  · exact ⟨Nat.zero_le _, fun i hi => absurd hi (Nat.not_lt_zero _)⟩
  · show l.length - 0 < KK; simp only [KK]; omega
  · rintro ⟨j, hp⟩ ⟨g1, g2⟩
    simp only at g1 g2
    conv => whnf
    refine brd (fun b => ?_) (fun b => ?_)
    · have hj : j < l.length := by simp only at b; omega
      have hg : l.getD j default = l[j] := by simp [hj]
      have ext : vAt lv l j = true → ∀ i, i < j + 1 → vAt lv l i = true := fun hv i hi => by
        by_cases e : i = j
        · rw [e]; exact hv
        · exact g2 i (by omega)
      conv => whnf
      refine ixL entry_cells hj hz ?_
      conv => whnf
      refine stI (get_last _ _) (by rfl) (by rfl) (by rfl) (by rfl) ?_
      repeat' (conv => whnf); first
        | (exfalso; omega)
        | refine brd (fun _ => ?_) (fun _ => ?_)
        | refine bre (fun _ => ?_) (fun _ => ?_)
        | refine brn (fun _ => ?_) (fun _ => ?_)
        | refine ldI (get_set_last _ _ _) ?_
        | refine ixL entry_cells (l := l) (j := j - 1) (by omega) hz ?_
        | refine clI (formOf_eq (by omega) l[j]) ?_
        | refine clI (branches_eq (by omega) l[j]) ?_
        | refine clI (compare_eq (by omega) _ _) ?_
        | refine zI (z := ((j - 1 : Nat) : Int)) (by rw [wrap_i64 (by omega) (by omega)]; omega) ?_
        | refine zI (z := ((j + 1 : Nat) : Int)) (by rw [wrap_i64 (by omega) (by omega)]; rfl) ?_
        | refine hR j hj ?_ _ _ rfl
        | refine nxI (j + 1, _) ⟨hj, ext ?_⟩ (by simp only; omega) ⟨⟨rfl, rfl, rfl, rfl, rfl⟩, rfl, rfl⟩
      all_goals rw [vAt_unf hj]
      all_goals try simp only at *
      all_goals by_cases hj0 : j = 0
      all_goals simp_all
      all_goals omega
    · have hj : j = l.length := by simp only at b; omega
      subst hj
      conv => whnf
      exact hE g2 _ _
theorem valid_eq (hn : 5 ≤ n) (l : List Entry) (hl : l.length < 1099511627776) (lv : Int) (sz : Nat) (hz : l ≠ [] → sz = 22) (c : Bool) : C n 15 [.lst sz (l.map Entry.av) c, i64 lv] h = some (.ret (.bool (valid l lv)), h) := by
  obtain ⟨m, rfl⟩ : ∃ m, n = m + 1 := ⟨n - 1, by omega⟩
  refine fun_pure F15 rfl rfl rfl (pure_lst entry_pure l rfl) ?_
  conv => whnf
  refine clI (within_eq (by omega) _ _ _) ?_
  conv => whnf
  refine brn (fun a => ?_) (fun a => ?_)
  · conv => whnf
    refine retP rfl (frz_bool ?_)
    simp [valid, a]
  conv => whnf
  refine bre (fun b => ?_) (fun b => ?_)
  · conv => whnf
    refine retP rfl (frz_bool ?_)
    simp at b
    simp [valid, b]
  have hne : l ≠ [] := by intro e; subst e; simp at b
  have hsz := hz hne
  subst hsz
  have h0 : 0 < l.length := by cases l with | nil => exact (hne rfl).elim | cons => simp
  have k0 : l[0].key = keyAt l 0 := by simp [keyAt, h0]
  have W := within_iff.1 a
  conv => whnf
  refine brd (fun d => ?_) (fun d => ?_)
  · conv => whnf
    refine brd (fun f => ?_) (fun f => ?_)
    · conv => whnf
      refine retP rfl (frz_bool ?_)
      simp at f
      have : ¬ 2 ≤ l.length := by omega
      have : lv ≠ 0 := by omega
      simp [valid, *]
    · conv => whnf
      refine ixL entry_cells (j := 0) h0 (fun _ => rfl) ?_
      conv => whnf
      refine brq (fun g => ?_) (fun g => ?_)
      · conv => whnf
        refine retP rfl (frz_bool ?_)
        rw [k0] at g
        have : lv ≠ 0 := by omega
        simp [valid, *]
      · conv => whnf
        rw [k0] at g
        simp at f
        refine valid_loop (by omega) l hl lv 22 (fun _ => rfl) c (by omega) ⟨⟨rfl, rfl, rfl, lenI _ _, rfl⟩, rfl, rfl⟩ (fun e L hp => ?_) (fun j hj e L hp hk => ?_)
        · refine cutI (by decide) rfl (t := ⟨[], hp, []⟩) ⟨trivial, rfl, rfl⟩ ?_
          conv => whnf
          exact retP rfl (frz_bool (valid_good a hne (.inr ⟨by omega, g⟩) e).symm)
        · exact retK hk (frz_bool (valid_bad hj e).symm)
  · conv => whnf
    refine valid_loop (by omega) l hl lv 22 (fun _ => rfl) c (by omega) ⟨⟨rfl, rfl, rfl, lenI _ _, rfl⟩, rfl, rfl⟩ (fun e L hp => ?_) (fun j hj e L hp hk => ?_)
    · refine cutI (by decide) rfl (t := ⟨[], hp, []⟩) ⟨trivial, rfl, rfl⟩ ?_
      conv => whnf
      exact retP rfl (frz_bool (valid_good a hne (.inl (by omega)) e).symm)
    · exact retK hk (frz_bool (valid_bad hj e).symm)
end
end Go.Proofs
