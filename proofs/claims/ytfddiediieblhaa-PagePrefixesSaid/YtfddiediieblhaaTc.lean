/- Contracts of functions of a page: weights of lists. -/
import Derived.Test.YtfddiediieblhaaTb
set_option linter.unusedVariables false
set_option linter.unusedSimpArgs false
namespace Go.Proofs
open Go Go.Abs
section
variable {n : Nat} {h : AHeap}

theorem weight_eq (hn : 5 ≤ n) (l : List Entry) (hl : l.length < 1099511627776) (he : ∀ e ∈ l, e.Ok) (lv : Int) (sz : Nat) (hz : l ≠ [] → sz = 22) (c : Bool) : C n 13 [.lst sz (l.map Entry.av) c, i64 lv] h = some (.ret (weightR l lv), h) := by
  obtain ⟨m, rfl⟩ : ∃ m, n = m + 1 := ⟨n - 1, by omega⟩
  refine fun_pure F13 rfl rfl rfl (pure_lst entry_pure l rfl) ?_
  conv => whnf
  refine clI (within_eq (by omega) _ _ _) ?_
  conv => whnf
  refine br (fun a => ?_) (fun a => ?_)
  · conv => whnf
    refine retP rfl (Eq.trans (frz_ii rfl rfl) (congrArg some ?_))
    simp at a; simp [weightR, weight, a]
  · simp at a
    conv => whnf
    refine loopI (by decide) rfl (α := Nat × Int × AHeap) (fun x => ⟨[(1, i64 lv), (6, i64 x.2.1), (14, .lst sz (l.map Entry.av) c), (15, i64 l.length), (16, i64 x.1)], x.2.2, []⟩)
      (fun x => x.1 ≤ l.length ∧ wsum lv (l.take x.1) = some (x.2.1 - 6) ∧ x.2.1 ≤ 6 + 117 * x.1 ∧ 6 ≤ x.2.1) (fun x => l.length - x.1) (0, 6, []) ?_ ?_ ?_ ?_
    · exact ⟨⟨rfl, rfl, rfl, lenI _ _, rfl⟩, rfl, rfl⟩
    · simp [wsum]
    · show l.length - 0 < KK; simp only [KK]; omega
    · rintro ⟨j, s, hp⟩ ⟨g1, g2, g3, g4⟩
      conv => whnf
      refine br (fun b => ?_) (fun b => ?_)
      · have hj : j < l.length := by simp at b; omega
        conv => whnf
        refine ixL entry_cells hj hz ?_
        conv => whnf
        refine stI (get_last _ _) (by rfl) (by rfl) (by rfl) (by rfl) ?_
        conv => whnf
        refine ldI (get_set_last _ _ _) ?_
        conv => whnf
        refine clI (weigh_eq (by omega) l[j] (he _ (List.getElem_mem hj)) lv) ?_
        conv => whnf
        have hw := wsum_take hj g2
        refine br (fun d => ?_) (fun d => ?_)
        · conv => whnf
          refine retP rfl (Eq.trans (frz_ii rfl rfl) (congrArg some ?_))
          simp at d
          simp [d] at hw
          simp [weightR, weight, a, wsum_none hw]
        · simp at d
          have hb := weigh_bound d
          simp [d] at hw
          simp only at g3 g4
          refine zI (wrap_i64 (z := s + weighW l[j] lv) (by omega) (by omega)) ?_
          conv => whnf
          refine zI (z := ((j + 1 : Nat) : Int)) (by rw [wrap_i64 (by omega) (by omega)]; rfl) ?_
          exact ⟨(j + 1, s + weighW l[j] lv, _), ⟨hj, hw.trans (congrArg some (by simp only; omega)), by simp only; omega, by simp only; omega⟩, by simp only; omega, ⟨rfl, rfl, rfl, rfl, rfl⟩, rfl, rfl⟩
      · have hj : j = l.length := by simp at b; omega
        subst hj
        rw [List.take_length] at g2
        conv => whnf
        refine cutI (by decide) rfl (t := ⟨[(6, i64 s)], hp, []⟩) ⟨rfl, rfl, rfl⟩ ?_
        conv => whnf
        refine retP rfl (Eq.trans (frz_ii rfl rfl) (congrArg some ?_))
        simp [weightR, weight, a, g2]; omega
end
end Go.Proofs
