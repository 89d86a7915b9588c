/- Contracts: sizes; entries behind a string. -/
import Derived.Test.YtfddiediieblhaaPa
set_option linter.unusedVariables false
set_option linter.unusedSimpArgs false
namespace Go.Proofs
open Go Go.Abs
theorem valid_key {l : List Entry} {lv : Int} (hv : valid l lv = true) : ∀ e ∈ l, e.key.length ≤ 48 := fun e he => by
  obtain ⟨h1, h2, h3, h4⟩ := valid_iff.1 hv
  obtain ⟨j, hj, rfl⟩ := List.getElem_of_mem he
  have := h4 j hj
  rw [vAt_unf hj] at this
  by_cases e0 : lv = 0
  · subst e0
    simp at this
    exact (form_key this.1).2
  · simp [e0, branches] at this
    omega
theorem shared_len {l : List Entry} {lv : Int} (hv : valid l lv = true) : (shared l lv).length ≤ 48 := by
  have h0 := valid_tail hv
  refine Nat.le_trans (fold_len _ _) ?_
  rw [← head_at h0]
  have hm : (tailE l lv)[0] ∈ l := by
    have : (tailE l lv)[0] ∈ tailE l lv := List.getElem_mem h0
    unfold tailE at this ⊢
    split at this <;> rename_i h
    · simp only [h, if_true]; exact List.mem_of_mem_drop this
    · simp only [h, if_false]; exact this
  exact valid_key hv _ hm
theorem weight_valid {l : List Entry} {lv : Int} (hv : valid l lv = true) : weightR l lv = .tup [i64 ((weight l lv).getD 0), i64 0] ∧ 6 ≤ (weight l lv).getD 0 ∧ (weight l lv).getD 0 ≤ 6 + 117 * l.length := by
  obtain ⟨w, hw⟩ := valid_weight hv
  refine ⟨by simp [weightR, hw], ?_⟩
  rw [hw]
  unfold weight at hw
  split at hw
  · cases hs : wsum lv l with
    | none => rw [hs] at hw; cases hw
    | some x =>
      rw [hs] at hw
      simp at hw
      have hb : ∀ {l : List Entry} {w : Int}, wsum lv l = some w → 0 ≤ w ∧ w ≤ 117 * l.length := fun {l} => by
        induction l with
        | nil => intro w h; simp [wsum] at h; subst h; simp
        | cons e r ih =>
          intro w h
          unfold wsum at h
          by_cases hw : weighB e lv = true
          · rw [if_pos hw] at h
            cases hr : wsum lv r with
            | none => rw [hr] at h; cases h
            | some x =>
              rw [hr] at h
              simp at h
              have := ih hr
              have := weigh_bound hw
              simp only [List.length_cons]
              omega
          · rw [if_neg hw] at h; cases h
      have := hb hs
      simp only [Option.getD_some]
      omega
  · cases hw
section
variable {n : Nat} {h : AHeap}
theorem size_walk {m : Nat} (l : List Entry) (hl : l.length < 1099511627776) (lv : Int) (sz : Nat) (c : Bool) (w : Int) (sh : Str) (hw : 6 ≤ w ∧ w ≤ 6 + 117 * l.length) (hs : sh.length ≤ 48) (h0 : 0 < l.length)
    (cv : ∀ h, C m 15 [.lst sz (l.map Entry.av) c, i64 lv] h = some (.ret (.bool true), h)) (cw : ∀ h, C m 13 [.lst sz (l.map Entry.av) c, i64 lv] h = some (.ret (.tup [i64 w, i64 0]), h)) (cs : ∀ h, C m 37 [.lst sz (l.map Entry.av) c, i64 lv] h = some (.ret (.str sh), h)) :
    C (m + 1) 12 [.lst sz (l.map Entry.av) c, i64 lv] h = some (.ret (.tup [i64 (w - (l.length - (if 0 < lv then 1 else 0)) * sh.length + sh.length), i64 0]), h) := by
  refine fun_pure F12 rfl rfl rfl (pure_lst entry_pure l rfl) ?_
  conv => whnf
  refine clI (cv _) ?_
  conv => whnf
  refine clI (cw _) ?_
  conv => whnf
  refine clI (cs _) ?_
  conv => whnf
  have hmul : ∀ k : Nat, k ≤ l.length → 0 ≤ (k : Int) * (sh.length : Int) ∧ (k : Int) * (sh.length : Int) ≤ 48 * 1099511627776 := fun k hk => by
    have h1 : k * sh.length ≤ 1099511627776 * 48 := Nat.mul_le_mul (by omega) hs
    have h2 : ((k * sh.length : Nat) : Int) = (k : Int) * (sh.length : Int) := Int.natCast_mul _ _
    rw [← h2]
    omega
  refine brd (fun a => ?_) (fun a => ?_)
  · have hm := hmul (l.length - 1) (by omega)
    conv => whnf
    refine zI (z := ((l.length - 1 : Nat) : Int)) (by rw [List.length_map, wrap_i64 (by omega) (by omega)]; omega) ?_
    conv => whnf
    refine zI (wrap_i64 (by omega) (by omega)) ?_
    conv => whnf
    refine zI (wrap_i64 (by omega) (by omega)) ?_
    conv => whnf
    refine zI (wrap_i64 (by omega) (by omega)) ?_
    conv => whnf
    refine retP rfl (frz_ii ?_ rfl)
    rw [if_pos a, show ((l.length - 1 : Nat) : Int) = (l.length : Int) - 1 by omega]
  · have hm := hmul l.length (Nat.le_refl _)
    conv => whnf
    refine zI (z := (l.length : Int) * (sh.length : Int)) (by rw [List.length_map, wrap_i64 (by omega) (by omega)]) ?_
    conv => whnf
    refine zI (wrap_i64 (by omega) (by omega)) ?_
    conv => whnf
    refine zI (wrap_i64 (by omega) (by omega)) ?_
    conv => whnf
    refine retP rfl (frz_ii ?_ rfl)
    rw [if_neg a, Int.sub_zero]

theorem size_eq (hn : 6 ≤ n) (l : List Entry) (hl : l.length < 1099511627776) (he : ∀ e ∈ l, e.Ok) (lv : Int) (sz : Nat) (hz : l ≠ [] → sz = 22) (c : Bool) : C n 12 [.lst sz (l.map Entry.av) c, i64 lv] h = some (.ret (sizeR l lv), h) := by
  obtain ⟨m, rfl⟩ : ∃ m, n = m + 1 := ⟨n - 1, by omega⟩
  by_cases a : valid l lv = true
  · obtain ⟨w1, w2⟩ := weight_valid a
    have h0 : 0 < l.length := by
      obtain ⟨_, h2, _⟩ := valid_iff.1 a
      cases l with
      | nil => exact (h2 rfl).elim
      | cons => simp
    rw [size_walk l hl lv sz c ((weight l lv).getD 0) (shared l lv) w2 (shared_len a) h0 (fun h => by rw [valid_eq (by omega) l hl lv sz hz c, a]) (fun h => by rw [weight_eq (by omega) l hl he lv sz hz c, w1]) (fun h => shared_eq (by omega) l hl he lv (valid_tail a) sz hz c)]
    simp [sizeR, sizeN, a]
  · have cv : ∀ h, C m 15 [.lst sz (l.map Entry.av) c, i64 lv] h = some (.ret (.bool false), h) := fun h => by rw [valid_eq (by omega) l hl lv sz hz c]; simp [a]
    refine fun_pure F12 rfl rfl rfl (pure_lst entry_pure l rfl) ?_
    conv => whnf
    refine clI (cv _) ?_
    conv => whnf
    exact retP rfl (frz_ii (by simp [a]) (by simp [a]))
end
end Go.Proofs
