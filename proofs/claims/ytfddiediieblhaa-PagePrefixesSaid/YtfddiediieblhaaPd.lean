/- The plain law of PagePrefixes: sizes, weights and prefixes of entries behind a string. -/
import Derived.Test.YtfddiediieblhaaPc
set_option linter.unusedVariables false
set_option linter.unusedSimpArgs false
namespace Go.Proofs
open Go Go.Abs
def pf (s : Str) (e : Entry) : Entry := { e with key := s ++ e.key }
theorem beh_zero (l : List Entry) (s : Str) : beh l 0 s = l.map (pf s) := by
  apply List.ext_getElem?
  intro k
  unfold beh
  rw [List.getElem?_mapIdx, List.getElem?_map]
  cases l[k]? <;> rfl
theorem beh_pos {lv : Int} (h : lv ≠ 0) (e : Entry) (r : List Entry) (s : Str) : beh (e :: r) lv s = e :: r.map (pf s) := by
  unfold beh
  rw [List.mapIdx_cons]
  congr 1
  · simp [behE, h]
  · apply List.ext_getElem?
    intro k
    rw [List.getElem?_mapIdx, List.getElem?_map]
    cases r[k]? <;> simp [behE, pf]
theorem beh_len (l : List Entry) (lv : Int) (s : Str) : (beh l lv s).length = l.length := by simp [beh]
theorem tail_beh {l : List Entry} {lv : Int} (s : Str) (hl : l ≠ []) (h0 : 0 ≤ lv) : tailE (beh l lv s) lv = (tailE l lv).map (pf s) := by
  by_cases e : lv = 0
  · subst e; rw [beh_zero]; rfl
  · cases l with
    | nil => exact (hl rfl).elim
    | cons a r =>
      rw [beh_pos e]
      unfold tailE
      rw [if_pos (by omega), if_pos (by omega)]
      rfl
theorem cp_app : ∀ (s x y : Str), cp (s ++ x) (s ++ y) = s.length + cp x y
  | [], x, y => by simp
  | a :: s, x, y => by simp [cp, cp_app s x y]; omega
theorem pre2_app (s x y : Str) : pre2 (s ++ x) (s ++ y) = s ++ pre2 x y := by
  unfold pre2
  rw [cp_app, List.take_length_add_append]
theorem fold_pf (s : Str) : ∀ (r : List Entry) (p : Str), (r.map (pf s)).foldl (fun p e => pre2 p e.key) (s ++ p) = s ++ r.foldl (fun p e => pre2 p e.key) p
  | [], p => rfl
  | e :: r, p => by
    show (r.map (pf s)).foldl (fun p e => pre2 p e.key) (pre2 (s ++ p) (s ++ e.key)) = _
    rw [pre2_app, fold_pf s r]; rfl
theorem shared_beh {l : List Entry} {lv : Int} (s : Str) (hv : valid l lv = true) : shared (beh l lv s) lv = s ++ shared l lv := by
  obtain ⟨h1, h2, _⟩ := valid_iff.1 hv
  have ht := valid_tail hv
  unfold shared
  rw [tail_beh s h2 h1.1]
  cases he : tailE l lv with
  | nil => rw [he] at ht; simp at ht
  | cons a r => exact fold_pf s r a.key
theorem form_pf {s : Str} {e : Entry} (h1 : formOf e ≠ 0) (h2 : formOf (pf s e) ≠ 0) : formOf (pf s e) = formOf e := by
  have k1 : within e.key.length 1 48 = true := by
    have := form_key h1; rw [within_iff]; omega
  have k2 : within (pf s e).key.length 1 48 = true := by
    have := form_key h2; rw [within_iff]; omega
  unfold formOf
  rw [k1, k2]
  rfl
theorem weighB_form {e : Entry} (h : weighB e 0 = true) : formOf e ≠ 0 := by
  intro h0; simp [weighB, h0] at h
theorem weigh_pf {s : Str} {e : Entry} {lv : Int} (h0 : 0 ≤ lv) (h1 : weighB e lv = true) (h2 : weighB (pf s e) lv = true) : weighW (pf s e) lv = weighW e lv + s.length := by
  have hk : (pf s e).key.length = s.length + e.key.length := by simp [pf]
  by_cases e0 : lv = 0
  · subst e0
    have f1 := weighB_form h1
    have f := form_pf f1 (weighB_form h2)
    have fr : formOf e = 1 ∨ formOf e = 2 ∨ formOf e = 3 := by simpa [weighB, or_assoc] using h1
    unfold weighW
    rw [f, hk]
    have hvl : (pf s e).val = e.val := rfl
    rw [hvl]
    rcases fr with g | g | g <;> rw [g] <;> simp <;> omega
  · unfold weighW
    rw [if_pos (by omega), if_pos (by omega), hk]
    omega
theorem wsum_pf {s : Str} {lv : Int} (h0 : 0 ≤ lv) : ∀ {l : List Entry} {w w' : Int}, wsum lv l = some w → wsum lv (l.map (pf s)) = some w' → w' = w + (l.length : Int) * (s.length : Int)
  | [], w, w', h, h' => by simp [wsum] at h h'; subst h h'; simp
  | e :: r, w, w', h, h' => by
    unfold wsum at h
    rw [List.map_cons] at h'
    unfold wsum at h'
    by_cases b1 : weighB e lv = true
    · by_cases b2 : weighB (pf s e) lv = true
      · rw [if_pos b1] at h
        rw [if_pos b2] at h'
        cases h3 : wsum lv r with
        | none => rw [h3] at h; cases h
        | some x =>
          cases h4 : wsum lv (r.map (pf s)) with
          | none => rw [h4] at h'; cases h'
          | some y =>
            rw [h3] at h
            rw [h4] at h'
            simp at h h'
            have ih := wsum_pf h0 h3 h4
            have hw := weigh_pf h0 b1 b2
            have hm : ((e :: r).length : Int) * (s.length : Int) = (r.length : Int) * (s.length : Int) + s.length := by
              rw [List.length_cons, Int.natCast_add, Int.add_mul]; simp
            rw [hm]
            omega
      · rw [if_neg b2] at h'; cases h'
    · rw [if_neg b1] at h; cases h
theorem valid_wsum {l : List Entry} {lv : Int} (hv : valid l lv = true) : ∃ w, wsum lv l = some w ∧ weight l lv = some (6 + w) := by
  obtain ⟨w, hw⟩ := valid_weight hv
  obtain ⟨h1, _⟩ := valid_iff.1 hv
  unfold weight at hw ⊢
  rw [if_pos (within_iff.2 h1)] at hw ⊢
  cases hs : wsum lv l with
  | none => rw [hs] at hw; cases hw
  | some x => exact ⟨x, rfl, rfl⟩
def many (l : List Entry) (lv : Int) : Int := l.length - (if 0 < lv then 1 else 0)
theorem weight_beh {l : List Entry} {lv : Int} {s : Str} (hv : valid l lv = true) (hv' : valid (beh l lv s) lv = true) : (weight (beh l lv s) lv).getD 0 = (weight l lv).getD 0 + many l lv * s.length := by
  obtain ⟨h1, h2, _⟩ := valid_iff.1 hv
  obtain ⟨w, hw, ew⟩ := valid_wsum hv
  obtain ⟨w', hw', ew'⟩ := valid_wsum hv'
  rw [ew, ew']
  simp only [Option.getD_some]
  by_cases e : lv = 0
  · subst e
    rw [beh_zero] at hw'
    have := wsum_pf (by omega) hw hw'
    unfold many
    rw [if_neg (by omega), Int.sub_zero]
    omega
  · cases l with
    | nil => exact (h2 rfl).elim
    | cons a r =>
      rw [beh_pos e] at hw'
      unfold wsum at hw hw'
      by_cases b1 : weighB a lv = true
      · rw [if_pos b1] at hw hw'
        cases h3 : wsum lv r with
        | none => rw [h3] at hw; cases hw
        | some x =>
          cases h4 : wsum lv (r.map (pf s)) with
          | none => rw [h4] at hw'; cases hw'
          | some y =>
            rw [h3] at hw
            rw [h4] at hw'
            simp at hw hw'
            have := wsum_pf h1.1 h3 h4
            unfold many
            rw [if_pos (by omega), List.length_cons, show ((r.length + 1 : Nat) : Int) - 1 = (r.length : Int) by omega]
            omega
      · rw [if_neg b1] at hw; cases hw
theorem size_beh {l : List Entry} {lv : Int} {s : Str} (hv : valid l lv = true) (hv' : valid (beh l lv s) lv = true) : sizeN (beh l lv s) lv = sizeN l lv + s.length := by
  unfold sizeN
  rw [weight_beh hv hv', shared_beh s hv, beh_len]
  show _ + many l lv * (s.length : Int) - many l lv * ((s ++ shared l lv).length : Int) + _ = _ - many l lv * ((shared l lv).length : Int) + _ + _
  have h : ((s ++ shared l lv).length : Int) = (s.length : Int) + ((shared l lv).length : Int) := by simp
  rw [h, Int.mul_add]
  omega
theorem size_le {l : List Entry} {lv : Int} (hv : valid l lv = true) : sizeN l lv ≤ (weight l lv).getD 0 := by
  obtain ⟨h1, h2, h3, _⟩ := valid_iff.1 hv
  have hm : 1 ≤ many l lv := by
    unfold many
    split
    · omega
    · cases l with
      | nil => exact (h2 rfl).elim
      | cons => simp; omega
  unfold sizeN
  have := Int.mul_le_mul_of_nonneg_right hm (show (0 : Int) ≤ ((shared l lv).length : Int) by omega)
  unfold many at this
  omega
end Go.Proofs
