/- The law PageCapacity: its text, and what it computes. -/
import Derived.Test.YtfddiediieblhaaTe
set_option linter.unusedVariables false
set_option linter.unusedSimpArgs false
namespace Go.Proofs
open Go Go.Abs
def wN (l : List Entry) (lv : Int) : Int := (weight l lv).getD 0
def wE (l : List Entry) (lv : Int) : Int := if (weight l lv).isSome then 0 else 2
theorem weightR_eq (l : List Entry) (lv : Int) : weightR l lv = .tup [i64 (wN l lv), i64 (wE l lv)] := by
  unfold weightR wN wE
  cases weight l lv <;> rfl
theorem wsum_bound {lv : Int} : ∀ {l : List Entry} {w : Int}, wsum lv l = some w → 0 ≤ w ∧ w ≤ 117 * l.length
  | [], w, h => by simp [wsum] at h; subst h; simp
  | e :: r, w, h => by
    unfold wsum at h
    by_cases hw : weighB e lv = true
    · rw [if_pos hw] at h
      cases hr : wsum lv r with
      | none => rw [hr] at h; cases h
      | some x =>
        rw [hr] at h
        simp at h
        have := wsum_bound hr
        have := weigh_bound hw
        simp only [List.length_cons]
        omega
    · rw [if_neg hw] at h; cases h
theorem wN_bound {l : List Entry} {lv : Int} (hl : l.length ≤ 100) : 0 ≤ wN l lv ∧ wN l lv ≤ 11706 := by
  unfold wN weight
  by_cases h : within lv 0 20 = true
  · rw [if_pos h]
    cases hw : wsum lv l with
    | none => simp
    | some w => have := wsum_bound hw; simp; omega
  · rw [if_neg h]; simp
theorem wE_zero {l : List Entry} {lv : Int} : wE l lv = 0 ↔ ∃ w, weight l lv = some w := by
  unfold wE
  cases weight l lv <;> simp
theorem weight_parts {l : List Entry} {lv : Int} (k : Nat) : (wE l lv = 0 ↔ wE (l.take k) lv = 0 ∧ wE (l.drop k) lv = 0) ∧ (wE l lv = 0 → wN l lv = wN (l.take k) lv + wN (l.drop k) lv - 6) := by
  have h := wsum_append lv (l.take k) (l.drop k)
  rw [List.take_append_drop] at h
  rw [wE_zero, wE_zero, wE_zero]
  unfold wN weight
  by_cases hw : within lv 0 20 = true
  · simp only [if_pos hw]
    cases h1 : wsum lv (l.take k) <;> cases h2 : wsum lv (l.drop k) <;> rw [h1, h2] at h <;> rw [h] <;> simp
    omega
  · simp only [if_neg hw]
    simp
theorem wsum_branch {lv : Int} (hlv : 0 < lv) : ∀ {l : List Entry} {w : Int}, wsum lv l = some w → w ≤ 75 * l.length
  | [], w, h => by simp [wsum] at h; subst h; simp
  | e :: r, w, h => by
    unfold wsum at h
    by_cases hw : weighB e lv = true
    · rw [if_pos hw] at h
      cases hr : wsum lv r with
      | none => rw [hr] at h; cases h
      | some x =>
        rw [hr] at h
        simp at h
        have := wsum_branch hlv hr
        simp [weighB, hlv, branches] at hw
        simp [weighW, hlv] at h
        simp only [List.length_cons]
        omega
    · rw [if_neg hw] at h; cases h
theorem fits_small {l : List Entry} {lv : Int} (hv : valid l lv = true) (hl : (l.length : Int) ≤ if 0 < lv then 6 else 4) : fits l lv = true := by
  obtain ⟨w, hw⟩ := valid_weight hv
  simp only [fits, hv, hw, Bool.true_and, decide_eq_true_eq]
  unfold weight at hw
  by_cases hi : within lv 0 20 = true
  · rw [if_pos hi] at hw
    cases hs : wsum lv l with
    | none => rw [hs] at hw; cases hw
    | some x =>
      rw [hs] at hw
      simp at hw
      by_cases h0 : 0 < lv
      · have := wsum_branch h0 hs
        rw [if_pos h0] at hl
        omega
      · have := wsum_bound hs
        rw [if_neg h0] at hl
        omega
  · rw [if_neg hi] at hw; cases hw
theorem eq_boolT (a b : Bool) : eqA Try.prog 20 4 (.bool a) (.bool b) = some (a == b) := by kernel_rfl
theorem pageCapacity_walk {m : Nat} {h : AHeap} (l : List Entry) (hlen : l.length ≤ 100) (lv : Int) (at' : UInt8) (sz : Nat) (hz : l ≠ [] → sz = 22) (c : Bool) (k : Nat) (N E w1 e1 w2 e2 : Int) (V F : Bool)
    (cs : ∀ h, C m 7 [] h = some (.ret (.bool true), h)) (cfew : ∀ h, C m 11 [.lst sz (l.map Entry.av) c] h = some (.ret (.bool true), h)) (hk : k ≤ l.length) (hkz : (at'.toNat : Int).tmod ((l.length + 1 : Nat) : Int) = k)
    (cw : ∀ h, C m 13 [.lst sz (l.map Entry.av) c, i64 lv] h = some (.ret (.tup [i64 N, i64 E]), h))
    (cw1 : ∀ c' h, C m 13 [.lst 22 ((l.take k).map Entry.av) c', i64 lv] h = some (.ret (.tup [i64 w1, i64 e1]), h))
    (cw2 : ∀ c' h, C m 13 [.lst 22 ((l.drop k).map Entry.av) c', i64 lv] h = some (.ret (.tup [i64 w2, i64 e2]), h))
    (cv : ∀ h, C m 15 [.lst sz (l.map Entry.av) c, i64 lv] h = some (.ret (.bool V), h)) (cf : ∀ h, C m 17 [.lst sz (l.map Entry.av) c, i64 lv] h = some (.ret (.bool F), h)) (cc : ∀ h, C m 18 [] h = some (.ret (i64 496), h))
    (hP : E = 0 ↔ e1 = 0 ∧ e2 = 0) (hQ : E = 0 → N = w1 + w2 - 6) (b1 : 0 ≤ w1 ∧ w1 ≤ 11706) (b2 : 0 ≤ w2 ∧ w2 ≤ 11706)
    (f4 : V = true → lv ≤ 0 → l.length ≤ 4 → F = true) (f6 : V = true → 0 < lv → l.length ≤ 6 → F = true) (ff : F = true → V = true ∧ E = 0 ∧ N ≤ 496) :
    C (m + 1) 5 [.lst sz (l.map Entry.av) c, i64 lv, u8 at'] h = some (.ret (.bool true), h) := by
  have hat := at'.toNat_lt
  refine fun_pure F5 rfl rfl rfl (pure_lst entry_pure l rfl) ?_
  conv => whnf
  refine clI (cs _) ?_
  conv => whnf
  refine clI (cfew _) ?_
  conv => whnf
  refine clI (cw _) ?_
  conv => whnf
  refine zI (z := (at'.toNat : Int)) (wrap_i64 (by omega) (by omega)) ?_
  conv => whnf
  refine zI (z := ((l.length + 1 : Nat) : Int)) (by rw [List.length_map, wrap_i64 (by omega) (by omega)]; rfl) ?_
  conv => whnf
  refine remI (by omega) hkz ?_
  conv => whnf
  refine slI (sl_hi _ l hz c k hk) ?_
  conv => whnf
  refine clI (cw1 _ _) ?_
  conv => whnf
  refine slI (sl_lo _ l hz c k hk) ?_
  conv => whnf
  refine clI (cw2 _ _) ?_
  have rest : ∀ s' : LS, LS.sub ⟨[(0, .lst sz (l.map Entry.av) c), (1, i64 lv), (7, .bool true), (8, i64 N), (9, i64 E)], [], []⟩ s' → OkR Try.prog (C m) cfg0.inl KK 108 7 (cutOf c5) s' (RetQ Try.prog [.tmp 6] fun v' h' => frz h' 64 v' = some (.bool true)) := fun s' hs' => by
    refine cutI (by decide) rfl hs' ?_
    repeat' (conv => whnf); first
      | (exfalso; omega)
      | refine brd (fun _ => ?_) (fun _ => ?_)
      | refine bre (fun _ => ?_) (fun _ => ?_)
      | refine brn (fun _ => ?_) (fun _ => ?_)
      | refine br (fun _ => ?_) (fun _ => ?_)
      | refine clI (cv _) ?_
      | refine clI (cf _) ?_
      | refine clI (cc _) ?_
      | refine retP rfl (frz_bool ?_)
    all_goals (try rw [List.length_map] at *)
    all_goals clear cs cfew cw cw1 cw2 cv cf cc
    all_goals cases V
    all_goals cases F
    all_goals simp at *
    all_goals omega
  have B : (E == 0) = ((e1 == 0) && (e2 == 0)) := by rw [Bool.eq_iff_iff]; simp; exact hP
  repeat' (conv => whnf); first
    | (exfalso; omega)
    | refine rest _ ⟨⟨rfl, rfl, rfl, rfl, rfl⟩, rfl, rfl⟩
    | refine bre (fun _ => ?_) (fun _ => ?_)
    | refine brq (fun _ => ?_) (fun _ => ?_)
    | refine brn (fun _ => ?_) (fun _ => ?_)
    | refine eqI (eq_boolT _ _) ?_
    | refine zI (wrap_i64 (by omega) (by omega)) ?_
    | refine retP rfl (frz_bool ?_)
  all_goals simp_all

theorem pageCapacity_eq {n : Nat} {h : AHeap} (hn : 7 ≤ n) (cs : ∀ m, n ≤ m + 1 → ∀ h, C m 7 [] h = some (.ret (.bool true), h)) (l : List Entry) (lv : Int) (at' : UInt8) (sz : Nat) (hz : l ≠ [] → sz = 22) (c : Bool) :
    C n 5 [.lst sz (l.map Entry.av) c, i64 lv, u8 at'] h = some (.ret (.bool true), h) := by
  obtain ⟨m, rfl⟩ : ∃ m, n = m + 1 := ⟨n - 1, by omega⟩
  by_cases a : few l = true
  · have hlen : l.length ≤ 100 := (few_iff.1 a).1
    have hl : l.length < 1099511627776 := by omega
    have he : ∀ e ∈ l, e.Ok := fun e h => by have := (few_iff.1 a).2 e h; exact ⟨by omega, by omega⟩
    have hk : at'.toNat % (l.length + 1) ≤ l.length := by have := Nat.mod_lt at'.toNat (show 0 < l.length + 1 by omega); omega
    have hP := @weight_parts l lv (at'.toNat % (l.length + 1))
    refine pageCapacity_walk l hlen lv at' sz hz c (at'.toNat % (l.length + 1)) (wN l lv) (wE l lv) (wN (l.take _) lv) (wE (l.take _) lv) (wN (l.drop _) lv) (wE (l.drop _) lv) (valid l lv) (fits l lv)
      (cs m (by omega)) (fun h => by rw [few_eq (by omega) l sz hz c, a]) hk (Int.ofNat_tmod _ _).symm
      (fun h => by rw [weight_eq (by omega) l hl he lv sz hz c, weightR_eq])
      (fun c' h => by rw [weight_eq (by omega) (l.take _) (by simp; omega) (fun e h => he e (List.mem_of_mem_take h)) lv 22 (fun _ => rfl) c', weightR_eq])
      (fun c' h => by rw [weight_eq (by omega) (l.drop _) (by simp; omega) (fun e h => he e (List.mem_of_mem_drop h)) lv 22 (fun _ => rfl) c', weightR_eq])
      (fun h => valid_eq (by omega) l hl lv sz hz c) (fun h => fits_eq (by omega) l hl he lv sz hz c) (fun h => capacity_eq (by omega))
      hP.1 hP.2 (wN_bound (by simp; omega)) (wN_bound (by simp; omega)) (fun hv h1 h2 => fits_small hv (by rw [if_neg (by omega)]; omega)) (fun hv h1 h2 => fits_small hv (by rw [if_pos h1]; omega)) (fun hf => ?_)
    simp [fits] at hf
    obtain ⟨w, hw⟩ := valid_weight hf.1
    have := hf.2
    rw [hw] at this
    refine ⟨hf.1, wE_zero.2 ⟨w, hw⟩, ?_⟩
    simpa [wN, hw] using this
  · have cfew : ∀ h, C m 11 [.lst sz (l.map Entry.av) c] h = some (.ret (.bool false), h) := fun h => by rw [few_eq (by omega) l sz hz c]; simp [a]
    refine fun_pure F5 rfl rfl rfl (pure_lst entry_pure l rfl) ?_
    conv => whnf
    refine clI (cs m (by omega) _) ?_
    conv => whnf
    refine clI (cfew _) ?_
    conv => whnf
    exact retP rfl (frz_bool rfl)
end Go.Proofs
