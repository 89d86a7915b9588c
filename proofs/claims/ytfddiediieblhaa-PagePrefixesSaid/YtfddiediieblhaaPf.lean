/- The law PagePrefixes: sizes, weights and shared prefixes of entries behind a string: for every input it returns true. -/
import Derived.Test.YtfddiediieblhaaPe
set_option linter.unusedVariables false
set_option linter.unusedSimpArgs false
namespace Go.Proofs
open Go Go.Abs Go.ChangeShapes Go.WideShapes Go.ChangeAt Go.RowKit

theorem pagePrefixes_eq {n : Nat} {h : AHeap} (hn : 8 ≤ n) (l : List Entry) (lv : Int) (s : Str) (sz : Nat) (hz : l ≠ [] → sz = 22) (c : Bool) : C n 4 [.lst sz (l.map Entry.av) c, i64 lv, .str s] h = some (.ret (.bool true), h) := by
  obtain ⟨m, rfl⟩ : ∃ m, n = m + 1 := ⟨n - 1, by omega⟩
  have cs : ∀ h, C m 7 [] h = some (.ret (.bool true), h) := fun h => sane_eq (by omega) h
  by_cases a : few l = true
  · have cfew : ∀ h, C m 11 [.lst sz (l.map Entry.av) c] h = some (.ret (.bool true), h) := fun h => by rw [few_eq (by omega) l sz hz c, a]
    have hlen : l.length ≤ 100 := (few_iff.1 a).1
    have hl : l.length < 1099511627776 := by omega
    have hk := (few_iff.1 a).2
    have he : ∀ e ∈ l, e.Ok := fun e h => by have := hk e h; exact ⟨by omega, by omega⟩
    by_cases hs : s.length ≤ 100
    · have cW : ∀ h, C m 13 [.lst sz (l.map Entry.av) c, i64 lv] h = some (.ret (weightR l lv), h) := fun h => weight_eq (by omega) l hl he lv sz hz c
      have cS : ∀ h, C m 12 [.lst sz (l.map Entry.av) c, i64 lv] h = some (.ret (sizeR l lv), h) := fun h => size_eq (by omega) l hl he lv sz hz c
      have cP : ∀ h, C m 14 [.lst sz (l.map Entry.av) c, i64 lv] h = some (.ret (prefR l lv), h) := fun h => prefix_eq (by omega) l hl he lv sz hz c
      by_cases v : valid l lv = true
      · obtain ⟨g1, g2, _⟩ := valid_iff.1 v
        have hne := g2
        have h0 : 0 < l.length := by cases l with | nil => exact (hne rfl).elim | cons => simp
        obtain ⟨w1, w2, w3⟩ := weight_valid v
        have mem : ∀ e ∈ beh l lv s, e.Ok := fun e h => by
          obtain ⟨i, hi, rfl⟩ := List.mem_mapIdx.1 h
          have := hk l[i] (List.getElem_mem hi)
          unfold behE
          split
          · exact ⟨by simp only [List.length_append]; omega, by simp only; omega⟩
          · exact ⟨by omega, by omega⟩
        have hML : (beh l lv s).length < 1099511627776 := by rw [beh_len]; exact hl
        have hsl := shared_len v
        have hmany : 0 ≤ many l lv ∧ many l lv ≤ 100 := by unfold many; split <;> omega
        have sN0 : -5000 ≤ sizeN l lv := by
          have h1 := Int.mul_le_mul hmany.2 (show ((shared l lv).length : Int) ≤ 48 by omega) (by omega) (by omega)
          unfold sizeN
          unfold many at h1
          omega
        have cS' : ∀ h, C m 12 [.lst sz (l.map Entry.av) c, i64 lv] h = some (.ret (.tup [i64 (sizeN l lv), i64 0]), h) := fun h => by rw [cS h]; simp [sizeR, v]
        have cW' : ∀ h, C m 13 [.lst sz (l.map Entry.av) c, i64 lv] h = some (.ret (.tup [i64 ((weight l lv).getD 0), i64 0]), h) := fun h => by rw [cW h, w1]
        have cP' : ∀ h, C m 14 [.lst sz (l.map Entry.av) c, i64 lv] h = some (.ret (.tup [.str (shared l lv), i64 0]), h) := fun h => by rw [cP h]; simp [prefR, v]
        have cB : ∀ h, C m 16 [.lst sz (l.map Entry.av) c, i64 lv, .str s] h = some (.ret (.lst 22 ((beh l lv s).map Entry.av) false), h) := fun h => behind_eq (by omega) l hne (by omega) he lv s (by omega) sz hz c
        by_cases v2 : valid (beh l lv s) lv = true
        · obtain ⟨x1, _, _⟩ := weight_valid v2
          have hm0 : 0 ≤ many l lv * (s.length : Int) ∧ many l lv * (s.length : Int) ≤ 10000 := by
            refine ⟨Int.mul_nonneg hmany.1 (by omega), ?_⟩
            have := Int.mul_le_mul hmany.2 (show (s.length : Int) ≤ 100 by omega) (by omega) (by omega)
            omega
          exact prefixes_in l lv s sz c cs cfew hs hlen (sizeN l lv) ((weight l lv).getD 0) (shared l lv) ⟨sN0, size_le v⟩ (by omega) hsl cS' cW' cP' (beh l lv s) cB (many l lv) rfl hm0 (fun _ => h0) (fun h => by rw [valid_eq (by omega) _ hML lv 22 (fun _ => rfl) false, v2])
            (sizeN (beh l lv s) lv) ((weight (beh l lv s) lv).getD 0) (shared (beh l lv s) lv) (size_beh v v2) (weight_beh v v2) (shared_beh s v)
            (fun h => by rw [size_eq (by omega) _ hML mem lv 22 (fun _ => rfl) false]; simp [sizeR, v2]) (fun h => by rw [weight_eq (by omega) _ hML mem lv 22 (fun _ => rfl) false, x1]) (fun h => by rw [prefix_eq (by omega) _ hML mem lv 22 (fun _ => rfl) false]; simp [prefR, v2])
        · exact prefixes_out l lv s sz c cs cfew hs hlen (sizeN l lv) ((weight l lv).getD 0) (shared l lv) ⟨sN0, size_le v⟩ (by omega) hsl cS' cW' cP' (beh l lv s) cB (fun h => by rw [valid_eq (by omega) _ hML lv 22 (fun _ => rfl) false]; simp [v2])
      · exact prefixes_bad l lv s sz c cs cfew hs (wN l lv) (wE l lv) (fun h => by rw [cS h]; simp [sizeR, v]) (fun h => by rw [cW h, weightR_eq]) (fun h => by rw [cP h]; simp [prefR, v]) (fun h => by rw [valid_eq (by omega) l hl lv sz hz c]; simp [v])
    · exact prefixes_long l lv s sz c cs cfew (by omega)
  · exact prefixes_few l lv s sz c cs (fun h => by rw [few_eq (by omega) l sz hz c]; simp [a])

set_option maxRecDepth 100000 in
theorem pagePrefixes_calls {H : Type} {enc : TypeId × Value → H} {W : World} {base : Nat} {args : Array Value} {ds gs : List (DataW H)} {before : List MemPlace}
    (hval : ∀ (j : Nat) t v, Try.f4.params[j]? = some t → args[j]? = some v → Value.okWide Try.prog W .any base t v)
    (hW : DataW.Whole enc Try.prog Try.f4.params.toList [] false W args.toList ds gs before) : ∃ xs : List AV, VRs (cellsW W) noBM xs args.toList ∧ PureCalls Try.prog 4 xs (.ret (.bool true)) := by
  obtain ⟨p, q, hA0, _⟩ := hW
  have hA : DataW.TrodAll enc Try.prog W 0 (fun _ => true) true [22, 3, 9] args.toList ds p := hA0
  rw [show Try.f4.params = #[22, 3, 9] by kernel_rfl] at hval
  obtain ⟨args⟩ := args
  simp only at hA
  obtain ⟨v0, vs0, d0, ds0, p0, q0, rfl, rfl, rfl, ⟨_, h0⟩, r0⟩ := trodAll_cons hA
  obtain ⟨v1, vs1, d1, ds1, p1, q1, rfl, rfl, rfl, ⟨_, h1⟩, r1⟩ := trodAll_cons r0
  obtain ⟨v2, vs2, d2, ds2, p2, q2, rfl, rfl, rfl, ⟨_, h2⟩, r2⟩ := trodAll_cons r1
  obtain ⟨rfl, rfl, rfl⟩ := trodAll_nil r2
  obtain ⟨a, len, cap, rfl⟩ := okWide_slice ty22 (hval 0 22 v0 rfl rfl)
  obtain ⟨k1, rfl⟩ := okWide_int ty3 (hval 1 3 v1 rfl rfl)
  obtain ⟨b, rfl⟩ := okWide_string ty9 (hval 2 9 v2 rfl rfl)
  obtain ⟨l, v, e0, g0⟩ := rd_entries h0
  cases e0
  refine ⟨[.lst 22 (l.map Entry.av) false, i64 k1, .str b.data.toList], VRs_app (VRs_one g0) (VRs_app (VRs_one (a := i64 k1) (by unfold VR; rfl)) (VRs_one (a := .str b.data.toList) (by unfold VR; simp))), ?_⟩
  exact pure_of_CN (n := 9) sum0_ok rfl (pagePrefixes_eq (by omega) l k1 b.data.toList 22 (fun _ => rfl) false)

set_option maxRecDepth 100000 in
theorem pagePrefixes_lifted (os : Os) (started : os.Started) (H : Type) (enc : TypeId × Value → H) :
    ReturnsInHanded {} Try.checked os 4 .any (Ytfddiediieblhaa.Rows.pagePrefixesSpec.pre6 enc Try.prog Try.f4 Ytfddiediieblhaa.Rows.pagePrefixesRow.domain false) (Ytfddiediieblhaa.Rows.pagePrefixesSpec.post enc Try.prog Try.f4 false true false false) := by
  refine returnsInHanded_of_change (C := Try.checked) own started (by kernel_rfl) Try.func4
    (ChangeSpec.witness6 (enc := enc) (C := Try.checked) false ⟨#[], #[.slice none 0 0, .int .i64 0, .string ByteArray.empty], []⟩ 8 (by kernel_rfl) (by kernel_rfl) (by kernel_rfl) (by kernel_rfl)) ?_
  intro W base args ds gs before hval hW _ _
  obtain ⟨xs, hv, hp⟩ := pagePrefixes_calls hval hW
  refine law_call laid (by kernel_rfl) (tb := 4) (by kernel_rfl) ty4 rfl (fun ds hd => ?_) hW hv hp
  match ds, hd with
  | [_, _, _], _ => rfl
end Go.Proofs
namespace Go.Proofs.Ytfddiediieblhaa
open Go Go.Abs
/-- The law PagePrefixes, for every input. -/
theorem pagePrefixes_holds : Rows.PagePrefixesSaid :=
  OpenClaim.holds_of_wide 4 Try.f4 rfl rfl rfl rfl rfl rfl rfl ⟨rfl, rfl, rfl, rfl, rfl⟩ rfl rfl rfl rfl rfl (by kernel_rfl) Try.func4 (by kernel_rfl)
    (of_decide_eq_true (by kernel_rfl)) (by unfold Func.isWrapper; first | (rw [if_pos (by decide +kernel)]; kernel_rfl) | (rw [if_neg (by decide +kernel)]; exact ⟨rfl, rfl⟩))
    (fun os started H enc _ => pagePrefixes_lifted os started H enc)
#print axioms pagePrefixes_holds
end Go.Proofs.Ytfddiediieblhaa
