/- The law PageFinds: for every input it returns true. -/
import Derived.Test.YtfddiediieblhaaGreatFin7
import Derived.Test.YtfddiediieblhaaGreatFin13
import Derived.Test.YtfddiediieblhaaGreatRows
/- The law PageFinds: for every input it returns true. -/
set_option linter.unusedVariables false
set_option linter.unusedSimpArgs false
namespace Go.Proofs
open Go Go.Abs Go.ChangeShapes Go.WideShapes Go.ChangeAt Go.RowKit
theorem small_okf {p : Page} (h : smallB p = true) (o1 : p.entries ≠ [] → p.esh.sz = 22) (o2 : p.freed ≠ [] → p.fsh.sz = 2) (o3 : ∀ f ∈ p.freed, f.Ok ∧ f.pages.length < 9223372036854775808) : p.Ok := by
  unfold smallB shortB at h
  simp only [Bool.and_eq_true, decide_eq_true_eq] at h
  obtain ⟨h1, ⟨_, h2⟩, h3⟩ := h
  obtain ⟨h4, h5⟩ := few_iff.1 h1
  exact ⟨o1, o2, by omega, by omega, by omega, fun e he => by have := h5 e he; exact ⟨by omega, by omega⟩, o3⟩
/-- What the program and the reference answer at a string. -/
def Both (n : Nat) (s k : Str) (i : Int) : Prop := ∃ (x : Nat) (f : Bool) (e : Int) (en : Entry) (g : Int),
  (∀ h, C n 20 [.str s, .str k] h = some (.ret (.tup [i64 x, .bool f, i64 e]), h)) ∧ (∀ h, C n 21 [.str s, .str k] h = some (.ret (.agg [i64 x, .bool f, i64 e]), h)) ∧
  (∀ h, C n 22 [.str s, i64 i] h = some (.ret (.tup [.agg en.cells, i64 g]), h)) ∧ ∀ h, C n 23 [.str s, i64 i] h = some (.ret (.agg (oCells en g)), h)
theorem finds_both {n : Nat} (hn : 12 ≤ n) (s k : Str) (i : Int) : Both n s k i := by
  obtain ⟨m, rfl⟩ : ∃ m, n = m + 2 := ⟨n - 2, by omega⟩
  by_cases hx : ∃ p : Page, p.Ok ∧ p.check = true ∧ p.enc = s
  · obtain ⟨p, okp, hc, rfl⟩ := hx
    obtain ⟨b, b1, b2, b3⟩ := refDecode_yes (n := m) (by omega) hc
    by_cases hk : p.kind = 1 ∨ p.kind = 2
    · have cT := refTree_ok (n := m) (by omega) b3 (by rw [b1.kind]; exact hk)
      have hf : fits p.entries p.level = true := by
        obtain ⟨_, _, h3⟩ := check_iff.1 hc
        rcases h3 with ⟨_, _, _, h4, _⟩ | ⟨h4, _⟩ | ⟨h4, _⟩
        · exact h4
        · omega
        · omega
      have hv := (nodeB_len (tree := 0) (top := true) (base := 12) hf).2.1
      obtain ⟨x, h1, h2, h3⟩ := index_of (l := p.entries) (fun j hj h0 => by
        rcases (valid_form hv hj).2.2 with q | q
        · omega
        · exact q) k p.entries.length (Nat.le_refl _)
      have h3' : ∀ j (hj : j < p.entries.length), x ≤ j → ¬ cmpS p.entries[j].key k < 0 := fun j hj q => h3 j hj q hj
      obtain ⟨f, hff⟩ : ∃ f : Bool, f = true ↔ ∃ hj : x < p.entries.length, cmpS p.entries[x].key k = 0 := ⟨decide (∃ hj : x < p.entries.length, cmpS p.entries[x].key k = 0), by simp⟩
      have cF := find_enc (n := m + 2) (by omega) hc hk okp.elen k x h1 h2 h3' f hff
      have he := b1.entries
      have cG : ∀ h, C (m + 2) 21 [.str p.enc, .str k] h = some (.ret (.agg [i64 x, .bool f, i64 0]), h) := by
        refine refFind_ok (n := m + 1) (by omega) b2 k x (by rw [he]; exact h1) (fun j hj q => ?_) (fun j hj q => ?_) f ?_ cT
        · simp only [he] at hj ⊢; exact h2 j hj q
        · simp only [he] at hj ⊢; exact h3' j hj q
        · rw [hff]; simp only [he]
      by_cases hi : 0 ≤ i ∧ i < p.entries.length
      · obtain ⟨y, rfl⟩ : ∃ y : Nat, i = y := ⟨i.toNat, by omega⟩
        have hy : y < p.entries.length := by omega
        have cA := entryAt_enc (n := m + 2) (by omega) hc hk y hy
        have cB := refEntryAt_in (n := m + 1) (by omega) b2 y (by rw [he]; exact hy) cT
        simp only [he] at cB
        exact ⟨x, f, 0, p.entries[y], 0, cF, cG, cA, cB⟩
      · have cA := entryAt_off (n := m + 2) (by omega) hc hk i (by omega)
        have cB := refEntryAt_out (n := m + 1) (by omega) i (by rw [he]; omega) cT
        exact ⟨x, f, 0, zEnt, 1, cF, cG, cA, cB⟩
    · have cT := refTree_not (n := m) (by omega) b3 (by rw [b1.kind]; exact hk)
      exact ⟨0, false, 2, zEnt, 2, find_not (by omega) hc hk k, refFind_err (n := m + 1) (by omega) (.inl rfl) k cT, entryAt_not (by omega) hc hk i, refEntryAt_err (n := m + 1) (by omega) (.inl rfl) i cT⟩
  · have hno : ∀ p : Page, p.Ok → p.check = true → p.enc ≠ s := fun p h1 h2 h3 => hx ⟨p, h1, h2, h3⟩
    have cT := refTree_bad (n := m) (by omega) (refDecode_no (n := m) (by omega) hno)
    exact ⟨0, false, 8, zEnt, 8, find_bad (by omega) hno k, refFind_err (n := m + 1) (by omega) (.inr rfl) k cT, entryAt_bad (by omega) hno i, refEntryAt_err (n := m + 1) (by omega) (.inr rfl) i cT⟩
theorem hNums_four (s : Str) : ∃ a b c d : Int, hNums s = [a, b, c, d] := by
  unfold hNums
  cases headOk s with
  | true => exact ⟨_, _, _, _, rfl⟩
  | false => exact ⟨_, _, _, _, rfl⟩
theorem pageFinds_eq {n : Nat} {h : AHeap} (hn : 13 ≤ n) (p : Page) (o1 : p.entries ≠ [] → p.esh.sz = 22) (o2 : p.freed ≠ [] → p.fsh.sz = 2) (o3 : ∀ f ∈ p.freed, f.Ok ∧ f.pages.length < 9223372036854775808) (s : Str) (own : Bool) (key : Str) (i : Int) :
    C n 4 [p.av, .str s, .bool own, .str key, i64 i] h = some (.ret (.bool true), h) := by
  obtain ⟨m, rfl⟩ : ∃ m, n = m + 1 := ⟨n - 1, by omega⟩
  have cs : ∀ h, C m 9 [] h = some (.ret (.bool true), h) := fun h => sane_eq (by omega) h
  have csm : ∀ h, C m 10 [.lst 10 [p.av] true] h = some (.ret (.bool (smallB p)), h) := fun h => small_eq (by omega) p o1 o2
  have hpure : pureBs [p.av, .str s, .bool own, .str key, i64 i] = true := by simp [pureBs, page_pure, AV.pureB]
  cases hs : smallB p with
  | false =>
    rw [hs] at csm
    refine fun_pure F4 rfl rfl rfl hpure ?_
    conv => whnf
    refine clI (cs _) ?_
    conv => whnf
    refine ldI (by rfl) ?_
    conv => whnf
    refine ⟨rfl, ?_⟩
    conv => whnf
    refine clI (csm _) ?_
    conv => whnf
    exact retP rfl (frz_bool rfl)
  | true =>
    rw [hs] at csm
    have ok := small_okf hs o1 o2 o3
    by_cases hm : s.length ≤ 600
    · by_cases hk : key.length ≤ 300
      · cases own with
        | true =>
          have cR := fun h => refEncode_eq (n := m) (h := h) (by omega) p ok
          obtain ⟨a, b, c, d, hh⟩ := hNums_four (if p.check then p.enc else [])
          have cH := head_both (n := m) (by omega) (if p.check then p.enc else [])
          have cRH := refHead_eq (n := m) (by omega) (if p.check then p.enc else [])
          rw [hh] at cH cRH
          obtain ⟨z, f, e, en, g, cF, cRF, cA, cRA⟩ := finds_both (n := m) (by omega) (if p.check then p.enc else []) key i
          refine fun_pure F4 rfl rfl rfl hpure ?_
          conv => whnf
          refine clI (cs _) ?_
          conv => whnf
          refine ldI (by rfl) ?_
          conv => whnf
          refine ⟨rfl, ?_⟩
          conv => whnf
          refine clI (csm _) ?_
          conv => whnf
          refine brd (fun a => absurd a (by omega)) (fun _ => ?_)
          conv => whnf
          refine brd (fun a => absurd a (by omega)) (fun _ => ?_)
          conv => whnf
          refine ldI (by rfl) ?_
          conv => whnf
          refine clI (cR _) ?_
          conv => whnf
          refine clI (cH _) ?_
          conv => whnf
          refine clI (cRH _) ?_
          conv => whnf
          refine stI (xs := [i64 a, i64 b, i64 c, i64 d]) (by rfl) (by rfl) (by rfl) (by rfl) (by rfl) ?_
          conv => whnf
          refine clI (cF _) ?_
          conv => whnf
          refine clI (cRF _) ?_
          conv => whnf
          refine stI (xs := [i64 z, .bool f, i64 e]) (by rfl) (by rfl) (by rfl) (by rfl) (by rfl) ?_
          conv => whnf
          refine clI (cA _) ?_
          conv => whnf
          refine stI (xs := en.cells) (by rfl) (by rfl) (by rfl) (by rfl) (by rfl) ?_
          conv => whnf
          refine clI (cRA _) ?_
          conv => whnf
          refine stI (xs := oCells en g) (by rfl) (by rfl) (by rfl) (by rfl) (by rfl) ?_
          conv => whnf
          refine ldI (by rfl) ?_
          conv => whnf
          refine brq (fun q => absurd rfl q) (fun _ => ?_)
          conv => whnf
          refine ldI (by rfl) ?_
          conv => whnf
          refine brq (fun q => absurd rfl q) (fun _ => ?_)
          conv => whnf
          refine ldI (by rfl) ?_
          conv => whnf
          refine brq (fun q => absurd rfl q) (fun _ => ?_)
          conv => whnf
          refine ldI (by rfl) ?_
          conv => whnf
          refine brq (fun q => absurd rfl q) (fun _ => ?_)
          conv => whnf
          refine ldI (by rfl) ?_
          conv => whnf
          refine bre (fun _ => ?_) (fun q => absurd rfl q)
          conv => whnf
          refine ldI (by rfl) ?_
          conv => whnf
          refine eqI (r := true) (by rw [eq_bool]; simp) ?_
          conv => whnf
          refine ldI (by rfl) ?_
          conv => whnf
          refine bre (fun _ => ?_) (fun q => absurd rfl q)
          conv => whnf
          refine ldI (by rfl) ?_
          conv => whnf
          refine ldI (by rfl) ?_
          conv => whnf
          refine eqI (eq_ent en) ?_
          conv => whnf
          refine ldI (by rfl) ?_
          conv => whnf
          exact retP rfl (frz_bool (by simp))
        | false =>
          obtain ⟨a, b, c, d, hh⟩ := hNums_four s
          have cH := head_both (n := m) (by omega) s
          have cRH := refHead_eq (n := m) (by omega) s
          rw [hh] at cH cRH
          obtain ⟨z, f, e, en, g, cF, cRF, cA, cRA⟩ := finds_both (n := m) (by omega) s key i
          refine fun_pure F4 rfl rfl rfl hpure ?_
          conv => whnf
          refine clI (cs _) ?_
          conv => whnf
          refine ldI (by rfl) ?_
          conv => whnf
          refine ⟨rfl, ?_⟩
          conv => whnf
          refine clI (csm _) ?_
          conv => whnf
          refine brd (fun a => absurd a (by omega)) (fun _ => ?_)
          conv => whnf
          refine brd (fun a => absurd a (by omega)) (fun _ => ?_)
          conv => whnf
          refine clI (cH _) ?_
          conv => whnf
          refine clI (cRH _) ?_
          conv => whnf
          refine stI (xs := [i64 a, i64 b, i64 c, i64 d]) (by rfl) (by rfl) (by rfl) (by rfl) (by rfl) ?_
          conv => whnf
          refine clI (cF _) ?_
          conv => whnf
          refine clI (cRF _) ?_
          conv => whnf
          refine stI (xs := [i64 z, .bool f, i64 e]) (by rfl) (by rfl) (by rfl) (by rfl) (by rfl) ?_
          conv => whnf
          refine clI (cA _) ?_
          conv => whnf
          refine stI (xs := en.cells) (by rfl) (by rfl) (by rfl) (by rfl) (by rfl) ?_
          conv => whnf
          refine clI (cRA _) ?_
          conv => whnf
          refine stI (xs := oCells en g) (by rfl) (by rfl) (by rfl) (by rfl) (by rfl) ?_
          conv => whnf
          refine ldI (by rfl) ?_
          conv => whnf
          refine brq (fun q => absurd rfl q) (fun _ => ?_)
          conv => whnf
          refine ldI (by rfl) ?_
          conv => whnf
          refine brq (fun q => absurd rfl q) (fun _ => ?_)
          conv => whnf
          refine ldI (by rfl) ?_
          conv => whnf
          refine brq (fun q => absurd rfl q) (fun _ => ?_)
          conv => whnf
          refine ldI (by rfl) ?_
          conv => whnf
          refine brq (fun q => absurd rfl q) (fun _ => ?_)
          conv => whnf
          refine ldI (by rfl) ?_
          conv => whnf
          refine bre (fun _ => ?_) (fun q => absurd rfl q)
          conv => whnf
          refine ldI (by rfl) ?_
          conv => whnf
          refine eqI (r := true) (by rw [eq_bool]; simp) ?_
          conv => whnf
          refine ldI (by rfl) ?_
          conv => whnf
          refine bre (fun _ => ?_) (fun q => absurd rfl q)
          conv => whnf
          refine ldI (by rfl) ?_
          conv => whnf
          refine ldI (by rfl) ?_
          conv => whnf
          refine eqI (eq_ent en) ?_
          conv => whnf
          refine ldI (by rfl) ?_
          conv => whnf
          exact retP rfl (frz_bool (by simp))
      · refine fun_pure F4 rfl rfl rfl hpure ?_
        conv => whnf
        refine clI (cs _) ?_
        conv => whnf
        refine ldI (by rfl) ?_
        conv => whnf
        refine ⟨rfl, ?_⟩
        conv => whnf
        refine clI (csm _) ?_
        conv => whnf
        refine brd (fun a => absurd a (by omega)) (fun _ => ?_)
        conv => whnf
        refine brd (fun _ => ?_) (fun a => absurd (by omega) a)
        conv => whnf
        exact retP rfl (frz_bool rfl)
    · refine fun_pure F4 rfl rfl rfl hpure ?_
      conv => whnf
      refine clI (cs _) ?_
      conv => whnf
      refine ldI (by rfl) ?_
      conv => whnf
      refine ⟨rfl, ?_⟩
      conv => whnf
      refine clI (csm _) ?_
      conv => whnf
      refine brd (fun _ => ?_) (fun a => absurd (by omega) a)
      conv => whnf
      exact retP rfl (frz_bool rfl)
set_option maxRecDepth 100000 in
theorem pageFinds_calls {H : Type} {enc : TypeId × Value → H} {W : World} {base : Nat} {args : Array Value} {ds gs : List (DataW H)} {before : List MemPlace}
    (hval : ∀ (j : Nat) t v, Tryz.f4.params[j]? = some t → args[j]? = some v → Value.okWide Tryz.prog W .any base t v)
    (hW : DataW.Whole enc Tryz.prog Tryz.f4.params.toList [] false W args.toList ds gs before) : ∃ xs : List AV, VRs (cellsW W) noBM xs args.toList ∧ PureCalls Tryz.prog 4 xs (.ret (.bool true)) := by
  obtain ⟨p, q, hA0, _⟩ := hW
  have hA : DataW.TrodAll enc Tryz.prog W 0 (fun _ => true) true [25, 9, 4, 9, 3] args.toList ds p := hA0
  rw [show Tryz.f4.params = #[25, 9, 4, 9, 3] by kernel_rfl] at hval
  obtain ⟨args⟩ := args
  simp only at hA
  obtain ⟨v0, vs0, d0, ds0, p0, q0, rfl, rfl, rfl, ⟨_, h0⟩, r0⟩ := trodAll_cons hA
  obtain ⟨v1, vs1, d1, ds1, p1, q1, rfl, rfl, rfl, ⟨_, h1⟩, r1⟩ := trodAll_cons r0
  obtain ⟨v2, vs2, d2, ds2, p2, q2, rfl, rfl, rfl, ⟨_, h2⟩, r2⟩ := trodAll_cons r1
  obtain ⟨v3, vs3, d3, ds3, p3, q3, rfl, rfl, rfl, ⟨_, h3⟩, r3⟩ := trodAll_cons r2
  obtain ⟨v4, vs4, d4, ds4, p4, q4, rfl, rfl, rfl, ⟨_, h4⟩, r4⟩ := trodAll_cons r3
  obtain ⟨rfl, rfl, rfl⟩ := trodAll_nil r4
  obtain ⟨_, tP, _⟩ := tyPage
  obtain ⟨c0, rfl, _⟩ := okWide_struct tP (hval 0 _ v0 rfl rfl)
  obtain ⟨b1, rfl⟩ := okWide_string ty9 (hval 1 9 v1 rfl rfl)
  obtain ⟨b3, rfl⟩ := okWide_string ty9 (hval 3 9 v3 rfl rfl)
  obtain ⟨own, rfl⟩ := okWide_bool ty4 (hval 2 _ v2 rfl rfl)
  obtain ⟨k4, rfl⟩ := okWide_int ty3 (hval 4 _ v4 rfl rfl)
  obtain ⟨pg, g0, o1, o2, o3⟩ := rd_page h0
  have f0 : VR (cellsW W) noBM pg.av (.agg c0) := by unfold Page.av VR; exact ⟨c0, rfl, g0⟩
  have f1 : VR (cellsW W) noBM (.str b1.data.toList) (.string b1) := by unfold VR; simp
  have f2 : VR (cellsW W) noBM (.bool own) (.bool own) := by unfold VR; rfl
  have f3 : VR (cellsW W) noBM (.str b3.data.toList) (.string b3) := by unfold VR; simp
  have f4 : VR (cellsW W) noBM (i64 k4) (.int .i64 k4) := by unfold VR; rfl
  refine ⟨[pg.av, .str b1.data.toList, .bool own, .str b3.data.toList, i64 k4], @VRs_app _ _ [_] _ [_] _ (VRs_one f0) (@VRs_app _ _ [_] _ [_] _ (VRs_one f1) (@VRs_app _ _ [_] _ [_] _ (VRs_one f2) (@VRs_app _ _ [_] _ [_] _ (VRs_one f3) (VRs_one f4)))), ?_⟩
  exact pure_of_CN (n := 13) sum0_ok rfl (pageFinds_eq (by omega) pg o1 o2 o3 b1.data.toList own b3.data.toList k4)

set_option maxRecDepth 100000 in
theorem pageFinds_lifted (os : Os) (started : os.Started) (H : Type) (enc : TypeId × Value → H) :
    ReturnsInHanded {} Tryz.checked os 4 .any (YtfddiediieblhaaGreat.Rows.pageFindsSpec.pre6 enc Tryz.prog Tryz.f4 YtfddiediieblhaaGreat.Rows.pageFindsRow.domain false) (YtfddiediieblhaaGreat.Rows.pageFindsSpec.post enc Tryz.prog Tryz.f4 false true false false) := by
  refine returnsInHanded_of_change (C := Tryz.checked) own started (by kernel_rfl) Tryz.func4
    (ChangeSpec.witness6 (enc := enc) (C := Tryz.checked) false ⟨#[], #[.agg #[.int .i64 0, .int .i64 0, .int .i64 0, .int .i64 0, .int .i64 0, .bool false, .slice none 0 0, .int .i64 0, .string ByteArray.empty, .slice none 0 0], .string ByteArray.empty, .bool false, .string ByteArray.empty, .int .i64 0], []⟩ 8 (by kernel_rfl) (by kernel_rfl) (by kernel_rfl) (by kernel_rfl)) ?_
  intro W base args ds gs before hval hW _ _
  obtain ⟨xs, hv, hp⟩ := pageFinds_calls hval hW
  refine law_call laid (by kernel_rfl) (tb := 4) (by kernel_rfl) ty4 rfl (fun ds hd => ?_) hW hv hp
  match ds, hd with
  | [_, _, _, _, _], _ => rfl
end Go.Proofs
namespace Go.Proofs.YtfddiediieblhaaGreat
open Go Go.Abs
/-- The law PageFinds, for every input. -/
theorem pageFinds_holds : Rows.PageFindsSaid :=
  OpenClaim.holds_of_wide 4 Tryz.f4 rfl rfl rfl rfl rfl rfl rfl ⟨rfl, rfl, rfl, rfl, rfl⟩ rfl rfl rfl rfl rfl (by kernel_rfl) Tryz.func4 (by kernel_rfl)
    (of_decide_eq_true (by kernel_rfl)) (by unfold Func.isWrapper; first | (rw [if_pos (by decide +kernel)]; kernel_rfl) | (rw [if_neg (by decide +kernel)]; exact ⟨rfl, rfl⟩))
    (fun os started H enc _ => pageFinds_lifted os started H enc)
#print axioms pageFinds_holds
end Go.Proofs.YtfddiediieblhaaGreat
