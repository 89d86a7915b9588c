/- The law PageBack: the row. -/
import Derived.Test.YtfddiediieblhaaGreatBac12
import Derived.Test.YtfddiediieblhaaGreatBac11
import Derived.Test.YtfddiediieblhaaGreatBac9
import Derived.Test.YtfddiediieblhaaGreatBac7
import Derived.Test.YtfddiediieblhaaGreatBac6
import Derived.Test.YtfddiediieblhaaGreatBac10
import Derived.Shelf.Sort.Plain
import Derived.Shelf.Slices.CompactI
import Derived.Shelf.Slices.Clone
import Derived.Shelf.Slices.In.SortNone
import Derived.Lib.AppendZeros
import Derived.Test.YtfddiediieblhaaGreatRows
/- The law PageDamage: small pages. -/
set_option linter.unusedVariables false
set_option linter.unusedSimpArgs false
namespace Go.Proofs
open Go Go.Abs
/-- Lists that are short, as a machine counts. -/
def shortG : List Freed → Int → Bool
  | [], _ => true
  | f :: r, n => if 900 < IntKind.i64.wrap (n + (f.pages.length : Int)) then false else shortG r (IntKind.i64.wrap (n + (f.pages.length : Int)))
def shortB (l : List Freed) : Bool := shortG (l.take 301) 0 && decide (l.length ≤ 300)
def smallB (p : Page) : Bool := few p.entries && (shortB p.freed && decide (p.data.length ≤ 1000))
section
variable {n : Nat} {h : AHeap}
theorem short_eq (hn : 1 ≤ n) (l : List Freed) (sz : Nat) (hz : l ≠ [] → sz = 2) (c : Bool) : C n 37 [.lst sz (l.map Freed.av) c] h = some (.ret (.bool (shortB l)), h) := by
  obtain ⟨m, rfl⟩ : ∃ m, n = m + 1 := ⟨n - 1, by omega⟩
  refine fun_pure F37 rfl rfl rfl (pure_lst freed_pure l rfl) ?_
  conv => whnf
  refine loopI (by decide) rfl (α := Nat × Int) (fun x => ⟨[(0, .lst sz (l.map Freed.av) c), (3, i64 x.2), (4, i64 x.1)], [], []⟩)
    (fun x => (x.1 ≤ l.length ∧ x.1 ≤ 301) ∧ shortG (l.take 301) 0 = shortG ((l.take 301).drop x.1) x.2) (fun x => 301 - x.1) (0, 0) ⟨⟨rfl, rfl, rfl⟩, rfl, rfl⟩ ⟨⟨Nat.zero_le _, by decide⟩, rfl⟩ (by show 301 - 0 < KK; simp only [KK]; omega) ?_
  rintro ⟨j, k⟩ ⟨⟨g1, g0⟩, g2⟩
  simp only at g1 g0 g2
  have stop : ∀ (b : Bool), b = shortB l → frz [] 64 (.bool b) = some (.bool (shortB l)) := fun b e => by rw [e]; rfl
  conv => whnf
  refine brd (fun a => ?_) (fun a => ?_)
  · have hj : j < l.length := by simp at a; omega
    conv => whnf
    refine brd (fun d => ?_) (fun d => ?_)
    · have hj2 : j ≤ 300 := by simp only at d; omega
      have e : (l.take 301).drop j = l[j] :: (l.take 301).drop (j + 1) := by
        have hlt : j < (l.take 301).length := by rw [List.length_take]; omega
        rw [List.drop_eq_getElem_cons hlt, List.getElem_take]
      rw [e] at g2
      simp only [shortG] at g2
      have el : ((l[j].pages.map i64).length : Int) = (l[j].pages.length : Int) := by rw [List.length_map]
      conv => whnf
      refine ixL freed_cells hj hz ?_
      conv => whnf
      refine zI (z := IntKind.i64.wrap (k + (l[j].pages.length : Int))) (by rw [el]) ?_
      conv => whnf
      refine brd (fun q => ?_) (fun q => ?_)
      · conv => whnf
        rw [if_pos q] at g2
        exact retP rfl (frz_bool (by unfold shortB; rw [g2]; rfl))
      · rw [if_neg q] at g2
        conv => whnf
        refine zI (z := ((j + 1 : Nat) : Int)) (by rw [wrap_i64 (by omega) (by omega)]; rfl) ?_
        exact nxI (j + 1, _) ⟨⟨hj, by omega⟩, g2⟩ (by simp only; omega) ⟨⟨rfl, rfl, rfl⟩, rfl, rfl⟩
    · have hj2 : j = 301 := by simp only at d; omega
      conv => whnf
      refine cutI (by decide) rfl (t := ⟨[(0, .lst sz (l.map Freed.av) c)], [], []⟩) ⟨rfl, rfl, rfl⟩ ?_
      conv => whnf
      refine retP rfl (frz_bool ?_)
      unfold shortB
      rw [List.length_map, show decide (l.length ≤ 300) = false by rw [decide_eq_false_iff_not]; omega, Bool.and_false]
      simp; omega
  · have hj : j = l.length := by simp at a; omega
    conv => whnf
    refine cutI (by decide) rfl (t := ⟨[(0, .lst sz (l.map Freed.av) c)], [], []⟩) ⟨rfl, rfl, rfl⟩ ?_
    conv => whnf
    refine retP rfl (frz_bool ?_)
    unfold shortB
    rw [g2, List.drop_of_length_le (by rw [List.length_take]; omega)]
    simp [shortG]; omega
theorem small_eq (hn : 2 ≤ n) (p : Page) (o1 : p.entries ≠ [] → p.esh.sz = 22) (o2 : p.freed ≠ [] → p.fsh.sz = 2) : C n 10 [.lst 10 [p.av] true] h = some (.ret (.bool (smallB p)), h) := by
  obtain ⟨m, rfl⟩ : ∃ m, n = m + 1 := ⟨n - 1, by omega⟩
  have cf : ∀ h, C m 24 [.lst p.esh.sz (p.entries.map Entry.av) p.esh.c] h = some (.ret (.bool (few p.entries)), h) := fun h => few_eq (by omega) _ _ o1 _
  have cs : ∀ h, C m 37 [.lst p.fsh.sz (p.freed.map Freed.av) p.fsh.c] h = some (.ret (.bool (shortB p.freed)), h) := fun h => short_eq (by omega) _ _ o2 _
  have hix : ∀ {q : List AV → Prop}, q p.cells → ∃ y, ([p.av] : List AV)[(0 : Int).toNat]? = some y ∧ ∃ cs, y.cells? = some cs ∧ q cs := fun hq => ⟨p.av, rfl, p.cells, rfl, hq⟩
  refine fun_pure F10 rfl rfl rfl (by simp [pureBs, AV.pureB, page_pure]) ?_
  conv => whnf
  refine loopI (by decide) rfl (α := Nat) (fun x => ⟨[(0, .lst 10 [p.av] true), (3, i64 x)], [], []⟩) (fun x => x ≤ 1 ∧ (x = 1 → smallB p = true)) (fun x => 1 - x) 0 ⟨⟨rfl, rfl⟩, rfl, rfl⟩ ⟨by decide, by simp⟩ (by show 1 - 0 < KK; simp only [KK]; omega) ?_
  rintro j ⟨g1, g2⟩
  obtain rfl | rfl : j = 0 ∨ j = 1 := by omega
  · repeat' (conv => whnf); first
      | refine ⟨by decide, rfl, p.av, rfl, p.cells, rfl, ?_⟩
      | refine clI (cf _) ?_
      | refine clI (cs _) ?_
      | refine zI (z := ((1 : Nat) : Int)) rfl ?_
      | refine retP rfl (frz_bool ?_)
      | refine nxI 1 ⟨by decide, fun _ => ?_⟩ (by decide) ⟨⟨rfl, rfl⟩, rfl, rfl⟩
      | refine brd (fun _ => ?_) (fun _ => ?_)
      | refine bre (fun _ => ?_) (fun _ => ?_)
      | refine brq (fun _ => ?_) (fun _ => ?_)
      | refine brn (fun _ => ?_) (fun _ => ?_)
      | refine br (fun _ => ?_) (fun _ => ?_)
      | refine ldI (by rfl) ?_
      | refine ldI (get_set_last _ _ _) ?_
      | refine ldI (get_last _ _) ?_
      | refine stI (by rfl) (by rfl) (by rfl) (by rfl) (by rfl) ?_
      | refine stI (get_last _ _) (by rfl) (by rfl) (by rfl) (by rfl) ?_
      | refine cutS (by decide) rfl ?_
    all_goals clear cf cs hix
    all_goals unfold smallB
    all_goals simp_all
    all_goals omega
  · conv => whnf
    refine cutI (by decide) rfl (t := ⟨[(0, .lst 10 [p.av] true)], [], []⟩) ⟨rfl, rfl, rfl⟩ ?_
    conv => whnf
    exact retP rfl (frz_bool (by rw [g2 rfl]; rfl))
end
end Go.Proofs
/- The law PageChains: small pages, equal texts. -/
set_option linter.unusedVariables false
set_option linter.unusedSimpArgs false
namespace Go.Proofs
open Go Go.Abs
/-- What is known of a page that came in as an argument. -/
structure PgIn (p : Page) : Prop where
  o1 : p.entries ≠ [] → p.esh.sz = 22
  o2 : p.freed ≠ [] → p.fsh.sz = 2
  o3 : ∀ f ∈ p.freed, f.Ok ∧ f.pages.length < 9223372036854775808
section
variable {n : Nat} {h : AHeap}
end
end Go.Proofs
/- Lists of freed pages, chains: what was cut is put together again; how much there is. -/
set_option linter.unusedVariables false
set_option linter.unusedSimpArgs false
namespace Go.Proofs
open Go Go.Abs
theorem CutAt.wgt {l p q : List FP} (h : CutAt l p q) : wgt p + wgt q ≤ wgt l + 1 := by
  cases h with
  | between => rw [wgt_app]; omega
  | within p r v a b =>
    rw [wgt_app, wgt_app, wgt_one]
    simp only [Go.Proofs.wgt, List.map_cons, List.sum_cons, List.length_append]
    omega
theorem Parts.wgt {l : List FP} {ds : List (List FP)} (h : Parts l ds) : (ds.map Go.Proofs.wgt).sum ≤ wgt l + ds.length := by
  induction h with
  | nil => simp
  | @step l ds hne _ ih =>
    have := (cutQ_at 490 l).wgt
    simp only [List.map_cons, List.sum_cons, List.length_cons]
    omega
/-- Small lists are light. -/
theorem shortG_wgt : ∀ (l : List Freed) (k : Int), 0 ≤ k → k ≤ 900 → (∀ f ∈ l, f.pages.length < 17592186044416) → shortG l k = true → k + (wgt (l.map Freed.core) : Int) ≤ 900 + l.length
  | [], k, h0, h1, _, _ => by simp [wgt]; omega
  | f :: r, k, h0, h1, hf, hs => by
    have hfl := hf f (List.mem_cons_self ..)
    unfold shortG at hs
    rw [wrap_i64 (by omega) (by omega)] at hs
    split at hs
    · cases hs
    · rename_i hq
      have := shortG_wgt r (k + (f.pages.length : Int)) (by omega) (by omega) (fun g hg => hf g (List.mem_cons_of_mem _ hg)) hs
      simp only [wgt, List.map_cons, List.sum_cons, List.length_cons, Freed.core] at this ⊢
      omega
theorem short_wgt {l : List Freed} (h : shortB l = true) (hf : ∀ f ∈ l, f.pages.length < 17592186044416) : l.length ≤ 300 ∧ wgt (l.map Freed.core) ≤ 1200 := by
  unfold shortB at h
  rw [Bool.and_eq_true, decide_eq_true_eq] at h
  obtain ⟨h1, h2⟩ := h
  rw [List.take_of_length_le (by omega)] at h1
  have := shortG_wgt l 0 (by omega) (by omega) hf h1
  exact ⟨h2, by omega⟩
theorem foldl_nils (k : Nat) (ts : List FP) : (List.replicate k ([] : List FP)).foldl addP ts = ts := by
  induction k generalizing ts with
  | zero => rfl
  | succ k ih => rw [List.replicate_succ, List.foldl_cons]; exact ih ts
theorem addP_nil (l : List FP) : addP [] l = l := by
  cases l <;> rfl
/-- The pages of a list, as lists. -/
theorem list_pages {no : List Int} {v : Int} {ds : List (List FP)} {ps : List Page} (hd : ds.length ≤ no.length) (hl : ps.length = no.length) (hp : ∀ k (hk : k < ps.length), LPg no v ds k ps[k]) : (ps.map fun p => p.freed.map Freed.core) = ds ++ List.replicate (no.length - ds.length) [] := by
  apply List.ext_getElem
  · simp; omega
  · intro i h1 h2
    rw [List.getElem_map, (hp i (by simpa using h1)).freed]
    by_cases q : i < ds.length
    · rw [List.getElem_append_left q]
      simp [q]
    · rw [List.getElem_append_right (by omega), List.getElem_replicate]
      simp [Nat.le_of_not_lt q]
theorem allF_eq (l : List Page) : allF l = (l.map fun p => p.freed.map Freed.core).foldl addP [] := by
  unfold allF
  rw [List.foldl_map]
theorem wl_eq (l : List Page) : wl l = ((l.map fun p => p.freed.map Freed.core).map wgt).sum := by
  unfold wl
  rw [List.map_map]
  rfl
/-- What was laid in pages is the list. -/
theorem list_back {l : List Freed} {no : List Int} {v : Int} {ps : List Page} (h : ListSpec l no v ps 0) : allF ps = l.map Freed.core ∧ wl ps ≤ 2 * wgt (l.map Freed.core) ∧ ps.map Page.no = no ∧ ps.length = no.length ∧ (ps ≠ [] → headV ps = v) := by
  cases h with
  | ok hk hd hq hl hp =>
    have hP := partsOf_spec (l.map Freed.core)
    have e := list_pages hd hl hp
    refine ⟨?_, ?_, ?_, hl, ?_⟩
    · rw [allF_eq, e, List.foldl_append, foldl_nils, parts_glue hP (freedOk_asc hk), addP_nil]
    · rw [wl_eq, e, List.map_append, List.sum_append, List.map_replicate]
      have h1 : (List.replicate (no.length - (partsOf (l.map Freed.core)).length) (wgt [])).sum = 0 := by simp [wgt]
      rw [h1]
      have := hP.wgt
      have := hP.len
      omega
    · apply List.ext_getElem
      · simp [hl]
      · intro i h1 h2
        rw [List.getElem_map, (hp i (by simpa using h1)).no]
        simp [h2]
    · intro hne
      cases ps with
      | nil => exact (hne rfl).elim
      | cons p r => exact (hp 0 (by simp)).ver
/-- Pieces of a value, joined. -/
theorem pieces_flat (s : Str) : ∀ k : Nat, (List.range k).flatMap (pieceAt s) = s.take (490 * k)
  | 0 => by simp
  | k + 1 => by
    rw [List.range_succ, List.flatMap_append, pieces_flat s k]
    simp only [List.flatMap_cons, List.flatMap_nil, List.append_nil]
    unfold pieceAt
    rw [show 490 * (k + 1) = 490 * k + 490 by omega, List.take_add]
theorem chain_text {s : Str} {no : List Int} {v : Int} (hl : no.length = (pieces s).length) : textOf (chainPs (pieces s) no v) = s := by
  have hN : (pieces s).length = pieceN s := by simp [pieces]
  have h1 : textOf (chainPs (pieces s) no v) = (List.range no.length).flatMap (pieceAt s) := by
    unfold textOf chainPs
    rw [List.flatMap_map]
    rw [List.flatMap_def, List.flatMap_def]
    refine congrArg List.flatten (List.map_congr_left fun k hk => ?_)
    have hk := List.mem_range.1 hk
    rw [hl, hN] at hk
    show (pieces s).getD k [] = pieceAt s k
    unfold pieces
    simp [hk]
  rw [h1, pieces_flat, List.take_of_length_le]
  rw [hl, hN]
  unfold pieceN
  omega
theorem chain_nos {ps : List Str} {no : List Int} {v : Int} : (chainPs ps no v).map Page.no = no := by
  apply List.ext_getElem
  · simp [chainPs]
  · intro i h1 h2
    simp [chainPs, chainPg, h2]
theorem chain_joins {s : Str} {no : List Int} {v : Int} (h : chainOk s no v = true) : joinOk (chainPs (pieces s) no v) = true ∧ textOf (chainPs (pieces s) no v) = s := by
  have h0 := h
  unfold chainOk at h0
  simp only [Bool.and_eq_true, decide_eq_true_eq] at h0
  obtain ⟨h1, h2, h3⟩ := h0
  have ht := chain_text (v := v) h2
  have hw := within_iff.1 h1
  have hne : no ≠ [] := by
    rintro rfl
    have hN : (pieces s).length = pieceN s := by simp [pieces]
    simp only [List.length_nil] at h2
    unfold pieceN at hN
    omega
  have hv : headV (chainPs (pieces s) no v) = v := by
    cases no with
    | nil => exact (hne rfl).elim
    | cons a r =>
      unfold chainPs
      rw [List.length_cons, List.range_succ_eq_map]
      rfl
  refine ⟨?_, ht⟩
  unfold joinOk
  rw [ht, chain_nos, hv, h, Bool.true_and, Bool.and_eq_true, decide_eq_true_eq]
  refine ⟨fun e => hne ?_, samePs_yes rfl fun j ha hb => ?_⟩
  · have := congrArg List.length e
    rw [chainPs_len, List.length_nil] at this
    exact List.length_eq_zero_iff.1 this
  · have hb := chain_bare (ps := pieces s) (no := no) (v := v) _ (List.getElem_mem ha)
    generalize (chainPs (pieces s) no v)[j] = p at hb
    exact Alike.self ⟨rfl, rfl, rfl, rfl, rfl, rfl, hb, hb⟩
end Go.Proofs
/- The law PageBack: what is known of its four parts. -/
set_option linter.unusedVariables false
set_option linter.unusedSimpArgs false
namespace Go.Proofs
open Go Go.Abs
theorem dec_cases {n : Nat} (hn : 10 ≤ n) (s : Str) : (∀ h, C n 14 [.str s] h = some (.ret (.tup [.agg zeroP, i64 8]), h)) ∨ ∃ q : Page, q.Ok ∧ q.check = true ∧ q.enc = s ∧ ∀ h, C n 14 [.str s] h = some (.ret (.tup [q.av, i64 0]), h) := by
  cases hh : headOk s with
  | false => exact .inl fun h => decode_bad (by omega) s hh
  | true =>
    obtain ⟨r, e1, e2⟩ := decode_eq hn hh
    unfold DecS at e2
    cases hp : pread s with
    | none =>
      rw [hp] at e2
      simp only at e2
      subst e2
      exact .inl e1
    | some x =>
      rw [hp] at e2
      obtain ⟨q, hq, ok, e3⟩ := e2
      by_cases h : q.check = true ∧ q.enc = s
      · rw [if_pos h] at e3
        subst e3
        exact .inr ⟨q, ok, h.1, h.2, e1⟩
      · rw [if_neg h] at e3
        subst e3
        exact .inl e1
theorem chain_cases {n : Nat} (hn : 9 ≤ n) (s : Str) (hs : s.length ≤ 5000) (no : List Int) (hno : no.length ≤ 30) (sz : Nat) (hz : no ≠ [] → sz = 1) (c : Bool) (v : Int) :
    (∀ h, C n 31 [.str s, .lst sz (no.map i64) c, i64 v] h = some (.ret (.tup [.lst 0 [] true, i64 1]), h)) ∨ ∃ l : List Page, (∀ h, C n 31 [.str s, .lst sz (no.map i64) c, i64 v] h = some (.ret (.tup [.lst 10 (l.map Page.av) false, i64 0]), h)) ∧ ∀ h, C n 33 [.lst 10 (l.map Page.av) false] h = some (.ret (.tup [.str s, i64 0]), h) := by
  have cA := fun h => chain_eq (n := n) (h := h) (by omega) s (by omega) no (by omega) sz hz c v
  cases hw : chainOk s no v with
  | false =>
    rw [hw, if_neg (by decide)] at cA
    exact .inl cA
  | true =>
    rw [hw, if_pos rfl] at cA
    refine .inr ⟨_, cA, fun h => ?_⟩
    obtain ⟨h1, h2⟩ := chain_joins hw
    rw [joined_eq (n := n) (h := h) hn (chainPs (pieces s) no v) (by rw [chainPs_len]; omega) (fun p hp => by
      obtain ⟨k, _, rfl⟩ := List.mem_map.1 hp
      have := getD_piece s k
      show ((pieces s).getD k []).length ≤ 1000
      omega) (fun p hp => chainPs_ok hp) 10 (fun _ => rfl) false, h1, h2, if_pos rfl]
theorem lists_cases {n : Nat} (hn : 9 ≤ n) (l : List Freed) (hs : shortB l = true) (hi : ∀ f ∈ l, f.Ok ∧ f.pages.length < 9223372036854775808) (fz : Nat) (hfz : l ≠ [] → fz = 2) (fc : Bool) (no : List Int) (hno : no.length ≤ 30) (sz : Nat) (hz : no ≠ [] → sz = 1) (c : Bool) (v : Int) :
    (∃ (L : AV) (e : Int), e ≠ 0 ∧ ∀ h, C n 40 [.lst fz (l.map Freed.av) fc, .lst sz (no.map i64) c, i64 v] h = some (.ret (.tup [L, i64 e]), h)) ∨ ∃ (L M : AV), (∀ h, C n 40 [.lst fz (l.map Freed.av) fc, .lst sz (no.map i64) c, i64 v] h = some (.ret (.tup [L, i64 0]), h)) ∧ (∀ h, C n 42 [L] h = some (.ret (.tup [M, i64 0]), h)) ∧ ∀ h, C n 44 [M, .lst fz (l.map Freed.av) fc] h = some (.ret (.bool true), h) := by
  have hl : l.length ≤ 300 := by
    unfold shortB at hs
    rw [Bool.and_eq_true, decide_eq_true_eq] at hs
    exact hs.2
  have hw : freedOk l = true → wgt (l.map Freed.core) ≤ 1200 := fun hk => (short_wgt hs fun f hf => by
    have := (freed_few hk hi f hf).2
    omega).2
  obtain ⟨ps, sh, e, cL, spec, pz, pok⟩ := listPages_eq (n := n) (by omega) l (by omega) hi (fun hk => by have := hw hk; omega) fz hfz fc no (by omega) sz hz c v
  by_cases he : e = 0
  · subst he
    have hk : freedOk l = true := by cases spec with | ok hk => exact hk
    obtain ⟨b1, b2, b3, b4, b5⟩ := list_back spec
    have hwk := hw hk
    obtain ⟨r, c2, ⟨fs, fsh, ps2, e2, rfl, g1, g2, g3, g4⟩⟩ := listOf_eq hn ps (by omega) pok (by omega) sh.sz pz sh.c
    have hcond : ps = [] ∨ (e2 = 0 ∧ samePs ps ps2 = true) := by
      by_cases q : ps = []
      · exact .inl q
      · have g5 := g4.resolve_left q
        rw [b3, b5 q] at g5
        obtain ⟨x1, x2, x3⟩ := spec.one (g5.core (g1.trans b1))
        exact .inr ⟨x1.symm, alikes_self x2 x3⟩
    rw [if_pos hcond] at c2
    have hc : fs.map Freed.core = l.map Freed.core := g1.trans b1
    have hlen := core_len hc
    refine .inr ⟨_, _, cL, c2, fun h => ?_⟩
    rw [refFreeds_eq (n := n) (h := h) (by omega) fs l (by omega) (fun f hf => ⟨g2 f hf, by
      have h1 : f.core ∈ l.map Freed.core := by rw [← hc]; exact List.mem_map.2 ⟨f, hf, rfl⟩
      obtain ⟨g, hg, h2⟩ := List.mem_map.1 h1
      have h3 : g.pages = f.pages := congrArg Prod.snd h2
      rw [← h3]
      exact (hi g hg).2⟩) (fun f hf => (hi f hf).1) fsh.sz fz g3 hfz fsh.c fc, decide_eq_true hc]
  · exact .inl ⟨_, e, he, cL⟩
end Go.Proofs
/- The looked-up text of the functions. -/
namespace Go.Proofs
open Go Go.Abs
/- f101 understory/understoryref04.parts: 63 temporaries, depth 7, 1 parameters, results [t2] -/
/- f39 understory/understoryref04.ListNeeds: 11 temporaries, depth 4, 1 parameters, results [*t2] -/
/- f41 understory/understoryref04.ListPages: 67 temporaries, depth 7, 3 parameters, results [*t6] -/
/- f43 understory/understoryref04.ListOf: 99 temporaries, depth 7, 1 parameters, results [*t2] -/
/- f7 understory/understorylaw04.PageLists: 96 temporaries, depth 7, 4 parameters, results [t8] -/
def c7 : RC :=
 (.seq (.ops [(oP 8 (.mv (.c (.bool false))))])
 (.seq (.ops [(oP 19 (.callF 9 [])),
 (mV 9 19)])
 (.seq (.seq (.ops [(mV 20 0),
 (oP 21 (.callF 37 [(.t 20)])),
 (oP 22 (.un .not (.t 21))),
 (mV 23 22),
 (oG 24 23 false (.mv (.t 1))),
 (oG 25 23 false (.lenL (.t 24))),
 (oG 26 23 false (.bin .gtr (.t 25) (.c (.int .i64 30)))),
 (oP 27 (.pick (.t 23) (.c (.bool true)) (.t 26))),
 (mV 28 27),
 (oG 29 28 false (.mv (.t 3))),
 (oG 30 28 false (.callF 10 [(.t 29)])),
 (oG 31 28 false (.un .not (.t 30))),
 (oP 32 (.pick (.t 28) (.c (.bool true)) (.t 31)))])
 (.cond (.t 32)
 (.seq (.ops [(mV 33 9),
 (mV 8 33)])
 .ret)
 .skip))
 (.seq (.ops [(mV 35 0),
 (oP 36 (.callF 38 [(.t 35)])),
 (mV 34 36),
 (oP 37 (.extract (.t 34) 0)),
 (oP 38 (.extract (.t 34) 1)),
 (mV 10 37),
 (mV 11 38)])
 (.seq (.ops [(mV 39 0),
 (oP 40 (.callF 39 [(.t 39)])),
 (oP 12 (.alloc 92 [(.int .i64 0), (.int .i64 0)])),
 (oU (.store 2 (.t 12) (.t 40)))])
 (.seq (.ops [(mV 42 0),
 (mV 43 1),
 (mV 44 2),
 (oP 45 (.callF 40 [(.t 42), (.t 43), (.t 44)])),
 (mV 41 45),
 (oP 46 (.extract (.t 41) 0)),
 (oP 47 (.extract (.t 41) 1)),
 (mV 13 46),
 (mV 14 47)])
 (.seq (.ops [(mV 48 0),
 (mV 49 1),
 (mV 50 2),
 (oP 51 (.callF 41 [(.t 48), (.t 49), (.t 50)])),
 (oP 15 (.alloc 81 [(.lst 0 [] true), (.int .i64 0)])),
 (oU (.store 2 (.t 15) (.t 51)))])
 (.seq (.ops [(mV 53 3),
 (oP 54 (.callF 42 [(.t 53)])),
 (mV 52 54),
 (oP 55 (.extract (.t 52) 0)),
 (oP 56 (.extract (.t 52) 1)),
 (mV 16 55),
 (mV 17 56)])
 (.seq (.ops [(mV 57 3),
 (oP 58 (.callF 43 [(.t 57)])),
 (oP 18 (.alloc 99 [(.lst 0 [] true), (.int .i64 0)])),
 (oU (.store 2 (.t 18) (.t 58)))])
 (.seq (.ops [(mV 59 9),
 (mV 60 59),
 (oG 61 60 true (.mv (.t 10))),
 (oG 62 60 true (.fieldAddr 0 (.t 12))),
 (oG 63 60 true (.load false 1 (.t 62))),
 (oG 64 60 true (.bin .eql (.t 61) (.t 63))),
 (oP 65 (.pick (.t 60) (.t 64) (.c (.bool false)))),
 (mV 66 65),
 (oG 67 66 true (.mv (.t 11))),
 (oG 68 66 true (.fieldAddr 1 (.t 12))),
 (oG 69 66 true (.load false 1 (.t 68))),
 (oG 70 66 true (.bin .eql (.t 67) (.t 69))),
 (oP 71 (.pick (.t 66) (.t 70) (.c (.bool false)))),
 (mV 72 71),
 (oG 73 72 true (.mv (.t 13))),
 (oG 74 72 true (.fieldAddr 0 (.t 15))),
 (oG 75 72 true (.load false 1 (.t 74))),
 (oG 76 72 true (.callF 36 [(.t 73), (.t 75)])),
 (oP 77 (.pick (.t 72) (.t 76) (.c (.bool false)))),
 (mV 78 77),
 (oG 79 78 true (.mv (.t 14))),
 (oG 80 78 true (.fieldAddr 1 (.t 15))),
 (oG 81 78 true (.load false 1 (.t 80))),
 (oG 82 78 true (.bin .eql (.t 79) (.t 81))),
 (oP 83 (.pick (.t 78) (.t 82) (.c (.bool false)))),
 (mV 84 83),
 (oG 85 84 true (.mv (.t 16))),
 (oG 86 84 true (.fieldAddr 0 (.t 18))),
 (oG 87 84 true (.load false 1 (.t 86))),
 (oG 88 84 true (.callF 44 [(.t 85), (.t 87)])),
 (oP 89 (.pick (.t 84) (.t 88) (.c (.bool false)))),
 (mV 90 89),
 (oG 91 90 true (.mv (.t 17))),
 (oG 92 90 true (.fieldAddr 1 (.t 18))),
 (oG 93 90 true (.load false 1 (.t 92))),
 (oG 94 90 true (.bin .eql (.t 91) (.t 93))),
 (oP 95 (.pick (.t 90) (.t 94) (.c (.bool false)))),
 (mV 8 95)])
 .ret))))))))))
theorem F7 : FI 7 4 96 7 [.tmp 8] c7 := ⟨⟨Tryz.f7, Tryz.func7, by kernel_rfl, by kernel_rfl, by kernel_rfl⟩, by kernel_rfl, by decide, by kernel_rfl⟩
/- f8 understory/understorylaw04.PageBack: 136 temporaries, depth 8, 6 parameters, results [t12] -/
def c8 : RC :=
 (.seq (.ops [(oP 6 (.box 25 (.t 0))),
 (oP 12 (.mv (.c (.bool false))))])
 (.seq (.ops [(oP 27 (.callF 9 [])),
 (mV 13 27)])
 (.seq (.seq (.ops [(oP 28 (.load true 10 (.t 6))),
 (oP 29 (.mkLst 10 true 1 [(.int .i64 0), (.int .i64 0), (.int .i64 0), (.int .i64 0), (.int .i64 0), (.bool false), (.lst 0 [] true), (.int .i64 0), (.str []), (.lst 0 [] true)] [(0, 10, (.t 28))])),
 (oP 30 (.callF 10 [(.t 29)])),
 (oP 31 (.un .not (.t 30))),
 (mV 32 31),
 (oG 33 32 false (.mv (.t 1))),
 (oG 34 32 false (.lenS (.t 33))),
 (oG 35 32 false (.bin .gtr (.t 34) (.c (.int .i64 600)))),
 (oP 36 (.pick (.t 32) (.c (.bool true)) (.t 35))),
 (mV 37 36),
 (oG 38 37 false (.mv (.t 2))),
 (oG 39 37 false (.lenS (.t 38))),
 (oG 40 37 false (.bin .gtr (.t 39) (.c (.int .i64 5000)))),
 (oP 41 (.pick (.t 37) (.c (.bool true)) (.t 40))),
 (mV 42 41),
 (oG 43 42 false (.mv (.t 3))),
 (oG 44 42 false (.callF 37 [(.t 43)])),
 (oG 45 42 false (.un .not (.t 44))),
 (oP 46 (.pick (.t 42) (.c (.bool true)) (.t 45))),
 (mV 47 46),
 (oG 48 47 false (.mv (.t 4))),
 (oG 49 47 false (.lenL (.t 48))),
 (oG 50 47 false (.bin .gtr (.t 49) (.c (.int .i64 30)))),
 (oP 51 (.pick (.t 47) (.c (.bool true)) (.t 50)))])
 (.cond (.t 51)
 (.seq (.ops [(mV 52 13),
 (mV 12 52)])
 .ret)
 .skip))
 (.seq (.ops [(oP 54 (.load true 10 (.t 6))),
 (oP 55 (.callF 12 [(.t 54)])),
 (mV 53 55),
 (oP 56 (.extract (.t 53) 0)),
 (oP 57 (.extract (.t 53) 1)),
 (mV 14 56),
 (mV 15 57)])
 (.seq (.seq (.ops [(mV 58 15),
 (oP 59 (.bin .eql (.t 58) (.c (.int .i64 0))))])
 (.cond (.t 59)
 (.seq (.ops [(mV 61 14),
 (oP 62 (.callF 14 [(.t 61)])),
 (mV 60 62),
 (oP 63 (.extract (.t 60) 0)),
 (oP 64 (.extract (.t 60) 1)),
 (oP 16 (.alloc 25 [(.int .i64 0), (.int .i64 0), (.int .i64 0), (.int .i64 0), (.int .i64 0), (.bool false), (.lst 0 [] true), (.int .i64 0), (.str []), (.lst 0 [] true)])),
 (oU (.store 10 (.t 16) (.t 63))),
 (mV 17 64)])
 (.seq (.ops [(mV 65 17),
 (oP 66 (.bin .neq (.t 65) (.c (.int .i64 0)))),
 (mV 67 66),
 (oG 68 67 false (.load true 10 (.t 6))),
 (oG 69 67 false (.load true 10 (.t 16))),
 (oG 70 67 false (.callF 17 [(.t 68), (.t 69)])),
 (oG 71 67 false (.un .not (.t 70))),
 (oP 72 (.pick (.t 67) (.c (.bool true)) (.t 71)))])
 (.cond (.t 72)
 (.seq (.ops [(oP 12 (.mv (.c (.bool false))))])
 .ret)
 .skip)))
 .skip))
 (.seq (.ops [(mV 74 1),
 (oP 75 (.callF 14 [(.t 74)])),
 (mV 73 75),
 (oP 76 (.extract (.t 73) 0)),
 (oP 77 (.extract (.t 73) 1)),
 (oP 18 (.alloc 25 [(.int .i64 0), (.int .i64 0), (.int .i64 0), (.int .i64 0), (.int .i64 0), (.bool false), (.lst 0 [] true), (.int .i64 0), (.str []), (.lst 0 [] true)])),
 (oU (.store 10 (.t 18) (.t 76))),
 (mV 15 77)])
 (.seq (.seq (.ops [(mV 78 15),
 (oP 79 (.bin .eql (.t 78) (.c (.int .i64 0))))])
 (.cond (.t 79)
 (.seq (.ops [(oP 81 (.load true 10 (.t 18))),
 (oP 82 (.callF 12 [(.t 81)])),
 (mV 80 82),
 (oP 83 (.extract (.t 80) 0)),
 (oP 84 (.extract (.t 80) 1)),
 (mV 19 83),
 (mV 20 84)])
 (.seq (.ops [(mV 85 20),
 (oP 86 (.bin .neq (.t 85) (.c (.int .i64 0)))),
 (mV 87 86),
 (oG 88 87 false (.mv (.t 19))),
 (oG 89 87 false (.mv (.t 1))),
 (oG 90 87 false (.bin .neq (.t 88) (.t 89))),
 (oP 91 (.pick (.t 87) (.c (.bool true)) (.t 90)))])
 (.cond (.t 91)
 (.seq (.ops [(oP 12 (.mv (.c (.bool false))))])
 .ret)
 .skip)))
 .skip))
 (.seq (.ops [(mV 93 2),
 (mV 94 4),
 (mV 95 5),
 (oP 96 (.callF 31 [(.t 93), (.t 94), (.t 95)])),
 (mV 92 96),
 (oP 97 (.extract (.t 92) 0)),
 (oP 98 (.extract (.t 92) 1)),
 (mV 21 97),
 (mV 15 98)])
 (.seq (.seq (.ops [(mV 99 15),
 (oP 100 (.bin .eql (.t 99) (.c (.int .i64 0))))])
 (.cond (.t 100)
 (.seq (.ops [(mV 102 21),
 (oP 103 (.callF 33 [(.t 102)])),
 (mV 101 103),
 (oP 104 (.extract (.t 101) 0)),
 (oP 105 (.extract (.t 101) 1)),
 (mV 22 104),
 (mV 23 105)])
 (.seq (.ops [(mV 106 23),
 (oP 107 (.bin .neq (.t 106) (.c (.int .i64 0)))),
 (mV 108 107),
 (oG 109 108 false (.mv (.t 22))),
 (oG 110 108 false (.mv (.t 2))),
 (oG 111 108 false (.bin .neq (.t 109) (.t 110))),
 (oP 112 (.pick (.t 108) (.c (.bool true)) (.t 111)))])
 (.cond (.t 112)
 (.seq (.ops [(oP 12 (.mv (.c (.bool false))))])
 .ret)
 .skip)))
 .skip))
 (.seq (.ops [(mV 114 3),
 (mV 115 4),
 (mV 116 5),
 (oP 117 (.callF 40 [(.t 114), (.t 115), (.t 116)])),
 (mV 113 117),
 (oP 118 (.extract (.t 113) 0)),
 (oP 119 (.extract (.t 113) 1)),
 (mV 24 118),
 (mV 15 119)])
 (.seq (.seq (.ops [(mV 120 15),
 (oP 121 (.bin .eql (.t 120) (.c (.int .i64 0))))])
 (.cond (.t 121)
 (.seq (.ops [(mV 123 24),
 (oP 124 (.callF 42 [(.t 123)])),
 (mV 122 124),
 (oP 125 (.extract (.t 122) 0)),
 (oP 126 (.extract (.t 122) 1)),
 (mV 25 125),
 (mV 26 126)])
 (.seq (.ops [(mV 127 26),
 (oP 128 (.bin .neq (.t 127) (.c (.int .i64 0)))),
 (mV 129 128),
 (oG 130 129 false (.mv (.t 25))),
 (oG 131 129 false (.mv (.t 3))),
 (oG 132 129 false (.callF 44 [(.t 130), (.t 131)])),
 (oG 133 129 false (.un .not (.t 132))),
 (oP 134 (.pick (.t 129) (.c (.bool true)) (.t 133)))])
 (.cond (.t 134)
 (.seq (.ops [(oP 12 (.mv (.c (.bool false))))])
 .ret)
 .skip)))
 .skip))
 (.seq (.ops [(mV 135 13),
 (mV 12 135)])
 .ret))))))))))))
theorem F8 : FI 8 6 136 8 [.tmp 12] c8 := ⟨⟨Tryz.f8, Tryz.func8, by kernel_rfl, by kernel_rfl, by kernel_rfl⟩, by kernel_rfl, by decide, by kernel_rfl⟩
end Go.Proofs
/- Arguments as they are read: entries. -/
set_option linter.unusedVariables false
set_option linter.unusedSimpArgs false
namespace Go.Proofs
open Go Go.Abs Go.ChangeShapes Go.WideShapes Go.ChangeAt Go.RowKit

theorem ty3 : Tryz.prog.underlying 3 = some (.int .i64) := by kernel_rfl
theorem ty5 : Tryz.prog.underlying 5 = some (.int .u8) := by kernel_rfl
theorem ty9 : Tryz.prog.underlying 9 = some .string := by kernel_rfl
theorem ty4 : Tryz.prog.underlying 4 = some .bool := by kernel_rfl
theorem ty22 : Tryz.prog.underlying 22 = some (.slice 56) := by kernel_rfl
theorem ty49 : Tryz.prog.underlying 54 = some (.array 16 5) := by kernel_rfl
theorem sz51 : Tryz.prog.cellsOf 56 = 22 := by kernel_rfl
theorem sz49 : Tryz.prog.cellsOf 54 = 16 := by kernel_rfl
theorem sz5 : Tryz.prog.cellsOf 5 = 1 := by kernel_rfl
theorem own : ownKnob Tryz.prog.godebug = none := by kernel_rfl
theorem laid : laidOutB Tryz.prog = true := by kernel_rfl

section
variable {H : Type} {enc : TypeId × Value → H} {W : World} {base : Nat} {sp : Nat → Bool} {held : Bool} {fuel : Nat} {cs : List Value} {x : DataW H × List MemPlace}
theorem take_one {i : Nat} {v : Value} (h : (cs.drop i).take 1 = [v]) : cs[i]? = some v := by
  have : ((cs.drop i).take 1)[0]? = some v := by rw [h]; rfl
  simpa using this
theorem rd_dg (h : DataW.trod enc Tryz.prog W base sp held fuel 54 cs = some x) : ∃ d : Dg, VRs (cellsW W) noBM d.cells cs := by
  obtain ⟨xs, m, _, _, hl, hx, hi⟩ := DataW.trod_array ty49 h
  rw [sz49] at hl
  rw [sz5] at hi
  have hb : ∀ i, i < 16 → ∃ b : UInt8, cs[i]? = some (.int .u8 b.toNat) := fun i hi' => by
    have h1 := hi i hi'
    rw [List.getElem?_eq_getElem (by omega)] at h1
    obtain ⟨b, h2⟩ := rd_u8 ty5 h1
    rw [Nat.mul_one] at h2
    exact ⟨b, take_one h2⟩
  obtain ⟨b0, g0⟩ := hb 0 (by omega)
  obtain ⟨b1, g1⟩ := hb 1 (by omega)
  obtain ⟨b2, g2⟩ := hb 2 (by omega)
  obtain ⟨b3, g3⟩ := hb 3 (by omega)
  obtain ⟨b4, g4⟩ := hb 4 (by omega)
  obtain ⟨b5, g5⟩ := hb 5 (by omega)
  obtain ⟨b6, g6⟩ := hb 6 (by omega)
  obtain ⟨b7, g7⟩ := hb 7 (by omega)
  obtain ⟨b8, g8⟩ := hb 8 (by omega)
  obtain ⟨b9, g9⟩ := hb 9 (by omega)
  obtain ⟨b10, g10⟩ := hb 10 (by omega)
  obtain ⟨b11, g11⟩ := hb 11 (by omega)
  obtain ⟨b12, g12⟩ := hb 12 (by omega)
  obtain ⟨b13, g13⟩ := hb 13 (by omega)
  obtain ⟨b14, g14⟩ := hb 14 (by omega)
  obtain ⟨b15, g15⟩ := hb 15 (by omega)
  refine ⟨⟨b0, b1, b2, b3, b4, b5, b6, b7, b8, b9, b10, b11, b12, b13, b14, b15⟩, VRs_get (by rw [hl]; rfl) fun i a v ha hv => ?_⟩
  have hi16 : i < 16 := by
    rcases Nat.lt_or_ge i 16 with h | h
    · exact h
    · rw [List.getElem?_eq_none (by omega)] at hv; cases hv
  have : i = 0 ∨ i = 1 ∨ i = 2 ∨ i = 3 ∨ i = 4 ∨ i = 5 ∨ i = 6 ∨ i = 7 ∨ i = 8 ∨ i = 9 ∨ i = 10 ∨ i = 11 ∨ i = 12 ∨ i = 13 ∨ i = 14 ∨ i = 15 := by omega
  rcases this with rfl | rfl | rfl | rfl | rfl | rfl | rfl | rfl | rfl | rfl | rfl | rfl | rfl | rfl | rfl | rfl
  all_goals
    first
      | rw [g0] at hv | rw [g1] at hv | rw [g2] at hv | rw [g3] at hv | rw [g4] at hv | rw [g5] at hv | rw [g6] at hv | rw [g7] at hv | rw [g8] at hv | rw [g9] at hv | rw [g10] at hv | rw [g11] at hv | rw [g12] at hv | rw [g13] at hv | rw [g14] at hv | rw [g15] at hv
    cases hv
    cases ha
    unfold VR; rfl

theorem rd_entry (h : DataW.trod enc Tryz.prog W base sp held fuel 56 cs = some x) : ∃ e : Entry, VRs (cellsW W) noBM e.cells cs ∧ True := by
  obtain ⟨fs, hfs, f0, f1, f2, f3, f4, f5, f6, h0, h1, h2, h3, h4, h5, h6, t0, t1, t2, t3, t4, t5, t6, o0, o1, o2, o3, o4, o5, o6⟩ :
      ∃ fs : Array Field, Tryz.prog.underlying 56 = some (.struct fs) ∧ ∃ (f0 f1 f2 f3 f4 f5 f6 : Field), fs[0]? = some f0 ∧ fs[1]? = some f1 ∧ fs[2]? = some f2 ∧ fs[3]? = some f3 ∧ fs[4]? = some f4 ∧ fs[5]? = some f5 ∧ fs[6]? = some f6 ∧
        f0.type = 9 ∧ f1.type = 9 ∧ f2.type = 3 ∧ f3.type = 3 ∧ f4.type = 3 ∧ f5.type = 3 ∧ f6.type = 54 ∧ f0.offset = 0 ∧ f1.offset = 1 ∧ f2.offset = 2 ∧ f3.offset = 3 ∧ f4.offset = 4 ∧ f5.offset = 5 ∧ f6.offset = 6 := by
    refine ⟨_, Tryz.underlying56, _, _, _, _, _, _, _, rfl, rfl, rfl, rfl, rfl, rfl, rfl, rfl, rfl, rfl, rfl, rfl, rfl, rfl, rfl, rfl, rfl, rfl, rfl, rfl, rfl⟩
  obtain ⟨xs, n, _, _, hl, hx, hi⟩ := DataW.trod_struct hfs h
  rw [sz51] at hl
  have hsz : 7 ≤ fs.size := (Array.getElem?_eq_some_iff.1 h6).1
  have get : ∀ (i : Nat) (f : Field), fs[i]? = some f → ∃ y, DataW.trod enc Tryz.prog W base sp held n f.type ((cs.drop f.offset).take (Tryz.prog.cellsOf f.type)) = some y := fun i f hf => by
    have h := hi i f hf
    have : i < fs.size := (Array.getElem?_eq_some_iff.1 hf).1
    rw [List.getElem?_eq_getElem (by omega)] at h
    exact ⟨_, h⟩
  have s9 : Tryz.prog.cellsOf 9 = 1 := by kernel_rfl
  have s3 : Tryz.prog.cellsOf 3 = 1 := by kernel_rfl
  obtain ⟨_, y0⟩ := get 0 f0 h0
  obtain ⟨_, y1⟩ := get 1 f1 h1
  obtain ⟨_, y2⟩ := get 2 f2 h2
  obtain ⟨_, y3⟩ := get 3 f3 h3
  obtain ⟨_, y4⟩ := get 4 f4 h4
  obtain ⟨_, y5⟩ := get 5 f5 h5
  obtain ⟨_, y6⟩ := get 6 f6 h6
  rw [t0, o0, s9] at y0
  rw [t1, o1, s9] at y1
  rw [t2, o2, s3] at y2
  rw [t3, o3, s3] at y3
  rw [t4, o4, s3] at y4
  rw [t5, o5, s3] at y5
  rw [t6, o6, sz49] at y6
  obtain ⟨k, e0⟩ := rd_str ty9 y0
  obtain ⟨v, e1⟩ := rd_str ty9 y1
  obtain ⟨n2, e2, _⟩ := rd_int ty3 y2
  obtain ⟨n3, e3, _⟩ := rd_int ty3 y3
  obtain ⟨n4, e4, _⟩ := rd_int ty3 y4
  obtain ⟨n5, e5, _⟩ := rd_int ty3 y5
  obtain ⟨d, e6⟩ := rd_dg y6
  have hcs : cs = [.string ⟨k.toArray⟩, .string ⟨v.toArray⟩, .int .i64 n2, .int .i64 n3, .int .i64 n4, .int .i64 n5] ++ (cs.drop 6).take 16 := by
    have g0 := take_one e0
    have g1 := take_one e1
    have g2 := take_one e2
    have g3 := take_one e3
    have g4 := take_one e4
    have g5 := take_one e5
    apply List.ext_getElem?
    intro i
    have : i = 0 ∨ i = 1 ∨ i = 2 ∨ i = 3 ∨ i = 4 ∨ i = 5 ∨ 6 ≤ i := by omega
    rcases this with rfl | rfl | rfl | rfl | rfl | rfl | h
    · exact g0
    · exact g1
    · exact g2
    · exact g3
    · exact g4
    · exact g5
    · rw [List.getElem?_append_right (by simpa using h)]
      simp only [List.length_cons, List.length_nil]
      rw [List.getElem?_take]
      by_cases h' : i - 6 < 16
      · rw [if_pos h', List.getElem?_drop]
        show cs[i]? = cs[6 + (i - 6)]?
        rw [show 6 + (i - 6) = i by omega]
      · rw [if_neg h', List.getElem?_eq_none (by omega)]
  refine ⟨⟨k, v, n2, n3, n4, n5, d⟩, ?_, trivial⟩
  rw [hcs]
  show VRs (cellsW W) noBM ([.str k, .str v, i64 n2, i64 n3, i64 n4, i64 n5] ++ d.cells) _
  refine VRs_app ?_ e6
  repeat' (first | exact VRs_one (by unfold VR; rfl) | (refine @VRs_app _ _ [_] _ [_] _ (VRs_one (by unfold VR; rfl)) ?_))

/-- A slice of entries. -/
theorem rd_entries (h : DataW.trod enc Tryz.prog W base sp held fuel 22 cs = some x) : ∃ (l : List Entry) (v : Value), cs = [v] ∧ VR (cellsW W) noBM (.lst 22 (l.map Entry.av) false) v := by
  obtain ⟨l, v, h1, h2, _⟩ := rd_slice (g := Entry.cells) (ok := fun _ => True) ty22 sz51 (by decide) (fun fuel cs x h => rd_entry h) h
  exact ⟨l, v, h1, h2⟩
end
end Go.Proofs
/- Arguments as they are read: pages. -/
set_option linter.unusedVariables false
set_option linter.unusedSimpArgs false
namespace Go.Proofs
open Go Go.Abs Go.ChangeShapes Go.WideShapes Go.ChangeAt Go.RowKit
theorem tyPage : ∃ fs : Array Field, Tryz.prog.underlying 25 = some (.struct fs) ∧ ∃ (f0 f1 f2 f3 f4 f5 f6 f7 f8 f9 : Field), fs[0]? = some f0 ∧ fs[1]? = some f1 ∧ fs[2]? = some f2 ∧ fs[3]? = some f3 ∧ fs[4]? = some f4 ∧ fs[5]? = some f5 ∧ fs[6]? = some f6 ∧ fs[7]? = some f7 ∧ fs[8]? = some f8 ∧ fs[9]? = some f9 ∧
    f0.type = 3 ∧ f1.type = 3 ∧ f2.type = 3 ∧ f3.type = 3 ∧ f4.type = 3 ∧ f5.type = 4 ∧ f6.type = 22 ∧ f7.type = 3 ∧ f8.type = 9 ∧ f9.type = 23 ∧ f0.offset = 0 ∧ f1.offset = 1 ∧ f2.offset = 2 ∧ f3.offset = 3 ∧ f4.offset = 4 ∧ f5.offset = 5 ∧ f6.offset = 6 ∧ f7.offset = 7 ∧ f8.offset = 8 ∧ f9.offset = 9 :=
  ⟨_, Tryz.underlying25, _, _, _, _, _, _, _, _, _, _, rfl, rfl, rfl, rfl, rfl, rfl, rfl, rfl, rfl, rfl, rfl, rfl, rfl, rfl, rfl, rfl, rfl, rfl, rfl, rfl, rfl, rfl, rfl, rfl, rfl, rfl, rfl, rfl, rfl, rfl⟩
theorem tyFreed : ∃ fs : Array Field, Tryz.prog.underlying 165 = some (.struct fs) ∧ ∃ (f0 f1 : Field), fs[0]? = some f0 ∧ fs[1]? = some f1 ∧ f0.type = 3 ∧ f1.type = 70 ∧ f0.offset = 0 ∧ f1.offset = 1 :=
  ⟨_, Tryz.underlying165, _, _, rfl, rfl, rfl, rfl, rfl, rfl⟩
theorem tyInts : Tryz.prog.underlying 70 = some (.slice 3) := by kernel_rfl
theorem tyFreeds : Tryz.prog.underlying 23 = some (.slice 165) := by kernel_rfl
theorem szPage : Tryz.prog.cellsOf 25 = 10 := by kernel_rfl
theorem szFreed : Tryz.prog.cellsOf 165 = 2 := by kernel_rfl
theorem s3 : Tryz.prog.cellsOf 3 = 1 := by kernel_rfl
theorem s4 : Tryz.prog.cellsOf 4 = 1 := by kernel_rfl
theorem s9 : Tryz.prog.cellsOf 9 = 1 := by kernel_rfl
theorem sEs : Tryz.prog.cellsOf 22 = 1 := by kernel_rfl
theorem sFs : Tryz.prog.cellsOf 23 = 1 := by kernel_rfl
theorem sIs : Tryz.prog.cellsOf 70 = 1 := by kernel_rfl
theorem ER_ints {S : SM} {m : BM} {sz : Nat} : ∀ {l : List Int} {B q : Nat}, (∀ i k, l[i]? = some k → S B (q + i * sz) = some (.int .i64 k)) → ER S m sz (l.map i64) B q
  | [], _, _, _ => by unfold ER; trivial
  | k :: l, B, q, h => by
    show ER S m sz (i64 k :: l.map i64) B q
    unfold ER
    refine ⟨⟨_, by simpa using h 0 k rfl, by unfold VR; rfl⟩, ER_ints fun i k' he => ?_⟩
    have := h (i + 1) k' (by simpa using he)
    rwa [show q + (i + 1) * sz = q + sz + i * sz by rw [Nat.add_mul]; omega] at this
section
variable {H : Type} {enc : TypeId × Value → H} {W : World} {base : Nat} {sp : Nat → Bool} {held : Bool} {fuel : Nat} {cs : List Value} {x : DataW H × List MemPlace}
theorem rd_ints (h : DataW.trod enc Tryz.prog W base sp held fuel 70 cs = some x) : ∃ (l : List Int) (v : Value), cs = [v] ∧ VR (cellsW W) noBM (.lst 1 (l.map i64) false) v ∧ l.length < 9223372036854775808 := by
  rcases DataW.trod_slice tyInts h with ⟨rfl, _⟩ | ⟨a, len, cap, elems, rest, n, _, rfl, _, hb, hlc, hcm, hel, hi, _, _⟩
  · exact ⟨[], _, rfl, by unfold VR; exact ⟨none, 0, rfl, Nat.le_refl _, (fun h => by cases h), fun h => (h rfl).elim⟩, by decide⟩
  · rw [s3] at hi
    obtain ⟨l, hl, hg⟩ := list_of (p := fun i (k : Int) => W.cells? base (a.add (i * 1)) 1 = some [.int .i64 k]) len fun i hil => by
      have h1 := hi i hil
      have h2 : elems[i]? = some (elems[i]'(by omega)) := List.getElem?_eq_getElem (by omega)
      rw [h2] at h1
      obtain ⟨cs', h3, h4⟩ := Option.bind_eq_some_iff.1 h1
      obtain ⟨k, rfl, _⟩ := rd_int ty3 h4
      exact ⟨k, h3⟩
    refine ⟨l, _, rfl, ?_, by rw [hl]; unfold maxLen at hcm; omega⟩
    unfold VR
    refine ⟨some a, cap, by simp [hl], by simpa [hl] using hlc, (fun h => by cases h), fun hne => ?_⟩
    have hpos : 0 < len := by
      rcases Nat.eq_zero_or_pos len with h | h
      · subst h
        have : l = [] := List.length_eq_zero_iff.1 hl
        subst this
        exact (hne rfl).elim
      · exact h
    have hspot : a.spot = none := by
      have h1 := hg 0 l[0] (List.getElem?_eq_getElem (by omega))
      obtain ⟨_, h3, h4⟩ := World.cells?_some h1
      have h5 := h4 0 (by decide)
      have := World.cell?_spot h5
      simpa [Addr.add] using this
    obtain ⟨B, q, spot⟩ := a
    simp only at hspot
    subst hspot
    refine ⟨B, q, rfl, ER_ints fun i k hk => ?_⟩
    have h1 := hg i k hk
    obtain ⟨_, h3, h4⟩ := World.cells?_some h1
    have h6 := h4 0 (by decide)
    have e7 : ((⟨B, q, none⟩ : Addr).add (i * 1)).add 0 = ⟨B, q + i * 1, none⟩ := by
      unfold Addr.add
      by_cases e1 : i = 0 <;> simp [e1]
    rw [e7] at h6
    exact h6
theorem two_of {v0 v1 : Value} (hl : cs.length = 2) (g0 : cs[0]? = some v0) (g1 : cs[1]? = some v1) : cs = [v0, v1] := by
  match cs, hl with
  | [a, b], _ => simp at g0 g1; rw [g0, g1]
theorem rd_freed (h : DataW.trod enc Tryz.prog W base sp held fuel 165 cs = some x) : ∃ f : Freed, VRs (cellsW W) noBM f.cells cs ∧ (f.Ok ∧ f.pages.length < 9223372036854775808) := by
  obtain ⟨fs, hfs, f0, f1, h0, h1, t0, t1, o0, o1⟩ := tyFreed
  obtain ⟨xs, n, _, _, hl, hx, hi⟩ := DataW.trod_struct hfs h
  rw [szFreed] at hl
  have get : ∀ (i : Nat) (f : Field), fs[i]? = some f → ∃ y, DataW.trod enc Tryz.prog W base sp held n f.type ((cs.drop f.offset).take (Tryz.prog.cellsOf f.type)) = some y := fun i f hf => by
    have h := hi i f hf
    have : i < fs.size := (Array.getElem?_eq_some_iff.1 hf).1
    rw [List.getElem?_eq_getElem (by omega)] at h
    exact ⟨_, h⟩
  obtain ⟨_, y0⟩ := get 0 f0 h0
  obtain ⟨_, y1⟩ := get 1 f1 h1
  rw [t0, o0, s3] at y0
  rw [t1, o1, sIs] at y1
  obtain ⟨k, e0, _⟩ := rd_int ty3 y0
  obtain ⟨l, v, e1, g1, gl⟩ := rd_ints y1
  have hcs := two_of hl (take_one e0) (take_one e1)
  refine ⟨⟨k, ⟨1, false⟩, l⟩, ?_, fun _ => rfl, gl⟩
  rw [hcs]
  exact @VRs_app _ _ [_] _ [_] _ (VRs_one (a := i64 k) (by unfold VR; rfl)) (VRs_one g1)
theorem rd_freeds (h : DataW.trod enc Tryz.prog W base sp held fuel 23 cs = some x) : ∃ (l : List Freed) (v : Value), cs = [v] ∧ VR (cellsW W) noBM (.lst 2 (l.map Freed.av) false) v ∧ ∀ f ∈ l, f.Ok ∧ f.pages.length < 9223372036854775808 := by
  obtain ⟨l, v, h1, h2, h3⟩ := rd_slice (g := Freed.cells) (ok := fun f => f.Ok ∧ f.pages.length < 9223372036854775808) tyFreeds szFreed (by decide) (fun fuel cs x h => rd_freed h) h
  exact ⟨l, v, h1, h2, h3⟩
theorem ten_of {v0 v1 v2 v3 v4 v5 v6 v7 v8 v9 : Value} (hl : cs.length = 10) (g0 : cs[0]? = some v0) (g1 : cs[1]? = some v1) (g2 : cs[2]? = some v2) (g3 : cs[3]? = some v3) (g4 : cs[4]? = some v4) (g5 : cs[5]? = some v5) (g6 : cs[6]? = some v6) (g7 : cs[7]? = some v7) (g8 : cs[8]? = some v8) (g9 : cs[9]? = some v9) : cs = [v0, v1, v2, v3, v4, v5, v6, v7, v8, v9] := by
  match cs, hl with
  | [a, b, c, d, e, f, g, h, i, j], _ => simp at g0 g1 g2 g3 g4 g5 g6 g7 g8 g9; rw [g0, g1, g2, g3, g4, g5, g6, g7, g8, g9]
/-- A page. -/
theorem rd_page (h : DataW.trod enc Tryz.prog W base sp held fuel 25 cs = some x) : ∃ p : Page, VRs (cellsW W) noBM p.cells cs ∧ (p.entries ≠ [] → p.esh.sz = 22) ∧ (p.freed ≠ [] → p.fsh.sz = 2) ∧ ∀ f ∈ p.freed, f.Ok ∧ f.pages.length < 9223372036854775808 := by
  obtain ⟨fs, hfs, f0, f1, f2, f3, f4, f5, f6, f7, f8, f9, h0, h1, h2, h3, h4, h5, h6, h7, h8, h9, t0, t1, t2, t3, t4, t5, t6, t7, t8, t9, o0, o1, o2, o3, o4, o5, o6, o7, o8, o9⟩ := tyPage
  obtain ⟨xs, n, _, _, hl, hx, hi⟩ := DataW.trod_struct hfs h
  rw [szPage] at hl
  have get : ∀ (i : Nat) (f : Field), fs[i]? = some f → ∃ y, DataW.trod enc Tryz.prog W base sp held n f.type ((cs.drop f.offset).take (Tryz.prog.cellsOf f.type)) = some y := fun i f hf => by
    have h := hi i f hf
    have : i < fs.size := (Array.getElem?_eq_some_iff.1 hf).1
    rw [List.getElem?_eq_getElem (by omega)] at h
    exact ⟨_, h⟩
  obtain ⟨_, y0⟩ := get 0 f0 h0
  obtain ⟨_, y1⟩ := get 1 f1 h1
  obtain ⟨_, y2⟩ := get 2 f2 h2
  obtain ⟨_, y3⟩ := get 3 f3 h3
  obtain ⟨_, y4⟩ := get 4 f4 h4
  obtain ⟨_, y5⟩ := get 5 f5 h5
  obtain ⟨_, y6⟩ := get 6 f6 h6
  obtain ⟨_, y7⟩ := get 7 f7 h7
  obtain ⟨_, y8⟩ := get 8 f8 h8
  obtain ⟨_, y9⟩ := get 9 f9 h9
  rw [t0, o0, s3] at y0
  rw [t1, o1, s3] at y1
  rw [t2, o2, s3] at y2
  rw [t3, o3, s3] at y3
  rw [t4, o4, s3] at y4
  rw [t5, o5, s4] at y5
  rw [t6, o6, sEs] at y6
  rw [t7, o7, s3] at y7
  rw [t8, o8, s9] at y8
  rw [t9, o9, sFs] at y9
  obtain ⟨n0, e0, _⟩ := rd_int ty3 y0
  obtain ⟨n1, e1, _⟩ := rd_int ty3 y1
  obtain ⟨n2, e2, _⟩ := rd_int ty3 y2
  obtain ⟨n3, e3, _⟩ := rd_int ty3 y3
  obtain ⟨n4, e4, _⟩ := rd_int ty3 y4
  obtain ⟨b5, e5⟩ := rd_bool ty4 y5
  obtain ⟨es, v6, e6, g6⟩ := rd_entries y6
  obtain ⟨n7, e7, _⟩ := rd_int ty3 y7
  obtain ⟨s8, e8⟩ := rd_str ty9 y8
  obtain ⟨fr, v9, e9, g9, ok9⟩ := rd_freeds y9
  have hcs := ten_of hl (take_one e0) (take_one e1) (take_one e2) (take_one e3) (take_one e4) (take_one e5) (take_one e6) (take_one e7) (take_one e8) (take_one e9)
  refine ⟨⟨n0, n1, n2, n3, n4, b5, ⟨22, false⟩, es, n7, s8, ⟨2, false⟩, fr⟩, ?_, fun _ => rfl, fun _ => rfl, ok9⟩
  rw [hcs]
  show VRs (cellsW W) noBM [i64 n0, i64 n1, i64 n2, i64 n3, i64 n4, .bool b5, .lst 22 (es.map Entry.av) false, i64 n7, .str s8, .lst 2 (fr.map Freed.av) false] _
  have fi : ∀ k : Int, VR (cellsW W) noBM (i64 k) (.int .i64 k) := fun k => by unfold VR; rfl
  have fb : VR (cellsW W) noBM (.bool b5) (.bool b5) := by unfold VR; rfl
  have fs : VR (cellsW W) noBM (.str s8) (.string ⟨s8.toArray⟩) := by unfold VR; rfl
  exact @VRs_app _ _ [_] _ [_] _ (VRs_one (fi n0)) (@VRs_app _ _ [_] _ [_] _ (VRs_one (fi n1)) (@VRs_app _ _ [_] _ [_] _ (VRs_one (fi n2)) (@VRs_app _ _ [_] _ [_] _ (VRs_one (fi n3)) (@VRs_app _ _ [_] _ [_] _ (VRs_one (fi n4)) (@VRs_app _ _ [_] _ [_] _ (VRs_one fb) (@VRs_app _ _ [_] _ [_] _ (VRs_one g6) (@VRs_app _ _ [_] _ [_] _ (VRs_one (fi n7)) (@VRs_app _ _ [_] _ [_] _ (VRs_one fs) (VRs_one g9)))))))))
end
end Go.Proofs
/- The chapter's examples hold: by runs of the small machine. -/
set_option linter.unusedVariables false
set_option linter.unusedSimpArgs false
namespace Go.Proofs
open Go Go.Abs
def ex : AV := .agg [.int .i64 (1), .int .i64 (2), .int .i64 (1), .int .i64 (0), .int .i64 (0), .bool true, .lst 22 [.agg [.str [97, 98], .str [120], .int .i64 (0), .int .i64 (0), .int .i64 (0), .int .i64 (0), .int .u8 (0), .int .u8 (0), .int .u8 (0), .int .u8 (0), .int .u8 (0), .int .u8 (0), .int .u8 (0), .int .u8 (0), .int .u8 (0), .int .u8 (0), .int .u8 (0), .int .u8 (0), .int .u8 (0), .int .u8 (0), .int .u8 (0), .int .u8 (0)], .agg [.str [97, 99], .str [121, 122], .int .i64 (0), .int .i64 (0), .int .i64 (0), .int .i64 (0), .int .u8 (0), .int .u8 (0), .int .u8 (0), .int .u8 (0), .int .u8 (0), .int .u8 (0), .int .u8 (0), .int .u8 (0), .int .u8 (0), .int .u8 (0), .int .u8 (0), .int .u8 (0), .int .u8 (0), .int .u8 (0), .int .u8 (0), .int .u8 (0)]] true, .int .i64 (0), .str [], .lst 0 [] true]
def st : AV := .str [85, 1, 0, 0, 0, 2, 0, 0, 0, 0, 0, 1, 0, 0, 1, 1, 0, 2, 97, 0, 23, 0, 28, 1, 98, 0, 1, 120, 1, 99, 0, 2, 121, 122, 0, 0, 0, 0, 0, 0, 0, 0, 0, 0, 0, 0, 0, 0, 0, 0, 0, 0, 0, 0, 0, 0, 0, 0, 0, 0, 0, 0, 0, 0, 0, 0, 0, 0, 0, 0, 0, 0, 0, 0, 0, 0, 0, 0, 0, 0, 0, 0, 0, 0, 0, 0, 0, 0, 0, 0, 0, 0, 0, 0, 0, 0, 0, 0, 0, 0, 0, 0, 0, 0, 0, 0, 0, 0, 0, 0, 0, 0, 0, 0, 0, 0, 0, 0, 0, 0, 0, 0, 0, 0, 0, 0, 0, 0, 0, 0, 0, 0, 0, 0, 0, 0, 0, 0, 0, 0, 0, 0, 0, 0, 0, 0, 0, 0, 0, 0, 0, 0, 0, 0, 0, 0, 0, 0, 0, 0, 0, 0, 0, 0, 0, 0, 0, 0, 0, 0, 0, 0, 0, 0, 0, 0, 0, 0, 0, 0, 0, 0, 0, 0, 0, 0, 0, 0, 0, 0, 0, 0, 0, 0, 0, 0, 0, 0, 0, 0, 0, 0, 0, 0, 0, 0, 0, 0, 0, 0, 0, 0, 0, 0, 0, 0, 0, 0, 0, 0, 0, 0, 0, 0, 0, 0, 0, 0, 0, 0, 0, 0, 0, 0, 0, 0, 0, 0, 0, 0, 0, 0, 0, 0, 0, 0, 0, 0, 0, 0, 0, 0, 0, 0, 0, 0, 0, 0, 0, 0, 0, 0, 0, 0, 0, 0, 0, 0, 0, 0, 0, 0, 0, 0, 0, 0, 0, 0, 0, 0, 0, 0, 0, 0, 0, 0, 0, 0, 0, 0, 0, 0, 0, 0, 0, 0, 0, 0, 0, 0, 0, 0, 0, 0, 0, 0, 0, 0, 0, 0, 0, 0, 0, 0, 0, 0, 0, 0, 0, 0, 0, 0, 0, 0, 0, 0, 0, 0, 0, 0, 0, 0, 0, 0, 0, 0, 0, 0, 0, 0, 0, 0, 0, 0, 0, 0, 0, 0, 0, 0, 0, 0, 0, 0, 0, 0, 0, 0, 0, 0, 0, 0, 0, 0, 0, 0, 0, 0, 0, 0, 0, 0, 0, 0, 0, 0, 0, 0, 0, 0, 0, 0, 0, 0, 0, 0, 0, 0, 0, 0, 0, 0, 0, 0, 0, 0, 0, 0, 0, 0, 0, 0, 0, 0, 0, 0, 0, 0, 0, 0, 0, 0, 0, 0, 0, 0, 0, 0, 0, 0, 0, 0, 0, 0, 0, 0, 0, 0, 0, 0, 0, 0, 0, 0, 0, 0, 0, 0, 0, 0, 0, 0, 0, 0, 0, 0, 0, 0, 0, 0, 0, 0, 0, 0, 0, 0, 0, 0, 0, 0, 0, 0, 0, 0, 0, 0, 0, 0, 0, 0, 0, 0, 0, 0, 0, 0, 0, 0, 0, 0, 0, 0, 0, 0, 0, 0, 0, 0, 0, 0, 0, 0, 0, 0, 0, 0, 0, 0, 0, 0, 0, 0, 0, 0, 0, 0, 0, 0, 53, 146, 233, 230]

theorem enc_run : CN Tryz.prog cfg1 20 12 [ex] [] = some (.ret (.tup [st, .int .i64 0]), []) := by kernel_rfl
def sum2 : FuncId → List AV → Option AV := fun f args => cond (Nat.beq f 12) (cond (beqVs args [ex]) (some (.tup [st, .int .i64 0])) none) (sum1 f args)
def cfg2 : Cfg := ⟨inl0, sum2, fun _ _ _ => none, fun _ => false⟩
theorem enc_pure : PureCalls Tryz.prog 12 [ex] (.ret (.tup [st, .int .i64 0])) := pure_of_CN sum1_ok rfl enc_run
theorem sum2_sound : ∀ f args v, cfg2.sum f args = some v → PureCalls Tryz.prog f args (.ret v) := fun f args v h => by
  change sum2 f args = some v at h
  unfold sum2 at h
  cases hf : Nat.beq f 12 with
  | false => rw [hf] at h; exact sum1_sound f args v h
  | true =>
    rw [hf] at h
    have : f = 12 := Nat.eq_of_beq_eq_true hf
    subst this
    simp only [cond] at h
    cases hb : beqVs args [ex] with
    | false => rw [hb] at h; cases h
    | true =>
      rw [hb] at h
      have := beqVs_eq args hb
      subst this
      cases h
      exact enc_pure
theorem sum2_ok : SumOk Tryz.prog cfg2 := ⟨sum2_sound, noMem _⟩
theorem sane_run : CN Tryz.prog cfg2 20 9 [] [] = some (.ret (.bool true), []) := by kernel_rfl
theorem sane_pure : PureCalls Tryz.prog 9 [] (.ret (.bool true)) := pure_of_CN sum2_ok rfl sane_run
end Go.Proofs
/- What the library says of sorting numbers, and of dropping equal neighbours, at this program. -/
set_option linter.unusedVariables false
set_option linter.unusedSimpArgs false
namespace Go.Proofs
open Go.Shelf
def Tryz.lays189_ren : Go.Shelf.Ren := ⟨fun | 189 => 130 | 125 => 163 | 257 => 162 | 128 => 186 | 129 => 187 | 294 => 177 | 295 => 178 | 296 => 179 | 297 => 180 | 298 => 181 | 299 => 182 | 216 => 183 | 300 => 184 | 301 => 185 | 328 => 194 | 329 => 195 | 330 => 196 | 331 => 197 | 332 => 198 | 215 => 199 | 343 => 201 | n => n, fun | 28 => 70 | 3 => 3 | 46 => 179 | 0 => 0 | 51 => 184 | 53 => 224 | 4 => 4 | 183 => 254 | 182 => 253 | 131 => 148 | 5 => 5 | 9 => 9 | 218 => 266 | 222 => 270 | 228 => 272 | 229 => 273 | n => n, fun | n => n⟩
theorem Tryz.lays189 : Go.Proofs.Lays.n189 Tryz.prog Tryz.lays189_ren := {
  mixed := by kernel_rfl
  f125 := Tryz.func163.trans (congrArg some (by kernel_rfl))
  f128 := Tryz.func186.trans (congrArg some (by kernel_rfl))
  f129 := Tryz.func187.trans (congrArg some (by kernel_rfl))
  f189 := Tryz.func130.trans (congrArg some (by kernel_rfl))
  f215 := Tryz.func199.trans (congrArg some (by kernel_rfl))
  f216 := Tryz.func183.trans (congrArg some (by kernel_rfl))
  f257 := Tryz.func162.trans (congrArg some (by kernel_rfl))
  f294 := Tryz.func177.trans (congrArg some (by kernel_rfl))
  f295 := Tryz.func178.trans (congrArg some (by kernel_rfl))
  f296 := Tryz.func179.trans (congrArg some (by kernel_rfl))
  f297 := Tryz.func180.trans (congrArg some (by kernel_rfl))
  f298 := Tryz.func181.trans (congrArg some (by kernel_rfl))
  f299 := Tryz.func182.trans (congrArg some (by kernel_rfl))
  f300 := Tryz.func184.trans (congrArg some (by kernel_rfl))
  f301 := Tryz.func185.trans (congrArg some (by kernel_rfl))
  f328 := Tryz.func194.trans (congrArg some (by kernel_rfl))
  f329 := Tryz.func195.trans (congrArg some (by kernel_rfl))
  f330 := Tryz.func196.trans (congrArg some (by kernel_rfl))
  f331 := Tryz.func197.trans (congrArg some (by kernel_rfl))
  f332 := Tryz.func198.trans (congrArg some (by kernel_rfl))
  f343 := Tryz.func201.trans (congrArg some (by kernel_rfl))
  t0 := Tryz.underlying0
  a0 := Tryz.isAgg0
  z0 := Tryz.sizeOf0
  v0 := Tryz.zeroValue0
  t3 := Tryz.underlying3
  a3 := Tryz.isAgg3
  z3 := Tryz.sizeOf3
  v3 := Tryz.zeroValue3
  t4 := Tryz.underlying4
  a4 := Tryz.isAgg4
  z4 := Tryz.sizeOf4
  v4 := Tryz.zeroValue4
  t5 := Tryz.underlying5
  a5 := Tryz.isAgg5
  z5 := Tryz.sizeOf5
  v5 := Tryz.zeroValue5
  t9 := Tryz.underlying9
  a9 := Tryz.isAgg9
  z9 := Tryz.sizeOf9
  v9 := Tryz.zeroValue9
  t28 := Tryz.underlying70
  a28 := Tryz.isAgg70
  z28 := Tryz.sizeOf70
  v28 := Tryz.zeroValue70
  t46 := Tryz.underlying179
  a46 := Tryz.isAgg179
  z46 := Tryz.sizeOf179
  v46 := Tryz.zeroValue179
  t51 := Tryz.underlying184
  a51 := Tryz.isAgg184
  z51 := Tryz.sizeOf184
  v51 := Tryz.zeroValue184
  t53 := Tryz.underlying224
  a53 := Tryz.isAgg224
  z53 := Tryz.sizeOf224
  v53 := Tryz.zeroValue224
  t131 := Tryz.underlying148
  a131 := Tryz.isAgg148
  z131 := Tryz.sizeOf148
  v131 := Tryz.zeroValue148
  t182 := Tryz.underlying253
  a182 := Tryz.isAgg253
  z182 := Tryz.sizeOf253
  v182 := Tryz.zeroValue253
  t183 := Tryz.underlying254
  a183 := Tryz.isAgg254
  z183 := Tryz.sizeOf254
  v183 := Tryz.zeroValue254
  t218 := Tryz.underlying266
  a218 := Tryz.isAgg266
  z218 := Tryz.sizeOf266
  v218 := Tryz.zeroValue266
  t222 := Tryz.underlying270
  a222 := Tryz.isAgg270
  z222 := Tryz.sizeOf270
  v222 := Tryz.zeroValue270
  t228 := Tryz.underlying272
  a228 := Tryz.isAgg272
  z228 := Tryz.sizeOf272
  v228 := Tryz.zeroValue272
  t229 := Tryz.underlying273
  a229 := Tryz.isAgg273
  z229 := Tryz.sizeOf273
  v229 := Tryz.zeroValue273 }
open Go.Sort Go.RowKit in
theorem Tryz.slices_Sort_int (blk off cap : Nat) (zs : List Int) (w : World) (hH : Holds (Value.int .i64) w blk off zs.toArray) (hblk : blk < w.heap.size) (hsz : zs.length < 4611686018427387904) :
    Calls Tryz.prog 130 #[.slice (some ⟨blk, off, none⟩) zs.length cap] w fun e w' =>
      e = .returned (.tuple #[]) ∧ ∃ n os, w' = grow (putRow (Value.int .i64) (Sort.ahead w n) blk off (zs.mergeSort fun x y => decide (x ≤ y)).toArray) os := Any.slices_Sort_int Tryz.lays189 blk off cap zs w hH hblk hsz
def Tryz.laysNm220_ren : Go.Shelf.Ren := ⟨fun | 20 => 131 | n => n, fun | 22 => 70 | 3 => 3 | 4 => 4 | 0 => 0 | n => n, fun | n => n⟩
theorem Tryz.laysNm220 : Go.Proofs.Lays2.n20 Tryz.prog Tryz.laysNm220_ren := {
  mixed := by kernel_rfl
  f20 := Tryz.func131.trans (congrArg some (by kernel_rfl))
  t0 := Tryz.underlying0
  a0 := Tryz.isAgg0
  z0 := Tryz.sizeOf0
  v0 := Tryz.zeroValue0
  t3 := Tryz.underlying3
  a3 := Tryz.isAgg3
  z3 := Tryz.sizeOf3
  v3 := Tryz.zeroValue3
  t4 := Tryz.underlying4
  a4 := Tryz.isAgg4
  z4 := Tryz.sizeOf4
  v4 := Tryz.zeroValue4
  t22 := Tryz.underlying70
  a22 := Tryz.isAgg70
  z22 := Tryz.sizeOf70
  v22 := Tryz.zeroValue70
  i3 := by kernel_rfl }
open Go.RowKit Go.Lib Go.Sort in
theorem Tryz.slices_Compact_int (blk off cap : Nat) (zs : List Int) (w : World) (hH : Holds (Value.int .i64) w blk off zs.toArray) (hsz : zs.length ≤ 9223372036854775807) (hcap : zs.length ≤ cap) :
    Calls Tryz.prog 131 #[.slice (some ⟨blk, off, none⟩) zs.length cap] w fun e w' => e = .returned (.slice (some ⟨blk, off, none⟩) (Lib.compact zs).length cap) ∧ ∃ q, w' = putRow (Value.int .i64) (Sort.ahead w q) blk off (Lib.compact zs ++ List.replicate (zs.length - (Lib.compact zs).length) 0).toArray := Any.slices_Compact_int Tryz.laysNm220 blk off cap zs w hH hsz hcap
def Tryz.laysNm215_ren : Go.Shelf.Ren := ⟨fun | 15 => 102 | n => n, fun | 22 => 70 | 3 => 3 | 4 => 4 | n => n, fun | n => n⟩
theorem Tryz.laysNm215 : Go.Proofs.Lays2.n15 Tryz.prog Tryz.laysNm215_ren := {
  mixed := by kernel_rfl
  f15 := Tryz.func102.trans (congrArg some (by kernel_rfl))
  t3 := Tryz.underlying3
  a3 := Tryz.isAgg3
  z3 := Tryz.sizeOf3
  v3 := Tryz.zeroValue3
  t4 := Tryz.underlying4
  a4 := Tryz.isAgg4
  z4 := Tryz.sizeOf4
  v4 := Tryz.zeroValue4
  t22 := Tryz.underlying70
  a22 := Tryz.isAgg70
  z22 := Tryz.sizeOf70
  v22 := Tryz.zeroValue70
  i3 := by kernel_rfl }
open Go.RowKit Go.Lib in
theorem Tryz.slices_Clone_int_nil (n c : Nat) (w : World) :
    Calls Tryz.prog 102 #[.slice none n c] w fun e w' => e = .returned (.slice none 0 0) ∧ w' = w := Any.slices_Clone_int_nil Tryz.laysNm215 n c w
open Go.RowKit Go.Sort in
theorem Tryz.slices_Sort_int_none (p : Option Addr) (cap : Nat) (w : World) :
    Calls Tryz.prog 130 #[.slice p 0 cap] w fun e w' => e = .returned (.tuple #[]) ∧ w' = w := Any.slices_Sort_int_none Tryz.lays189 p cap w
open Go.RowKit Go.Lib Go.Sort in
theorem Tryz.slices_Compact_int_empty (a : Option Addr) (cap : Nat) (w : World) :
    Calls Tryz.prog 131 #[.slice a 0 cap] w fun e w' => e = .returned (.slice a 0 cap) ∧ w' = w := Any.slices_Compact_int_empty Tryz.laysNm220 a cap w

open Go.Abs in
theorem clone_run (p : Option Addr) (a : Addr) (c : Nat) (w : World) : (Builtin.append_ #[70, 70] 70 #[.slice p 0 0, .slice (some a) 0 c]).run Tryz.prog w = .ok (.slice p 0 0) w := by
  refine append_room (e := 3) (du := .slice 3) (len := 0) (n := 0) (us := []) Tryz.underlying70 Tryz.underlying70 (fun k q => by cases q) (d := ⟨.int .i64, 1, 8, [.int .i64 0]⟩) (by kernel_rfl) ?_ ?_ (Nat.le_refl _) ?_
  · simp [Builtin.lenOf]
  · simp [Builtin.firstCells, loadCells, loadCellsFrom]
  · cases p <;> simp [storeCells]
open Go.RowKit Go.Lib in
theorem clone_zero (a : Addr) (c : Nat) (w : World) : Calls Tryz.prog 102 #[.slice (some a) 0 c] w fun e w' => ∃ p, e = .returned (.slice p 0 0) ∧ Below w.heap.size w w' := by
  have q22 : ∀ (w : World) (a : Option Addr) (n c n' c' : Nat), (binOp .eql 70 (.slice a n c) (.slice none n' c')).run Tryz.prog w = .ok (.bool a.isNone) w := fun w a n c n' c' => Lib.run_eql_slice_nil w _ _ a n c n' c' Tryz.underlying70
  go_enter Tryz.func102, Tryz.ntmps102
  go_wp2_with (at_builtin; refine Lib.wpList_append_run _ rfl _ _ 70 70 rfl _ _ rfl rfl _ _ (clone_run _ _ _ _) ?_)
  go_wp2
  go_ret
  exact ⟨_, rfl, (Below.refl _ w).alloc (Nat.le_refl _) _⟩
open Go.Abs in
theorem mem0_ok : MemOk Tryz.prog mem0 := memS_ok ⟨fun p cap w => Tryz.slices_Sort_int_none p cap w, fun blk off cap zs w hH hblk hsz => Tryz.slices_Sort_int blk off cap zs w hH hblk hsz⟩ ⟨fun p cap w => Tryz.slices_Compact_int_empty p cap w, fun blk off cap zs w hH hsz hcap => Tryz.slices_Compact_int blk off cap zs w hH hsz hcap⟩ ⟨fun n c w => Tryz.slices_Clone_int_nil n c w, fun a c w => clone_zero a c w⟩
end Go.Proofs
/- What is known holds. -/
set_option linter.unusedVariables false
set_option linter.unusedSimpArgs false
namespace Go.Proofs
open Go Go.Abs
theorem sum0_sound : ∀ f args v, cfg0.sum f args = some v → PureCalls Tryz.prog f args (.ret v) := fun f args v h => by
  change sum0 f args = some v at h
  unfold sum0 at h
  cases hf : Nat.beq f 9 with
  | false => rw [hf] at h; exact sum1_sound f args v h
  | true =>
    rw [hf] at h
    have : f = 9 := Nat.eq_of_beq_eq_true hf
    subst this
    simp only [cond] at h
    split at h
    · cases h; exact sane_pure
    · cases h
theorem sum0_ok : SumOk Tryz.prog cfg0 := ⟨sum0_sound, mem0_ok⟩
end Go.Proofs
/- The law PageBack: for every input it returns true. -/
set_option linter.unusedVariables false
set_option linter.unusedSimpArgs false
namespace Go.Proofs
open Go Go.Abs Go.ChangeShapes Go.WideShapes Go.ChangeAt Go.RowKit
theorem small_okb {p : Page} (h : smallB p = true) (o1 : p.entries ≠ [] → p.esh.sz = 22) (o2 : p.freed ≠ [] → p.fsh.sz = 2) (o3 : ∀ f ∈ p.freed, f.Ok ∧ f.pages.length < 9223372036854775808) : p.Ok := by
  unfold smallB shortB at h
  simp only [Bool.and_eq_true, decide_eq_true_eq] at h
  obtain ⟨h1, ⟨_, h2⟩, h3⟩ := h
  obtain ⟨h4, h5⟩ := few_iff.1 h1
  exact ⟨o1, o2, by omega, by omega, by omega, fun e he => by have := h5 e he; exact ⟨by omega, by omega⟩, o3⟩
theorem pageBack_eq {n : Nat} {h : AHeap} (hn : 13 ≤ n) (p : Page) (o1 : p.entries ≠ [] → p.esh.sz = 22) (o2 : p.freed ≠ [] → p.fsh.sz = 2) (o3 : ∀ f ∈ p.freed, f.Ok ∧ f.pages.length < 9223372036854775808) (s value : Str) (l : List Freed) (hi : ∀ f ∈ l, f.Ok ∧ f.pages.length < 9223372036854775808) (fz : Nat) (hfz : l ≠ [] → fz = 2) (fc : Bool) (no : List Int) (nz : Nat) (hnz : no ≠ [] → nz = 1) (nc : Bool) (v : Int) :
    C n 8 [p.av, .str s, .str value, .lst fz (l.map Freed.av) fc, .lst nz (no.map i64) nc, i64 v] h = some (.ret (.bool true), h) := by
  obtain ⟨m, rfl⟩ : ∃ m, n = m + 1 := ⟨n - 1, by omega⟩
  have cs : ∀ h, C m 9 [] h = some (.ret (.bool true), h) := fun h => sane_eq (by omega) h
  have csm : ∀ h, C m 10 [.lst 10 [p.av] true] h = some (.ret (.bool (smallB p)), h) := fun h => small_eq (by omega) p o1 o2
  have csh : ∀ h, C m 37 [.lst fz (l.map Freed.av) fc] h = some (.ret (.bool (shortB l)), h) := fun h => short_eq (by omega) l fz hfz fc
  have hpure : pureBs [p.av, .str s, .str value, .lst fz (l.map Freed.av) fc, .lst nz (no.map i64) nc, i64 v] = true := by
    show (p.av.pureB && (AV.pureB (.str s) && (AV.pureB (.str value) && pureBs [.lst fz (l.map Freed.av) fc, .lst nz (no.map i64) nc, i64 v]))) = true
    rw [pure_lst freed_pure l (ints_pure no rfl), page_pure]
    rfl
  cases hs : smallB p with
  | false =>
    rw [hs] at csm
    refine fun_pure F8 rfl rfl rfl hpure ?_
    conv => whnf
    refine clI (cs _) ?_
    conv => whnf
    refine ldI (by rfl) ?_
    conv => whnf
    refine ⟨rfl, ?_⟩
    conv => whnf
    refine clI (csm _) ?_
    conv => whnf
    exact retP rfl (frz_bool rfl)
  | true =>
    rw [hs] at csm
    have ok := small_okb hs o1 o2 o3
    refine fun_pure F8 rfl rfl rfl hpure ?_
    conv => whnf
    refine clI (cs _) ?_
    conv => whnf
    refine ldI (by rfl) ?_
    conv => whnf
    refine ⟨rfl, ?_⟩
    conv => whnf
    refine clI (csm _) ?_
    conv => whnf
    refine brd (fun a => ?_) (fun a1 => ?_)
    · conv => whnf
      exact retP rfl (frz_bool rfl)
    conv => whnf
    refine brd (fun a => ?_) (fun a2 => ?_)
    · conv => whnf
      exact retP rfl (frz_bool rfl)
    cases hsh : shortB l with
    | false =>
      rw [hsh] at csh
      conv => whnf
      refine clI (csh _) ?_
      conv => whnf
      exact retP rfl (frz_bool rfl)
    | true =>
      rw [hsh] at csh
      conv => whnf
      refine clI (csh _) ?_
      conv => whnf
      refine brd (fun a => ?_) (fun a3 => ?_)
      · conv => whnf
        exact retP rfl (frz_bool rfl)
      have hno : no.length ≤ 30 := by simp only [List.length_map] at a3; omega
      have cE := fun h => encode_eq (n := m) (h := h) (by omega) p ok
      have hD := dec_cases (n := m) (by omega) s
      have hC := chain_cases (n := m) (by omega) value (by omega) no hno nz hnz nc v
      have hL := lists_cases (n := m) (by omega) l hsh hi fz hfz fc no hno nz hnz nc v
      conv => whnf
      refine ldI (by rfl) ?_
      cases hc : p.check with
      | false =>
        rw [hc] at cE
        conv => whnf
        refine clI (cE _) ?_
        rcases hD with cD2 | ⟨q2, okq2, hc2, he2, cD2⟩
        · conv => whnf
          refine clI (cD2 _) ?_
          conv => whnf
          refine stI (xs := zeroP) (by rfl) (by rfl) (by rfl) (by rfl) (by rfl) ?_
          rcases hC with cC | ⟨cl, cC, cJ⟩
          · conv => whnf
            refine clI (cC _) ?_
            rcases hL with ⟨L, e, he, cL⟩ | ⟨L, M, cL, cO, cF⟩
            · conv => whnf
              refine clI (cL _) ?_
              conv => whnf
              refine bre (fun q => absurd q he) (fun _ => ?_)
              conv => whnf
              exact retP rfl (frz_bool rfl)
            · conv => whnf
              refine clI (cL _) ?_
              conv => whnf
              refine clI (cO _) ?_
              conv => whnf
              refine clI (cF _) ?_
              conv => whnf
              exact retP rfl (frz_bool rfl)
          · conv => whnf
            refine clI (cC _) ?_
            conv => whnf
            refine clI (cJ _) ?_
            conv => whnf
            refine brq (fun q => absurd rfl q) (fun _ => ?_)
            rcases hL with ⟨L, e, he, cL⟩ | ⟨L, M, cL, cO, cF⟩
            · conv => whnf
              refine clI (cL _) ?_
              conv => whnf
              refine bre (fun q => absurd q he) (fun _ => ?_)
              conv => whnf
              exact retP rfl (frz_bool rfl)
            · conv => whnf
              refine clI (cL _) ?_
              conv => whnf
              refine clI (cO _) ?_
              conv => whnf
              refine clI (cF _) ?_
              conv => whnf
              exact retP rfl (frz_bool rfl)
        · have cE2 := fun h => encode_eq (n := m) (h := h) (by omega) q2 okq2
          rw [hc2, he2] at cE2
          conv => whnf
          refine clI (cD2 _) ?_
          conv => whnf
          refine stI (xs := q2.cells) (by rfl) (by rfl) (by rfl) (by rfl) (by rfl) ?_
          conv => whnf
          refine ldI (by rfl) ?_
          conv => whnf
          refine clI (cE2 _) ?_
          conv => whnf
          refine brq (fun q => absurd rfl q) (fun _ => ?_)
          rcases hC with cC | ⟨cl, cC, cJ⟩
          · conv => whnf
            refine clI (cC _) ?_
            rcases hL with ⟨L, e, he, cL⟩ | ⟨L, M, cL, cO, cF⟩
            · conv => whnf
              refine clI (cL _) ?_
              conv => whnf
              refine bre (fun q => absurd q he) (fun _ => ?_)
              conv => whnf
              exact retP rfl (frz_bool rfl)
            · conv => whnf
              refine clI (cL _) ?_
              conv => whnf
              refine clI (cO _) ?_
              conv => whnf
              refine clI (cF _) ?_
              conv => whnf
              exact retP rfl (frz_bool rfl)
          · conv => whnf
            refine clI (cC _) ?_
            conv => whnf
            refine clI (cJ _) ?_
            conv => whnf
            refine brq (fun q => absurd rfl q) (fun _ => ?_)
            rcases hL with ⟨L, e, he, cL⟩ | ⟨L, M, cL, cO, cF⟩
            · conv => whnf
              refine clI (cL _) ?_
              conv => whnf
              refine bre (fun q => absurd q he) (fun _ => ?_)
              conv => whnf
              exact retP rfl (frz_bool rfl)
            · conv => whnf
              refine clI (cL _) ?_
              conv => whnf
              refine clI (cO _) ?_
              conv => whnf
              refine clI (cF _) ?_
              conv => whnf
              exact retP rfl (frz_bool rfl)
      | true =>
        rw [hc] at cE
        obtain ⟨q, hq, okq, cD⟩ := decode_enc (n := m) (by omega) hc
        have cS := fun h => refSame_eq (n := m) (h := h) (by omega) hq ok okq
        conv => whnf
        refine clI (cE _) ?_
        conv => whnf
        refine clI (cD _) ?_
        conv => whnf
        refine stI (xs := q.cells) (by rfl) (by rfl) (by rfl) (by rfl) (by rfl) ?_
        conv => whnf
        refine ldI (by rfl) ?_
        conv => whnf
        refine ldI (by rfl) ?_
        conv => whnf
        refine clI (cS _) ?_
        rcases hD with cD2 | ⟨q2, okq2, hc2, he2, cD2⟩
        · conv => whnf
          refine clI (cD2 _) ?_
          conv => whnf
          refine stI (xs := zeroP) (by rfl) (by rfl) (by rfl) (by rfl) (by rfl) ?_
          rcases hC with cC | ⟨cl, cC, cJ⟩
          · conv => whnf
            refine clI (cC _) ?_
            rcases hL with ⟨L, e, he, cL⟩ | ⟨L, M, cL, cO, cF⟩
            · conv => whnf
              refine clI (cL _) ?_
              conv => whnf
              refine bre (fun q => absurd q he) (fun _ => ?_)
              conv => whnf
              exact retP rfl (frz_bool rfl)
            · conv => whnf
              refine clI (cL _) ?_
              conv => whnf
              refine clI (cO _) ?_
              conv => whnf
              refine clI (cF _) ?_
              conv => whnf
              exact retP rfl (frz_bool rfl)
          · conv => whnf
            refine clI (cC _) ?_
            conv => whnf
            refine clI (cJ _) ?_
            conv => whnf
            refine brq (fun q => absurd rfl q) (fun _ => ?_)
            rcases hL with ⟨L, e, he, cL⟩ | ⟨L, M, cL, cO, cF⟩
            · conv => whnf
              refine clI (cL _) ?_
              conv => whnf
              refine bre (fun q => absurd q he) (fun _ => ?_)
              conv => whnf
              exact retP rfl (frz_bool rfl)
            · conv => whnf
              refine clI (cL _) ?_
              conv => whnf
              refine clI (cO _) ?_
              conv => whnf
              refine clI (cF _) ?_
              conv => whnf
              exact retP rfl (frz_bool rfl)
        · have cE2 := fun h => encode_eq (n := m) (h := h) (by omega) q2 okq2
          rw [hc2, he2] at cE2
          conv => whnf
          refine clI (cD2 _) ?_
          conv => whnf
          refine stI (xs := q2.cells) (by rfl) (by rfl) (by rfl) (by rfl) (by rfl) ?_
          conv => whnf
          refine ldI (by rfl) ?_
          conv => whnf
          refine clI (cE2 _) ?_
          conv => whnf
          refine brq (fun q => absurd rfl q) (fun _ => ?_)
          rcases hC with cC | ⟨cl, cC, cJ⟩
          · conv => whnf
            refine clI (cC _) ?_
            rcases hL with ⟨L, e, he, cL⟩ | ⟨L, M, cL, cO, cF⟩
            · conv => whnf
              refine clI (cL _) ?_
              conv => whnf
              refine bre (fun q => absurd q he) (fun _ => ?_)
              conv => whnf
              exact retP rfl (frz_bool rfl)
            · conv => whnf
              refine clI (cL _) ?_
              conv => whnf
              refine clI (cO _) ?_
              conv => whnf
              refine clI (cF _) ?_
              conv => whnf
              exact retP rfl (frz_bool rfl)
          · conv => whnf
            refine clI (cC _) ?_
            conv => whnf
            refine clI (cJ _) ?_
            conv => whnf
            refine brq (fun q => absurd rfl q) (fun _ => ?_)
            rcases hL with ⟨L, e, he, cL⟩ | ⟨L, M, cL, cO, cF⟩
            · conv => whnf
              refine clI (cL _) ?_
              conv => whnf
              refine bre (fun q => absurd q he) (fun _ => ?_)
              conv => whnf
              exact retP rfl (frz_bool rfl)
            · conv => whnf
              refine clI (cL _) ?_
              conv => whnf
              refine clI (cO _) ?_
              conv => whnf
              refine clI (cF _) ?_
              conv => whnf
              exact retP rfl (frz_bool rfl)
end Go.Proofs
/- The law PageBack: the row. -/
set_option linter.unusedVariables false
set_option linter.unusedSimpArgs false
namespace Go.Proofs
open Go Go.Abs Go.ChangeShapes Go.WideShapes Go.ChangeAt Go.RowKit

set_option maxRecDepth 100000 in
theorem pageBack_calls {H : Type} {enc : TypeId × Value → H} {W : World} {base : Nat} {args : Array Value} {ds gs : List (DataW H)} {before : List MemPlace}
    (hval : ∀ (j : Nat) t v, Tryz.f8.params[j]? = some t → args[j]? = some v → Value.okWide Tryz.prog W .any base t v)
    (hW : DataW.Whole enc Tryz.prog Tryz.f8.params.toList [] false W args.toList ds gs before) : ∃ xs : List AV, VRs (cellsW W) noBM xs args.toList ∧ PureCalls Tryz.prog 8 xs (.ret (.bool true)) := by
  obtain ⟨p, q, hA0, _⟩ := hW
  have hA : DataW.TrodAll enc Tryz.prog W 0 (fun _ => true) true [25, 9, 9, 23, 70, 3] args.toList ds p := hA0
  rw [show Tryz.f8.params = #[25, 9, 9, 23, 70, 3] by kernel_rfl] at hval
  obtain ⟨args⟩ := args
  simp only at hA
  obtain ⟨v0, vs0, d0, ds0, p0, q0, rfl, rfl, rfl, ⟨_, h0⟩, r0⟩ := trodAll_cons hA
  obtain ⟨v1, vs1, d1, ds1, p1, q1, rfl, rfl, rfl, ⟨_, h1⟩, r1⟩ := trodAll_cons r0
  obtain ⟨v2, vs2, d2, ds2, p2, q2, rfl, rfl, rfl, ⟨_, h2⟩, r2⟩ := trodAll_cons r1
  obtain ⟨v3, vs3, d3, ds3, p3, q3, rfl, rfl, rfl, ⟨_, h3⟩, r3⟩ := trodAll_cons r2
  obtain ⟨v4, vs4, d4, ds4, p4, q4, rfl, rfl, rfl, ⟨_, h4⟩, r4⟩ := trodAll_cons r3
  obtain ⟨v5, vs5, d5, ds5, p5, q5, rfl, rfl, rfl, ⟨_, h5⟩, r5⟩ := trodAll_cons r4
  obtain ⟨rfl, rfl, rfl⟩ := trodAll_nil r5
  obtain ⟨_, tP, _⟩ := tyPage
  obtain ⟨c0, rfl, _⟩ := okWide_struct tP (hval 0 _ v0 rfl rfl)
  obtain ⟨pg0, g0, o0a, o0b, o0c⟩ := rd_page h0
  obtain ⟨b1, rfl⟩ := okWide_string ty9 (hval 1 9 v1 rfl rfl)
  obtain ⟨b2, rfl⟩ := okWide_string ty9 (hval 2 9 v2 rfl rfl)
  obtain ⟨a3, len3, cap3, rfl⟩ := okWide_slice tyFreeds (hval 3 _ v3 rfl rfl)
  obtain ⟨l3, w3, e3, f3, i3⟩ := rd_freeds h3
  cases e3
  obtain ⟨a4, len4, cap4, rfl⟩ := okWide_slice tyInts (hval 4 _ v4 rfl rfl)
  obtain ⟨l4, w4, e4, f4, _⟩ := rd_ints h4
  cases e4
  obtain ⟨k5, rfl⟩ := okWide_int ty3 (hval 5 3 v5 rfl rfl)
  have f0 : VR (cellsW W) noBM pg0.av (.agg c0) := by unfold Page.av VR; exact ⟨c0, rfl, g0⟩
  have f1 : VR (cellsW W) noBM (.str b1.data.toList) (.string b1) := by unfold VR; simp
  have f2 : VR (cellsW W) noBM (.str b2.data.toList) (.string b2) := by unfold VR; simp
  have f5 : VR (cellsW W) noBM (i64 k5) (.int .i64 k5) := by unfold VR; rfl
  refine ⟨[pg0.av, .str b1.data.toList, .str b2.data.toList, .lst 2 (l3.map Freed.av) false, .lst 1 (l4.map i64) false, i64 k5], @VRs_app _ _ [_] _ [_] _ (VRs_one f0) (@VRs_app _ _ [_] _ [_] _ (VRs_one f1) (@VRs_app _ _ [_] _ [_] _ (VRs_one f2) (@VRs_app _ _ [_] _ [_] _ (VRs_one f3) (@VRs_app _ _ [_] _ [_] _ (VRs_one f4) (VRs_one f5))))), ?_⟩
  exact pure_of_CN (n := 13) sum0_ok rfl (pageBack_eq (by omega) pg0 o0a o0b o0c b1.data.toList b2.data.toList l3 i3 2 (fun _ => rfl) false l4 1 (fun _ => rfl) false k5)

set_option maxRecDepth 100000 in
theorem pageBack_lifted (os : Os) (started : os.Started) (H : Type) (enc : TypeId × Value → H) :
    ReturnsInHanded {} Tryz.checked os 8 .any (YtfddiediieblhaaGreat.Rows.pageBackSpec.pre6 enc Tryz.prog Tryz.f8 YtfddiediieblhaaGreat.Rows.pageBackRow.domain false) (YtfddiediieblhaaGreat.Rows.pageBackSpec.post enc Tryz.prog Tryz.f8 false true false false) := by
  refine returnsInHanded_of_change (C := Tryz.checked) own started (by kernel_rfl) Tryz.func8
    (ChangeSpec.witness6 (enc := enc) (C := Tryz.checked) false ⟨#[], #[.agg #[.int .i64 0, .int .i64 0, .int .i64 0, .int .i64 0, .int .i64 0, .bool false, .slice none 0 0, .int .i64 0, .string ByteArray.empty, .slice none 0 0], .string ByteArray.empty, .string ByteArray.empty, .slice none 0 0, .slice none 0 0, .int .i64 0], []⟩ 8 (by kernel_rfl) (by kernel_rfl) (by kernel_rfl) (by kernel_rfl)) ?_
  intro W base args ds gs before hval hW _ _
  obtain ⟨xs, hv, hp⟩ := pageBack_calls hval hW
  refine law_call laid (by kernel_rfl) (tb := 4) (by kernel_rfl) ty4 rfl (fun ds hd => ?_) hW hv hp
  match ds, hd with
  | [_, _, _, _, _, _], _ => rfl
end Go.Proofs
namespace Go.Proofs.YtfddiediieblhaaGreat
open Go Go.Abs
/-- The law PageBack, for every input. -/
theorem pageBack_holds : Rows.PageBackSaid :=
  OpenClaim.holds_of_wide 8 Tryz.f8 rfl rfl rfl rfl rfl rfl rfl ⟨rfl, rfl, rfl, rfl, rfl⟩ rfl rfl rfl rfl rfl (by kernel_rfl) Tryz.func8 (by kernel_rfl)
    (of_decide_eq_true (by kernel_rfl)) (by unfold Func.isWrapper; first | (rw [if_pos (by decide +kernel)]; kernel_rfl) | (rw [if_neg (by decide +kernel)]; exact ⟨rfl, rfl⟩))
    (fun os started H enc _ => pageBack_lifted os started H enc)
#print axioms pageBack_holds
end Go.Proofs.YtfddiediieblhaaGreat
