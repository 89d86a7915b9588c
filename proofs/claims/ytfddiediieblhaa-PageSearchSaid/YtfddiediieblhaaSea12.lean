/- The law PageSearch: for every input it returns true. -/
import Derived.Test.YtfddiediieblhaaSea7
import Derived.Test.YtfddiediieblhaaSea11
import Derived.Test.YtfddiediieblhaaSea10
import Derived.Test.YtfddiediieblhaaSea6
import Derived.Test.YtfddiediieblhaaRows
/- Contracts: entries looked for. -/
set_option linter.unusedVariables false
set_option linter.unusedSimpArgs false
namespace Go.Proofs
open Go Go.Abs
section
variable {n : Nat} {h : AHeap}
theorem find1_eq (hn : 4 ≤ n) (e : Entry) (k : Str) : C n 45 [e.av, .str k] h = some (.ret (i64 (cmpS e.key k)), h) := by
  obtain ⟨m, rfl⟩ : ∃ m, n = m + 1 := ⟨n - 1, by omega⟩
  refine fun_pure F45 rfl rfl rfl rfl ?_
  conv => whnf
  refine ldI (by rfl) ?_
  conv => whnf
  refine clI (compare_eq (n := m) (by omega) _ _) ?_
  conv => whnf
  exact retP rfl (frz_int rfl)
theorem u64_in {x : Nat} (h : x < 18446744073709551616) : IntKind.u64.wrap (x : Int) = x := by
  show (if (IntKind.u64.signed && decide ((x : Int) % (2 ^ 64 : Int) ≥ (2 ^ (64 - 1) : Int))) = true then (x : Int) % (2 ^ 64 : Int) - 2 ^ 64 else (x : Int) % (2 ^ 64 : Int)) = _
  rw [if_neg (by simp [IntKind.signed])]
  omega
theorem half (x : Nat) : (x : Int).fdiv (2 ^ (min (1 : Int).toNat IntKind.u64.bits)) = ((x / 2 : Nat) : Int) := by
  have h1 : min (1 : Int).toNat IntKind.u64.bits = 1 := by decide
  rw [h1, Int.fdiv_eq_ediv_of_nonneg _ (by decide)]
  omega
theorem bs_eq (hn : 5 ≤ n) (l : List Entry) (hl : l.length < 1099511627776) (sz : Nat) (hz : l ≠ [] → sz = 22) (c : Bool) (k : Str) (i : Nat) (hi : i ≤ l.length) (h1 : ∀ j (hj : j < l.length), j < i → cmpS l[j].key k < 0) (h2 : ∀ j (hj : j < l.length), i ≤ j → ¬ cmpS l[j].key k < 0)
    (f : Bool) (hf : f = true ↔ ∃ hj : i < l.length, cmpS l[i].key k = 0) :
    C n 44 [.lst sz (l.map Entry.av) c, .str k, .fn (.func 45) [] []] h = some (.ret (.tup [i64 i, .bool f]), h) := by
  obtain ⟨m, rfl⟩ : ∃ m, n = m + 1 := ⟨n - 1, by omega⟩
  have cF : ∀ (e : Entry) h, C m 45 [.agg e.cells, .str k] h = some (.ret (i64 (cmpS e.key k)), h) := fun e h => find1_eq (by omega) e k
  have fine : fnOk Try.prog 45 = true := by kernel_rfl
  refine fun_pure F44 rfl rfl rfl (by simp [pureBs, AV.pureB, pure_map entry_pure]; rfl) ?_
  conv => whnf
  refine loopI (by decide) rfl (α := Nat × Nat) (fun x => ⟨[(0, .lst sz (l.map Entry.av) c), (1, .str k), (2, .fn (.func 45) [] []), (8, i64 l.length), (9, i64 x.1), (10, i64 x.2)], [], []⟩)
    (fun x => x.1 ≤ i ∧ i ≤ x.2 ∧ x.2 ≤ l.length) (fun x => x.2 - x.1) (0, l.length) ⟨⟨rfl, rfl, rfl, lenI _ _, rfl, lenI _ _⟩, rfl, rfl⟩ ⟨Nat.zero_le _, hi, Nat.le_refl _⟩ (by show l.length - 0 < KK; simp only [KK]; omega) ?_
  rintro ⟨lo, hi'⟩ ⟨g1, g2, g3⟩
  simp only at g1 g2 g3
  conv => whnf
  refine brd (fun a => ?_) (fun a => ?_)
  · have hlt : lo < hi' := by simp only at a; omega
    have hmid : (lo + hi') / 2 < l.length := by omega
    conv => whnf
    refine zI (z := ((lo + hi' : Nat) : Int)) (by rw [wrap_i64 (by simp only; omega) (by simp only; omega)]; rfl) ?_
    conv => whnf
    refine zI (z := ((lo + hi' : Nat) : Int)) (u64_in (by omega)) ?_
    conv => whnf
    refine ⟨by decide, ((((lo + hi') / 2 : Nat) : Int)), half _, ?_⟩
    conv => whnf
    refine zI (z := (((lo + hi') / 2 : Nat) : Int)) (wrap_i64 (by omega) (by omega)) ?_
    conv => whnf
    refine ixL entry_cells hmid hz ?_
    conv => whnf
    refine cvI fine (cF l[(lo + hi') / 2] _) ?_
    conv => whnf
    refine brd (fun d => ?_) (fun d => ?_)
    · have : (lo + hi') / 2 < i := Nat.lt_of_not_le fun q => h2 _ hmid q d
      conv => whnf
      refine zI (z := (((lo + hi') / 2 + 1 : Nat) : Int)) (by rw [wrap_i64 (by omega) (by omega)]; rfl) ?_
      exact nxI ((lo + hi') / 2 + 1, hi') ⟨by simp only; omega, g2, g3⟩ (by simp only; omega) ⟨⟨rfl, rfl, rfl, rfl, rfl, rfl⟩, rfl, rfl⟩
    · have : i ≤ (lo + hi') / 2 := Nat.le_of_not_lt fun q => d (h1 _ hmid q)
      conv => whnf
      exact nxI (lo, (lo + hi') / 2) ⟨g1, this, by simp only; omega⟩ (by simp only; omega) ⟨⟨rfl, rfl, rfl, rfl, rfl, rfl⟩, rfl, rfl⟩
  · have hlt : lo = i := by simp only at a; omega
    subst hlt
    conv => whnf
    refine cutI (by decide) rfl (t := ⟨[(0, .lst sz (l.map Entry.av) c), (1, .str k), (2, .fn (.func 45) [] []), (8, i64 l.length), (9, i64 lo)], [], []⟩) ⟨⟨rfl, rfl, rfl, rfl, rfl⟩, rfl, rfl⟩ ?_
    conv => whnf
    refine brd (fun d => ?_) (fun d => ?_)
    · have hlo : lo < l.length := by omega
      conv => whnf
      refine ixL entry_cells hlo hz ?_
      conv => whnf
      refine cvI fine (cF l[lo] _) ?_
      conv => whnf
      refine retP rfl (frz_ib rfl ?_)
      rw [Bool.eq_iff_iff, hf, beq_iff_eq]
      exact ⟨fun q => ⟨hlo, q⟩, fun ⟨_, q⟩ => q⟩
    · have hlo : ¬ lo < l.length := by omega
      conv => whnf
      refine retP rfl (frz_ib rfl ?_)
      rw [Bool.eq_iff_iff, hf]
      exact ⟨fun q => (by cases q), fun q => (hlo q.1).elim⟩
end
end Go.Proofs
/- Contracts: Find and EntryAt on blocks that Encode wrote. -/
set_option linter.unusedVariables false
set_option linter.unusedSimpArgs false
namespace Go.Proofs
open Go Go.Abs
section
variable {n : Nat} {p : Page}
theorem tree_enc (hn : 11 ≤ n) (hc : p.check = true) (hk : p.kind = 1 ∨ p.kind = 2) : ∃ q : Page, Same p q ∧ q.Ok ∧ ∀ h, C n 43 [.str p.enc] h = some (.ret (.tup [q.av, i64 0]), h) := by
  obtain ⟨m, rfl⟩ : ∃ m, n = m + 1 := ⟨n - 1, by omega⟩
  obtain ⟨q, hs, ok, e⟩ := decode_enc (n := m) (by omega) hc
  refine ⟨q, hs, ok, fun h => ?_⟩
  have hq := hs.kind
  refine fun_pure F43 rfl rfl rfl rfl ?_
  conv => whnf
  refine clI (e _) ?_
  conv => whnf
  refine stI (xs := q.cells) (by rfl) (by rfl) (by rfl) (by rfl) (by rfl) ?_
  conv => whnf
  refine ldI (by rfl) ?_
  have fin : ∀ {L : LT} {hp : AHeap}, lk L 2 = some (.ptr 0 0 0) → lk L 3 = some (i64 0) → hp[0]? = some (.cells 0 (some 25) q.cells 0) → RetQ Try.prog [.cell 2 25, .tmp 3] (fun v' h' => frz h' 64 v' = some (.tup [q.av, i64 0])) .ret ⟨L, hp, []⟩ := fun h2 h3 h4 => ⟨rfl, _, page_res h2 h3 h4 rfl, pg_frz⟩
  conv => whnf
  refine brq (fun a => ?_) (fun a => ?_)
  · conv => whnf
    refine ldI (by rfl) ?_
    conv => whnf
    refine brq (fun b => ?_) (fun b => ?_)
    · exfalso
      change q.kind ≠ 1 at a
      change q.kind ≠ 2 at b
      omega
    · conv => whnf
      refine ldI (by rfl) ?_
      conv => whnf
      refine stI (xs := q.cells) (by rfl) (by rfl) (by rfl) (by rfl) (by rfl) ?_
      exact fin rfl rfl rfl
  · conv => whnf
    refine ldI (by rfl) ?_
    conv => whnf
    refine stI (xs := q.cells) (by rfl) (by rfl) (by rfl) (by rfl) (by rfl) ?_
    exact fin rfl rfl rfl
theorem tree_not (hn : 11 ≤ n) (hc : p.check = true) (hk : ¬(p.kind = 1 ∨ p.kind = 2)) : ∀ h, C n 43 [.str p.enc] h = some (.ret (.tup [.agg zeroP, i64 2]), h) := by
  obtain ⟨m, rfl⟩ : ∃ m, n = m + 1 := ⟨n - 1, by omega⟩
  obtain ⟨q, hs, ok, e⟩ := decode_enc (n := m) (by omega) hc
  intro h
  have hq := hs.kind
  refine fun_pure F43 rfl rfl rfl rfl ?_
  conv => whnf
  refine clI (e _) ?_
  conv => whnf
  refine stI (xs := q.cells) (by rfl) (by rfl) (by rfl) (by rfl) (by rfl) ?_
  conv => whnf
  refine ldI (by rfl) ?_
  conv => whnf
  refine brq (fun a => ?_) (fun a => ?_)
  · conv => whnf
    refine ldI (by rfl) ?_
    conv => whnf
    refine brq (fun b => ?_) (fun b => ?_)
    · conv => whnf
      refine stI (xs := zeroP) (by rfl) (by rfl) (by rfl) (by rfl) (by rfl) ?_
      exact ⟨rfl, _, page_res rfl rfl rfl rfl, zero_frz⟩
    · exfalso
      change q.kind = 2 at b
      omega
  · exfalso
    change q.kind = 1 at a
    omega
theorem find_enc (hn : 12 ≤ n) (hc : p.check = true) (hk : p.kind = 1 ∨ p.kind = 2) (hl : p.entries.length < 1099511627776) (k : Str) (i : Nat) (hi : i ≤ p.entries.length) (h1 : ∀ j (hj : j < p.entries.length), j < i → cmpS p.entries[j].key k < 0) (h2 : ∀ j (hj : j < p.entries.length), i ≤ j → ¬ cmpS p.entries[j].key k < 0)
    (f : Bool) (hf : f = true ↔ ∃ hj : i < p.entries.length, cmpS p.entries[i].key k = 0) : ∀ h, C n 19 [.str p.enc, .str k] h = some (.ret (.tup [i64 i, .bool f, i64 0]), h) := by
  obtain ⟨m, rfl⟩ : ∃ m, n = m + 1 := ⟨n - 1, by omega⟩
  obtain ⟨q, hs, ok, e⟩ := tree_enc (n := m) (by omega) hc hk
  intro h
  have cB : ∀ h, C m 44 [.lst q.esh.sz (q.entries.map Entry.av) q.esh.c, .str k, .fn (.func 45) [] []] h = some (.ret (.tup [i64 i, .bool f]), h) := fun h => by
    rw [hs.entries]
    exact bs_eq (by omega) p.entries hl q.esh.sz (fun hne => ok.esz (by rw [hs.entries]; exact hne)) q.esh.c k i hi h1 h2 f hf
  refine fun_pure F19 rfl rfl rfl rfl ?_
  conv => whnf
  refine clI (e _) ?_
  conv => whnf
  refine stI (xs := q.cells) (by rfl) (by rfl) (by rfl) (by rfl) (by rfl) ?_
  conv => whnf
  refine ldI (by rfl) ?_
  conv => whnf
  refine clI (cB _) ?_
  conv => whnf
  exact ⟨rfl, _, rfl, rfl⟩
theorem find_not (hn : 12 ≤ n) (hc : p.check = true) (hk : ¬(p.kind = 1 ∨ p.kind = 2)) (k : Str) : ∀ h, C n 19 [.str p.enc, .str k] h = some (.ret (.tup [i64 0, .bool false, i64 2]), h) := by
  obtain ⟨m, rfl⟩ : ∃ m, n = m + 1 := ⟨n - 1, by omega⟩
  have e := tree_not (n := m) (by omega) hc hk
  intro h
  refine fun_pure F19 rfl rfl rfl rfl ?_
  conv => whnf
  refine clI (e _) ?_
  conv => whnf
  refine stI (xs := zeroP) (by rfl) (by rfl) (by rfl) (by rfl) (by rfl) ?_
  conv => whnf
  exact ⟨rfl, _, rfl, rfl⟩
theorem ent_res {L : LT} {h : AHeap} {cs : List AV} {k : Int} (h2 : lk L 4 = some (.ptr 0 0 0)) (h3 : lk L 5 = some (i64 k)) (hP : h[0]? = some (.cells 0 (some 51) cs 0)) (hc : cs.length = 22) : resAL Try.prog L h [.cell 4 51, .tmp 5] = some [.agg cs, i64 k] := by
  have := load_agg (h := h) (t := 51) (N := 22) (b := 0) (ver := 0) (by kernel_rfl) hc hP
  simp only [resAL, h2, h3, this]
theorem ent_frz {h : AHeap} {e : Entry} {k : Int} : frz h 64 (.tup [.agg e.cells, i64 k]) = some (.tup [.agg e.cells, i64 k]) := frzOk_tup (n := 63) (fun x hx => by
  simp only [List.mem_cons, List.not_mem_nil, or_false] at hx
  rcases hx with rfl | rfl
  · exact frzOk_agg (n := 62) (cells_frz e)
  · exact frzOk_int) h
def zEnt : Entry := ⟨[], [], 0, 0, 0, 0, Dg.zero⟩
theorem entryAt_not (hn : 12 ≤ n) (hc : p.check = true) (hk : ¬(p.kind = 1 ∨ p.kind = 2)) (i : Int) : ∀ h, C n 20 [.str p.enc, i64 i] h = some (.ret (.tup [.agg zEnt.cells, i64 2]), h) := by
  obtain ⟨m, rfl⟩ : ∃ m, n = m + 1 := ⟨n - 1, by omega⟩
  have e := tree_not (n := m) (by omega) hc hk
  intro h
  refine fun_pure F20 rfl rfl rfl rfl ?_
  conv => whnf
  refine clI (e _) ?_
  conv => whnf
  refine stI (xs := zeroP) (by rfl) (by rfl) (by rfl) (by rfl) (by rfl) ?_
  conv => whnf
  refine stI (xs := zEnt.cells) (by rfl) (by rfl) (by rfl) (by rfl) (by rfl) ?_
  exact ⟨rfl, _, ent_res rfl rfl rfl rfl, ent_frz⟩
theorem entryAt_enc (hn : 12 ≤ n) (hc : p.check = true) (hk : p.kind = 1 ∨ p.kind = 2) (i : Nat) (hi : i < p.entries.length) : ∀ h, C n 20 [.str p.enc, i64 i] h = some (.ret (.tup [.agg p.entries[i].cells, i64 0]), h) := by
  obtain ⟨m, rfl⟩ : ∃ m, n = m + 1 := ⟨n - 1, by omega⟩
  obtain ⟨q, hs, ok, e⟩ := tree_enc (n := m) (by omega) hc hk
  intro h
  have hq : i < q.entries.length := by rw [hs.entries]; exact hi
  have he : q.entries[i] = p.entries[i] := by simp only [hs.entries]
  refine fun_pure F20 rfl rfl rfl rfl ?_
  conv => whnf
  refine clI (e _) ?_
  conv => whnf
  refine stI (xs := q.cells) (by rfl) (by rfl) (by rfl) (by rfl) (by rfl) ?_
  conv => whnf
  refine ldI (by rfl) ?_
  conv => whnf
  refine brd (fun a => ?_) (fun a => ?_)
  · exfalso; rw [List.length_map] at a; omega
  · conv => whnf
    refine ldI (by rfl) ?_
    conv => whnf
    refine ixL entry_cells hq ok.esz ?_
    conv => whnf
    refine stI (xs := q.entries[i].cells) (by rfl) (by rfl) (by rfl) (by rfl) (by rfl) ?_
    refine ⟨rfl, _, ent_res rfl rfl rfl rfl, ?_⟩
    rw [← he]
    exact ent_frz
theorem entryAt_out (hn : 12 ≤ n) (hc : p.check = true) (hk : p.kind = 1 ∨ p.kind = 2) : ∀ h, C n 20 [.str p.enc, i64 p.entries.length] h = some (.ret (.tup [.agg zEnt.cells, i64 1]), h) := by
  obtain ⟨m, rfl⟩ : ∃ m, n = m + 1 := ⟨n - 1, by omega⟩
  obtain ⟨q, hs, ok, e⟩ := tree_enc (n := m) (by omega) hc hk
  intro h
  have hq : q.entries.length = p.entries.length := by rw [hs.entries]
  refine fun_pure F20 rfl rfl rfl rfl ?_
  conv => whnf
  refine clI (e _) ?_
  conv => whnf
  refine stI (xs := q.cells) (by rfl) (by rfl) (by rfl) (by rfl) (by rfl) ?_
  conv => whnf
  refine ldI (by rfl) ?_
  conv => whnf
  refine brd (fun a => ?_) (fun a => ?_)
  · conv => whnf
    refine stI (xs := zEnt.cells) (by rfl) (by rfl) (by rfl) (by rfl) (by rfl) ?_
    exact ⟨rfl, _, ent_res rfl rfl rfl rfl, ent_frz⟩
  · exfalso; rw [List.length_map] at a; omega
end
end Go.Proofs
/- The looked-up text of the functions. -/
namespace Go.Proofs
open Go Go.Abs
-- 104 functions
/- f3 understory/understorylaw04.PageDamage: 126 temporaries, depth 7, 5 parameters, results [t10] -/
def c3 : RC :=
  (.seq (.ops [⟨some 5, none, .op (.box 25 (.t 0))⟩,
    ⟨some 7, none, .op (.box 27 (.t 2))⟩,
    ⟨some 10, none, .op (.mv (.c (.bool false)))⟩])
  (.seq (.ops [⟨some 23, none, .op (.callF 7 [])⟩,
    ⟨some 11, none, .op (.mv (.t 23))⟩])
  (.seq (.seq (.ops [⟨some 24, none, .op (.load true 10 (.t 5))⟩,
    ⟨some 25, none, .op (.mkLst 10 true 1 [(.int .i64 0), (.int .i64 0), (.int .i64 0), (.int .i64 0), (.int .i64 0), (.bool false), (.lst 0 [] true), (.int .i64 0), (.str []), (.lst 0 [] true)] [(0, 10, (.t 24))])⟩,
    ⟨some 26, none, .op (.callF 8 [(.t 25)])⟩,
    ⟨some 27, none, .op (.un .not (.t 26))⟩,
    ⟨some 28, none, .op (.mv (.t 27))⟩,
    ⟨some 29, some (28, false), .op (.mv (.t 4))⟩,
    ⟨some 30, some (28, false), .op (.lenS (.t 29))⟩,
    ⟨some 31, some (28, false), .op (.bin .gtr (.t 30) (.c (.int .i64 600)))⟩,
    ⟨some 32, none, .op (.pick (.t 28) (.c (.bool true)) (.t 31))⟩])
  (.cond (.t 32)
    (.seq (.ops [⟨some 33, none, .op (.mv (.t 11))⟩,
      ⟨some 10, none, .op (.mv (.t 33))⟩])
    .ret)
    .skip))
  (.seq (.ops [⟨some 35, none, .op (.load true 10 (.t 5))⟩,
    ⟨some 36, none, .op (.callF 9 [(.t 35)])⟩,
    ⟨some 34, none, .op (.mv (.t 36))⟩,
    ⟨some 37, none, .op (.extract (.t 34) 0)⟩,
    ⟨some 38, none, .op (.extract (.t 34) 1)⟩,
    ⟨some 12, none, .op (.mv (.t 37))⟩,
    ⟨some 13, none, .op (.mv (.t 38))⟩])
  (.seq (.seq (.ops [⟨some 39, none, .op (.mv (.t 13))⟩,
    ⟨some 40, none, .op (.bin .neq (.t 39) (.c (.int .i64 0)))⟩])
  (.cond (.t 40)
    (.seq (.ops [⟨some 41, none, .op (.mv (.t 11))⟩,
      ⟨some 10, none, .op (.mv (.t 41))⟩])
    .ret)
    .skip))
  (.seq (.seq (.ops [⟨some 42, none, .op (.mv (.t 12))⟩,
    ⟨some 43, none, .op (.lenS (.t 42))⟩,
    ⟨some 44, none, .op (.bin .neq (.t 43) (.c (.int .i64 512)))⟩])
  (.cond (.t 44)
    (.seq (.ops [⟨some 10, none, .op (.mv (.c (.bool false)))⟩])
    .ret)
    .skip))
  (.seq (.ops [⟨some 45, none, .op (.mv (.t 12))⟩,
    ⟨some 46, none, .op (.strBytes (.t 45))⟩,
    ⟨some 14, none, .op (.mv (.t 46))⟩])
  (.seq (.ops [⟨some 47, none, .op (.mv (.t 1))⟩,
    ⟨some 48, none, .op (.toInt .i64 (.t 47))⟩,
    ⟨some 49, none, .op (.mv (.t 14))⟩,
    ⟨some 50, none, .op (.lenL (.t 49))⟩,
    ⟨some 51, none, .op (.bin .rem (.t 48) (.t 50))⟩,
    ⟨some 15, none, .op (.mv (.t 51))⟩])
  (.seq (.seq (.ops [⟨some 16, none, .op (.mv (.c (.int .i64 0)))⟩])
  (.block 0
    (.loop
      (.seq (.seq (.ops [⟨some 52, none, .op (.mv (.t 16))⟩,
        ⟨some 53, none, .op (.bin .lss (.t 52) (.c (.int .i64 4)))⟩,
        ⟨some 54, none, .op (.mv (.t 53))⟩,
        ⟨some 55, some (54, true), .op (.mv (.t 15))⟩,
        ⟨some 56, some (54, true), .op (.mv (.t 16))⟩,
        ⟨some 57, some (54, true), .op (.bin .add (.t 55) (.t 56))⟩,
        ⟨some 58, some (54, true), .op (.mv (.t 14))⟩,
        ⟨some 59, some (54, true), .op (.lenL (.t 58))⟩,
        ⟨some 60, some (54, true), .op (.bin .lss (.t 57) (.t 59))⟩,
        ⟨some 61, none, .op (.pick (.t 54) (.t 60) (.c (.bool false)))⟩])
      (.cond (.t 61)
        .skip
        (.exit 0)))
      (.seq (.block 1
        (.draw [(⟨some 64, none, .op (.mv (.t 14))⟩, 0),
          (⟨some 65, none, .op (.mv (.t 15))⟩, 0),
          (⟨some 66, none, .op (.mv (.t 16))⟩, 0),
          (⟨some 67, none, .op (.bin .add (.t 65) (.t 66))⟩, 0),
          (⟨some 68, none, .op (.mv (.t 14))⟩, 0),
          (⟨some 69, none, .op (.mv (.t 15))⟩, 0),
          (⟨some 70, none, .op (.mv (.t 16))⟩, 0),
          (⟨some 71, none, .op (.bin .add (.t 69) (.t 70))⟩, 0),
          (⟨some 72, none, .op (.indexAddrL 1 (.t 68) (.t 71))⟩, 0),
          (⟨some 73, none, .op (.load false 1 (.t 72))⟩, 1),
          (⟨some 74, none, .op (.mv (.t 16))⟩, 0),
          (⟨some 75, none, .op (.indexAddrA 4 1 (.t 7) (.t 74))⟩, 0),
          (⟨some 76, none, .op (.load false 1 (.t 75))⟩, 1),
          (⟨some 77, none, .op (.bin .add (.t 73) (.t 76))⟩, 0),
          (⟨some 78, none, .op (.indexAddrL 1 (.t 64) (.t 67))⟩, 0),
          (⟨none, none, .op (.store 1 (.t 78) (.t 77))⟩, 3)]))
      (.ops [⟨some 62, none, .op (.mv (.t 16))⟩,
        ⟨some 63, none, .op (.bin .add (.t 62) (.c (.int .i64 1)))⟩,
        ⟨some 16, none, .op (.mv (.t 63))⟩]))))))
  (.cut (.seq (.seq (.ops [⟨some 79, none, .op (.mv (.t 14))⟩,
    ⟨some 80, none, .op (.bytesStr (.t 79))⟩,
    ⟨some 81, none, .op (.mv (.t 12))⟩,
    ⟨some 82, none, .op (.bin .neq (.t 80) (.t 81))⟩])
  (.cond (.t 82)
    (.seq (.ops [⟨some 84, none, .op (.mv (.t 14))⟩,
      ⟨some 85, none, .op (.bytesStr (.t 84))⟩,
      ⟨some 86, none, .op (.callF 10 [(.t 85)])⟩,
      ⟨some 83, none, .op (.mv (.t 86))⟩,
      ⟨some 87, none, .op (.extract (.t 83) 0)⟩,
      ⟨some 88, none, .op (.extract (.t 83) 1)⟩,
      ⟨some 17, none, .op (.alloc 25 [(.int .i64 0), (.int .i64 0), (.int .i64 0), (.int .i64 0), (.int .i64 0), (.bool false), (.lst 0 [] true), (.int .i64 0), (.str []), (.lst 0 [] true)])⟩,
      ⟨none, none, .op (.store 10 (.t 17) (.t 87))⟩,
      ⟨some 18, none, .op (.mv (.t 88))⟩])
    (.seq (.ops [⟨some 89, none, .op (.mv (.t 18))⟩,
      ⟨some 90, none, .op (.bin .neq (.t 89) (.c (.int .i64 8)))⟩])
    (.cond (.t 90)
      (.seq (.ops [⟨some 10, none, .op (.mv (.c (.bool false)))⟩])
      .ret)
      .skip)))
    .skip))
  (.seq (.ops [⟨some 92, none, .op (.mv (.t 12))⟩,
    ⟨some 93, none, .op (.mv (.t 12))⟩,
    ⟨some 94, none, .op (.lenS (.t 93))⟩,
    ⟨some 95, none, .op (.bin .sub (.t 94) (.c (.int .i64 1)))⟩,
    ⟨some 96, none, .op (.mv (.t 3))⟩,
    ⟨some 97, none, .op (.toInt .i64 (.t 96))⟩,
    ⟨some 98, none, .op (.mv (.t 12))⟩,
    ⟨some 99, none, .op (.lenS (.t 98))⟩,
    ⟨some 100, none, .op (.bin .rem (.t 97) (.t 99))⟩,
    ⟨some 101, none, .op (.bin .sub (.t 95) (.t 100))⟩,
    ⟨some 102, none, .op (.sliceS (.t 92) none (some (.t 101)))⟩,
    ⟨some 103, none, .op (.callF 10 [(.t 102)])⟩,
    ⟨some 91, none, .op (.mv (.t 103))⟩,
    ⟨some 104, none, .op (.extract (.t 91) 0)⟩,
    ⟨some 105, none, .op (.extract (.t 91) 1)⟩,
    ⟨some 19, none, .op (.alloc 25 [(.int .i64 0), (.int .i64 0), (.int .i64 0), (.int .i64 0), (.int .i64 0), (.bool false), (.lst 0 [] true), (.int .i64 0), (.str []), (.lst 0 [] true)])⟩,
    ⟨none, none, .op (.store 10 (.t 19) (.t 104))⟩,
    ⟨some 20, none, .op (.mv (.t 105))⟩])
  (.seq (.ops [⟨some 107, none, .op (.mv (.t 12))⟩,
    ⟨some 108, none, .op (.mv (.t 4))⟩,
    ⟨some 109, none, .op (.bin .add (.t 107) (.t 108))⟩,
    ⟨some 110, none, .op (.callF 10 [(.t 109)])⟩,
    ⟨some 106, none, .op (.mv (.t 110))⟩,
    ⟨some 111, none, .op (.extract (.t 106) 0)⟩,
    ⟨some 112, none, .op (.extract (.t 106) 1)⟩,
    ⟨some 21, none, .op (.alloc 25 [(.int .i64 0), (.int .i64 0), (.int .i64 0), (.int .i64 0), (.int .i64 0), (.bool false), (.lst 0 [] true), (.int .i64 0), (.str []), (.lst 0 [] true)])⟩,
    ⟨none, none, .op (.store 10 (.t 21) (.t 111))⟩,
    ⟨some 22, none, .op (.mv (.t 112))⟩])
  (.seq (.ops [⟨some 113, none, .op (.mv (.t 11))⟩,
    ⟨some 114, none, .op (.mv (.t 113))⟩,
    ⟨some 115, some (114, true), .op (.mv (.t 20))⟩,
    ⟨some 116, some (114, true), .op (.bin .eql (.t 115) (.c (.int .i64 8)))⟩,
    ⟨some 117, none, .op (.pick (.t 114) (.t 116) (.c (.bool false)))⟩,
    ⟨some 118, none, .op (.mv (.t 117))⟩,
    ⟨some 119, some (118, true), .op (.mv (.t 4))⟩,
    ⟨some 120, some (118, true), .op (.bin .eql (.t 119) (.c (.str [])))⟩,
    ⟨some 121, some (118, true), .op (.mv (.t 120))⟩,
    ⟨some 122, some (121, false), .op (.mv (.t 22))⟩,
    ⟨some 123, some (121, false), .op (.bin .eql (.t 122) (.c (.int .i64 8)))⟩,
    ⟨some 124, some (118, true), .op (.pick (.t 121) (.c (.bool true)) (.t 123))⟩,
    ⟨some 125, none, .op (.pick (.t 118) (.t 124) (.c (.bool false)))⟩,
    ⟨some 10, none, .op (.mv (.t 125))⟩])
  .ret))))))))))))))
theorem F3 : FI 3 5 126 7 [.tmp 10] c3 := ⟨⟨Try.f3, Try.func3, by kernel_rfl, by kernel_rfl, by kernel_rfl⟩, by kernel_rfl, by decide, by kernel_rfl⟩
/- f8 understory/understorylaw04.small: 42 temporaries, depth 6, 1 parameters, results [t2] -/
def c8 : RC :=
  (.seq (.ops [⟨some 2, none, .op (.mv (.c (.bool false)))⟩])
  (.seq (.seq (.ops [⟨some 3, none, .op (.mv (.c (.int .i64 0)))⟩])
  (.block 0
    (.loop
      (.seq (.seq (.ops [⟨some 4, none, .op (.mv (.t 3))⟩,
        ⟨some 5, none, .op (.mv (.t 0))⟩,
        ⟨some 6, none, .op (.lenL (.t 5))⟩,
        ⟨some 7, none, .op (.bin .lss (.t 4) (.t 6))⟩,
        ⟨some 8, none, .op (.mv (.t 7))⟩,
        ⟨some 9, some (8, true), .op (.mv (.t 3))⟩,
        ⟨some 10, some (8, true), .op (.bin .leq (.t 9) (.c (.int .i64 30)))⟩,
        ⟨some 11, none, .op (.pick (.t 8) (.t 10) (.c (.bool false)))⟩])
      (.cond (.t 11)
        .skip
        (.exit 0)))
      (.seq (.block 1
        (.seq (.ops [⟨some 14, none, .op (.mv (.t 0))⟩,
          ⟨some 15, none, .op (.mv (.t 3))⟩,
          ⟨some 16, none, .op (.indexAddrL 10 (.t 14) (.t 15))⟩,
          ⟨some 17, none, .op (.fieldAddr 6 (.t 16))⟩,
          ⟨some 18, none, .op (.load false 1 (.t 17))⟩,
          ⟨some 19, none, .op (.callF 11 [(.t 18)])⟩,
          ⟨some 20, none, .op (.un .not (.t 19))⟩,
          ⟨some 21, none, .op (.mv (.t 20))⟩,
          ⟨some 22, some (21, false), .op (.mv (.t 0))⟩,
          ⟨some 23, some (21, false), .op (.mv (.t 3))⟩,
          ⟨some 24, some (21, false), .op (.indexAddrL 10 (.t 22) (.t 23))⟩,
          ⟨some 25, some (21, false), .op (.fieldAddr 9 (.t 24))⟩,
          ⟨some 26, some (21, false), .op (.load false 1 (.t 25))⟩,
          ⟨some 27, some (21, false), .op (.callF 25 [(.t 26)])⟩,
          ⟨some 28, some (21, false), .op (.un .not (.t 27))⟩,
          ⟨some 29, none, .op (.pick (.t 21) (.c (.bool true)) (.t 28))⟩,
          ⟨some 30, none, .op (.mv (.t 29))⟩,
          ⟨some 31, some (30, false), .op (.mv (.t 0))⟩,
          ⟨some 32, some (30, false), .op (.mv (.t 3))⟩,
          ⟨some 33, some (30, false), .op (.indexAddrL 10 (.t 31) (.t 32))⟩,
          ⟨some 34, some (30, false), .op (.fieldAddr 8 (.t 33))⟩,
          ⟨some 35, some (30, false), .op (.load false 1 (.t 34))⟩,
          ⟨some 36, some (30, false), .op (.lenS (.t 35))⟩,
          ⟨some 37, some (30, false), .op (.bin .gtr (.t 36) (.c (.int .i64 1000)))⟩,
          ⟨some 38, none, .op (.pick (.t 30) (.c (.bool true)) (.t 37))⟩])
        (.cond (.t 38)
          (.seq (.ops [⟨some 2, none, .op (.mv (.c (.bool false)))⟩])
          .ret)
          .skip)))
      (.ops [⟨some 12, none, .op (.mv (.t 3))⟩,
        ⟨some 13, none, .op (.bin .add (.t 12) (.c (.int .i64 1)))⟩,
        ⟨some 3, none, .op (.mv (.t 13))⟩]))))))
  (.cut (.seq (.ops [⟨some 39, none, .op (.mv (.t 0))⟩,
    ⟨some 40, none, .op (.lenL (.t 39))⟩,
    ⟨some 41, none, .op (.bin .leq (.t 40) (.c (.int .i64 30)))⟩,
    ⟨some 2, none, .op (.mv (.t 41))⟩])
  .ret))))
theorem F8 : FI 8 1 42 6 [.tmp 2] c8 := ⟨⟨Try.f8, Try.func8, by kernel_rfl, by kernel_rfl, by kernel_rfl⟩, by kernel_rfl, by decide, by kernel_rfl⟩
/- f25 understory/understorylaw04.short: 28 temporaries, depth 5, 1 parameters, results [t2] -/
def c25 : RC :=
  (.seq (.ops [⟨some 2, none, .op (.mv (.c (.bool false)))⟩])
  (.seq (.ops [⟨some 3, none, .op (.mv (.c (.int .i64 0)))⟩])
  (.seq (.seq (.ops [⟨some 4, none, .op (.mv (.c (.int .i64 0)))⟩])
  (.block 0
    (.loop
      (.seq (.seq (.ops [⟨some 5, none, .op (.mv (.t 4))⟩,
        ⟨some 6, none, .op (.mv (.t 0))⟩,
        ⟨some 7, none, .op (.lenL (.t 6))⟩,
        ⟨some 8, none, .op (.bin .lss (.t 5) (.t 7))⟩,
        ⟨some 9, none, .op (.mv (.t 8))⟩,
        ⟨some 10, some (9, true), .op (.mv (.t 4))⟩,
        ⟨some 11, some (9, true), .op (.bin .leq (.t 10) (.c (.int .i64 300)))⟩,
        ⟨some 12, none, .op (.pick (.t 9) (.t 11) (.c (.bool false)))⟩])
      (.cond (.t 12)
        .skip
        (.exit 0)))
      (.seq (.block 1
        (.seq (.ops [⟨some 15, none, .op (.mv (.t 3))⟩,
          ⟨some 16, none, .op (.mv (.t 0))⟩,
          ⟨some 17, none, .op (.mv (.t 4))⟩,
          ⟨some 18, none, .op (.indexAddrL 2 (.t 16) (.t 17))⟩,
          ⟨some 19, none, .op (.fieldAddr 1 (.t 18))⟩,
          ⟨some 20, none, .op (.load false 1 (.t 19))⟩,
          ⟨some 21, none, .op (.lenL (.t 20))⟩,
          ⟨some 22, none, .op (.bin .add (.t 15) (.t 21))⟩,
          ⟨some 3, none, .op (.mv (.t 22))⟩])
        (.seq (.ops [⟨some 23, none, .op (.mv (.t 3))⟩,
          ⟨some 24, none, .op (.bin .gtr (.t 23) (.c (.int .i64 900)))⟩])
        (.cond (.t 24)
          (.seq (.ops [⟨some 2, none, .op (.mv (.c (.bool false)))⟩])
          .ret)
          .skip))))
      (.ops [⟨some 13, none, .op (.mv (.t 4))⟩,
        ⟨some 14, none, .op (.bin .add (.t 13) (.c (.int .i64 1)))⟩,
        ⟨some 4, none, .op (.mv (.t 14))⟩]))))))
  (.cut (.seq (.ops [⟨some 25, none, .op (.mv (.t 0))⟩,
    ⟨some 26, none, .op (.lenL (.t 25))⟩,
    ⟨some 27, none, .op (.bin .leq (.t 26) (.c (.int .i64 300)))⟩,
    ⟨some 2, none, .op (.mv (.t 27))⟩])
  .ret)))))
theorem F25 : FI 25 1 28 5 [.tmp 2] c25 := ⟨⟨Try.f25, Try.func25, by kernel_rfl, by kernel_rfl, by kernel_rfl⟩, by kernel_rfl, by decide, by kernel_rfl⟩
end Go.Proofs
/- The checksum finds bytes that are changed within four positions. -/
set_option linter.unusedVariables false
set_option linter.unusedSimpArgs false
namespace Go.Proofs
open Go Go.Abs
abbrev gb (c : UInt32) (i : Nat) : Bool := c.toBitVec.getLsbD i
theorem u32_ext {a b : UInt32} (h : ∀ i, i < 32 → gb a i = gb b i) : a = b := UInt32.toBitVec_inj.1 (BitVec.eq_of_getLsbD_eq h)
theorem low_bit (c : UInt32) : (c &&& 1 = 1) ↔ gb c 0 = true := by
  constructor
  · intro h
    have := congrArg (fun x : UInt32 => gb x 0) h
    simpa [gb] using this
  · intro h
    apply u32_ext
    intro i hi
    simp only [gb, UInt32.toBitVec_and, BitVec.getLsbD_and]
    by_cases h0 : i = 0
    · subst h0; simp [h]
    · have e1 : (1 : UInt32).toBitVec = 1#32 := rfl
      simp [e1, BitVec.getLsbD_one, h0]
theorem bit_get (c : UInt32) (i : Nat) (hi : i < 32) : gb (bit c) i = ((gb c (i + 1)) ^^ (gb c 0 && gb 3988292384 i)) := by
  unfold bit
  have e2 : (c >>> 1).toBitVec = c.toBitVec >>> 1 := by rfl
  by_cases h : c &&& 1 = 1
  · rw [if_pos h]
    have h0 := (low_bit c).1 h
    simp only [gb, UInt32.toBitVec_xor, BitVec.getLsbD_xor, e2, BitVec.getLsbD_ushiftRight] at h0 ⊢
    rw [h0, Nat.add_comm]
    simp
  · rw [if_neg h]
    have h0 : gb c 0 = false := by
      cases hq : gb c 0 with
      | true => exact (h ((low_bit c).2 hq)).elim
      | false => rfl
    simp only [gb, e2, BitVec.getLsbD_ushiftRight] at h0 ⊢
    rw [h0, Nat.add_comm]
    simp
theorem bit_xor (a b : UInt32) : bit (a ^^^ b) = bit a ^^^ bit b := by
  apply u32_ext
  intro i hi
  have e : gb (bit a ^^^ bit b) i = (gb (bit a) i ^^ gb (bit b) i) := by simp [gb]
  rw [e, bit_get _ _ hi, bit_get _ _ hi, bit_get _ _ hi]
  have e1 : ∀ j, gb (a ^^^ b) j = (gb a j ^^ gb b j) := fun j => by simp [gb]
  rw [e1, e1]
  cases gb a (i + 1) <;> cases gb b (i + 1) <;> cases gb a 0 <;> cases gb b 0 <;> cases gb 3988292384 i <;> rfl
theorem bit_inj {a b : UInt32} (h : bit a = bit b) : a = b := by
  have hg : ∀ i, i < 32 → ((gb a (i + 1)) ^^ (gb a 0 && gb 3988292384 i)) = ((gb b (i + 1)) ^^ (gb b 0 && gb 3988292384 i)) := fun i hi => by
    rw [← bit_get a i hi, ← bit_get b i hi, h]
  have top : ∀ c : UInt32, gb c 32 = false := fun c => BitVec.getLsbD_of_ge _ _ (Nat.le_refl _)
  have h0 : gb a 0 = gb b 0 := by
    have := hg 31 (by decide)
    rw [top, top, show gb 3988292384 31 = true by decide] at this
    simpa using this
  apply u32_ext
  intro i hi
  cases i with
  | zero => exact h0
  | succ i =>
    have := hg i (by omega)
    rw [h0] at this
    cases ha : gb a (i + 1) <;> cases hb : gb b (i + 1) <;> rw [ha, hb] at this <;> first | rfl | (cases h1 : (gb b 0 && gb 3988292384 i) <;> rw [h1] at this <;> cases this)
theorem bits_xor : ∀ (k : Nat) (a b : UInt32), bits k (a ^^^ b) = bits k a ^^^ bits k b
  | 0, a, b => rfl
  | k + 1, a, b => by show bits k (bit (a ^^^ b)) = bits k (bit a) ^^^ bits k (bit b); rw [bit_xor, bits_xor k]
theorem bits_inj : ∀ (k : Nat) {a b : UInt32}, bits k a = bits k b → a = b
  | 0, a, b, h => h
  | k + 1, a, b, h => bit_inj (bits_inj k (a := bit a) (b := bit b) h)
theorem bit_even {c : UInt32} {w : Nat} (h : c.toNat = 2 * w) : (bit c).toNat = w := by
  have h1 : (c &&& 1).toNat = c.toNat % 2 := by
    rw [UInt32.toNat_and]; exact Nat.and_one_is_mod _
  unfold bit
  rw [if_neg (by intro q; have := congrArg UInt32.toNat q; rw [h1] at this; simp at this; omega)]
  rw [UInt32.toNat_shiftRight]
  show c.toNat >>> 1 = w
  rw [Nat.shiftRight_eq_div_pow]; omega
theorem bits_even : ∀ (k : Nat) {c : UInt32} {w : Nat}, c.toNat = 2 ^ k * w → (bits k c).toNat = w
  | 0, c, w, h => by simpa [bits] using h
  | k + 1, c, w, h => bits_even k (c := bit c) (bit_even (by rw [h, Nat.pow_succ]; rw [Nat.mul_comm (2 ^ k) 2, Nat.mul_assoc]))
/-- A step over a zero byte. -/
theorem zero_step (c : UInt32) : tab c.toUInt8 ^^^ (c >>> 8) = bits 8 c := by
  have hc : c = c.toUInt8.toUInt32 ^^^ ((c >>> 8) <<< 8) := by
    apply u32_ext
    intro i hi
    have e1 : ((c >>> 8) <<< 8).toBitVec = (c.toBitVec >>> 8) <<< 8 := rfl
    have e2 : c.toUInt8.toUInt32.toBitVec = (c.toBitVec.setWidth 8).setWidth 32 := rfl
    simp only [gb, UInt32.toBitVec_xor, BitVec.getLsbD_xor, e1, e2, BitVec.getLsbD_shiftLeft, BitVec.getLsbD_ushiftRight, BitVec.getLsbD_setWidth]
    by_cases h8 : i < 8
    · simp [h8, hi]
    · have : 8 + (i - 8) = i := by omega
      simp [h8, hi, this]
  have h1 : (bits 8 ((c >>> 8) <<< 8)).toNat = (c >>> 8).toNat := by
    refine bits_even 8 ?_
    rw [UInt32.toNat_shiftLeft, UInt32.toNat_shiftRight]
    show (c.toNat >>> 8) <<< 8 % 2 ^ 32 = 2 ^ 8 * (c.toNat >>> 8)
    have := c.toNat_lt
    rw [Nat.shiftRight_eq_div_pow, Nat.shiftLeft_eq]
    omega
  have h2 : bits 8 ((c >>> 8) <<< 8) = c >>> 8 := UInt32.toNat_inj.1 h1
  conv => rhs; rw [hc, bits_xor, h2]
  rfl
theorem byte_step (c : UInt32) (b : UInt8) : tab (c.toUInt8 ^^^ b) ^^^ (c >>> 8) = bits 8 (c ^^^ b.toUInt32) := by
  rw [← zero_step]
  have e1 : (c ^^^ b.toUInt32).toUInt8 = c.toUInt8 ^^^ b := by
    apply UInt8.toBitVec_inj.1
    apply BitVec.eq_of_getLsbD_eq
    intro i hi
    have e3 : (c ^^^ b.toUInt32).toUInt8.toBitVec = (c.toBitVec ^^^ b.toBitVec.setWidth 32).setWidth 8 := rfl
    have e4 : (c.toUInt8 ^^^ b).toBitVec = c.toBitVec.setWidth 8 ^^^ b.toBitVec := rfl
    rw [e3, e4]
    simp [hi]
  have e2 : (c ^^^ b.toUInt32) >>> 8 = c >>> 8 := by
    apply u32_ext
    intro i hi
    have e5 : ((c ^^^ b.toUInt32) >>> 8).toBitVec = (c.toBitVec ^^^ b.toBitVec.setWidth 32) >>> 8 := rfl
    have e6 : (c >>> 8).toBitVec = c.toBitVec >>> 8 := rfl
    simp only [gb, e5, e6, BitVec.getLsbD_ushiftRight, BitVec.getLsbD_xor, BitVec.getLsbD_setWidth]
    rw [BitVec.getLsbD_of_ge b.toBitVec (8 + i) (by omega)]
    simp
  rw [e1, e2]
theorem ext_cons (b : UInt8) (r : Str) (c : UInt32) : ext (b :: r) c = ext r (bits 8 (c ^^^ b.toUInt32)) := by
  unfold ext
  rw [List.foldl_cons, byte_step]
theorem ext_app (a b : Str) (c : UInt32) : ext (a ++ b) c = ext b (ext a c) := by unfold ext; rw [List.foldl_append]
theorem ext_inj : ∀ (s : Str) {c d : UInt32}, ext s c = ext s d → c = d
  | [], c, d, h => h
  | b :: r, c, d, h => by
    rw [ext_cons, ext_cons] at h
    have := bits_inj 8 (ext_inj r h)
    have h2 := congrArg (· ^^^ b.toUInt32) this
    simpa [UInt32.xor_assoc] using h2

/-- Bytes as a number, the least significant one first. -/
def le : Str → UInt32
  | [] => 0
  | b :: r => b.toUInt32 ^^^ (le r <<< 8)
theorem le_nat (b : UInt8) (r : Str) (h : (le r).toNat < 16777216) : (le (b :: r)).toNat = (le r).toNat * 256 + b.toNat ∧ (le r <<< 8).toNat = 2 ^ 8 * (le r).toNat := by
  have hb := b.toNat_lt
  have e1 : (le r <<< 8).toNat = (le r).toNat * 256 := by
    rw [UInt32.toNat_shiftLeft]
    show (le r).toNat <<< 8 % 2 ^ 32 = _
    rw [Nat.shiftLeft_eq]
    omega
  refine ⟨?_, by rw [e1]; omega⟩
  show (b.toUInt32 ^^^ (le r <<< 8)).toNat = _
  rw [UInt32.toNat_xor, e1, UInt8.toNat_toUInt32]
  have h5 := Nat.shiftLeft_add_eq_or_of_lt (show b.toNat < 2 ^ 8 by omega) (le r).toNat
  rw [Nat.shiftLeft_eq] at h5
  show b.toNat ^^^ (le r).toNat * 2 ^ 8 = (le r).toNat * 2 ^ 8 + b.toNat
  rw [h5]
  apply Nat.eq_of_testBit_eq
  intro i
  simp only [Nat.testBit_xor, Nat.testBit_or]
  by_cases h8 : i < 8
  · have : ((le r).toNat * 2 ^ 8).testBit i = false := by rw [Nat.testBit_mul_two_pow]; simp; omega
    rw [this]; simp
  · have : b.toNat.testBit i = false := Nat.testBit_lt_two_pow (Nat.lt_of_lt_of_le (show b.toNat < 2 ^ 8 by omega) (Nat.pow_le_pow_right (by decide) (by omega)))
    rw [this]; simp
theorem le_lt : ∀ (r : Str), r.length ≤ 4 → (le r).toNat < 256 ^ r.length
  | [], _ => by simp [le]
  | b :: r, h => by
    have ih := le_lt r (by simp at h; omega)
    simp only [List.length_cons] at h ⊢
    have hb := b.toNat_lt
    have h3 : 256 ^ r.length ≤ 256 ^ 3 := Nat.pow_le_pow_right (by decide) (by omega)
    have h4 : (256 : Nat) ^ 3 = 16777216 := by decide
    rw [(le_nat b r (by omega)).1, Nat.pow_succ]
    omega
theorem le_small {r : Str} (h : r.length ≤ 3) : (le r).toNat < 16777216 := by
  have := le_lt r (by omega)
  have h3 : 256 ^ r.length ≤ 256 ^ 3 := Nat.pow_le_pow_right (by decide) h
  have h4 : (256 : Nat) ^ 3 = 16777216 := by decide
  omega
theorem le_inj : ∀ {a b : Str}, a.length = b.length → a.length ≤ 4 → le a = le b → a = b
  | [], [], _, _, _ => rfl
  | [], _ :: _, h, _, _ => by simp at h
  | _ :: _, [], h, _, _ => by simp at h
  | x :: a, y :: b, h, h4, he => by
    simp only [List.length_cons] at h h4
    have h1 := (le_nat x a (le_small (by omega))).1
    have h2 := (le_nat y b (le_small (by omega))).1
    rw [he] at h1
    have hx := x.toNat_lt
    have hy := y.toNat_lt
    have e1 : x = y := UInt8.toNat_inj.1 (by omega)
    have e2 : le a = le b := UInt32.toNat_inj.1 (by omega)
    rw [e1, le_inj (by omega) (by omega) e2]
theorem bits_add : ∀ (b a : Nat) (x : UInt32), bits a (bits b x) = bits (b + a) x
  | 0, a, x => by simp [bits]
  | b + 1, a, x => by
    show bits a (bits b (bit x)) = bits (b + 1 + a) x
    rw [bits_add b a, show b + 1 + a = (b + a) + 1 by omega]; rfl
theorem ext_le : ∀ (w : Str) (c : UInt32), w.length ≤ 4 → ext w c = bits (8 * w.length) (c ^^^ le w)
  | [], c, _ => by simp [ext, bits, le]
  | b :: r, c, h => by
    simp only [List.length_cons] at h
    have h2 := (le_nat b r (le_small (by omega))).2
    have h3 : bits 8 (le r <<< 8) = le r := UInt32.toNat_inj.1 (bits_even 8 h2)
    rw [ext_cons, ext_le r _ (by omega)]
    conv => lhs; rw [← h3, ← bits_xor, bits_add]
    rw [List.length_cons, show 8 + 8 * r.length = 8 * (r.length + 1) by omega]
    congr 1
    show c ^^^ b.toUInt32 ^^^ (le r <<< 8) = c ^^^ (b.toUInt32 ^^^ (le r <<< 8))
    rw [UInt32.xor_assoc]
theorem le_crcB (t : Str) : le (crcB t) = crc t := by
  have hc := (crc t).toNat_lt
  apply UInt32.toNat_inj.1
  unfold crcB
  rw [(le_nat _ _ (le_small (by simp))).1, (le_nat _ _ (le_small (by simp))).1, (le_nat _ _ (le_small (by simp))).1, (le_nat _ _ (le_small (by simp))).1]
  simp only [UInt8.toNat_ofNat', le]
  simp only [Nat.pow_zero, Nat.div_one, Nat.pow_succ, Nat.one_mul]
  show (((0 * 256 + _) * 256 + _) * 256 + _) * 256 + _ = _
  omega
theorem residue (t : Str) : ext (t ++ crcB t) (~~~0) = bits 32 (~~~0) := by
  rw [ext_app, ext_le _ _ (by simp [crcB]), le_crcB]
  have : ext t (~~~0) ^^^ crc t = ~~~0 := by
    unfold crc
    rw [show ~~~(ext t (~~~0)) = ext t (~~~0) ^^^ (-1) by rw [UInt32.xor_neg_one], ← UInt32.xor_assoc, UInt32.xor_self, UInt32.zero_xor]
    rfl
  rw [this]; rfl
/-- A block that ends with its checksum. -/
def Sealed (s : Str) : Prop := s.take 508 ++ crcB (s.take 508) = s
theorem sealed_eq {s b : Str} (hs : Sealed s) (hb : Sealed b) (hl : s.length = b.length) (k : Nat) (h : ∀ i (h1 : i < s.length) (h2 : i < b.length), i < k ∨ k + 4 ≤ i → s[i] = b[i]) : s = b := by
  have e0 : ext s (~~~0) = ext b (~~~0) := by rw [← hs, ← hb, residue, residue]
  have t1 : s.take k = b.take k := by
    apply List.ext_getElem
    · simp [hl]
    · intro i h1 h2
      simp only [List.length_take] at h1 h2
      rw [List.getElem_take, List.getElem_take]
      exact h i (by omega) (by omega) (.inl (by omega))
  have t2 : s.drop (k + 4) = b.drop (k + 4) := by
    apply List.ext_getElem
    · simp [hl]
    · intro i h1 h2
      simp only [List.length_drop] at h1 h2
      rw [List.getElem_drop, List.getElem_drop]
      exact h _ (by omega) (by omega) (.inr (by omega))
  have ds : s = s.take k ++ ((s.drop k).take 4 ++ s.drop (k + 4)) := by
    conv => lhs; rw [← List.take_append_drop k s, ← List.take_append_drop 4 (s.drop k), List.drop_drop]
  have db : b = s.take k ++ ((b.drop k).take 4 ++ s.drop (k + 4)) := by
    conv => lhs; rw [← List.take_append_drop k b, ← List.take_append_drop 4 (b.drop k), List.drop_drop, ← t1, ← t2]
  have e1 : ext ((s.drop k).take 4) (ext (s.take k) (~~~0)) = ext ((b.drop k).take 4) (ext (s.take k) (~~~0)) := by
    have := e0
    rw [ds, db, ext_app, ext_app, ext_app, ext_app] at this
    have t3 : (s.take k ++ ((s.drop k).take 4 ++ s.drop (k + 4))) = s := ds.symm
    exact ext_inj _ this
  have l1 : ((s.drop k).take 4).length = ((b.drop k).take 4).length := by simp [hl]
  have l2 : ((s.drop k).take 4).length ≤ 4 := by rw [List.length_take]; omega
  rw [ext_le ((s.drop k).take 4) _ l2, ext_le ((b.drop k).take 4) _ (by omega), ← l1] at e1
  have e2 := bits_inj _ e1
  have e3 := congrArg (fun x => ext (s.take k) (~~~0) ^^^ x) e2
  simp only [← UInt32.xor_assoc, UInt32.xor_self, UInt32.zero_xor] at e3
  have e4 := le_inj l1 l2 e3
  rw [ds, e4]
  exact db.symm
end Go.Proofs
/- The law PageDamage: small pages. -/
set_option linter.unusedVariables false
set_option linter.unusedSimpArgs false
namespace Go.Proofs
open Go Go.Abs
/-- Lists that are short, as a machine counts. -/
def shortG : List Freed → Int → Bool
  | [], _ => true
  | f :: r, n => if 900 < IntKind.i64.wrap (n + (f.pages.length : Int)) then false else shortG r (IntKind.i64.wrap (n + (f.pages.length : Int)))
def shortB (l : List Freed) : Bool := shortG (l.take 301) 0 && decide (l.length ≤ 300)
def smallB (p : Page) : Bool := few p.entries && (shortB p.freed && decide (p.data.length ≤ 1000))
section
variable {n : Nat} {h : AHeap}
theorem short_eq (hn : 1 ≤ n) (l : List Freed) (sz : Nat) (hz : l ≠ [] → sz = 2) (c : Bool) : C n 25 [.lst sz (l.map Freed.av) c] h = some (.ret (.bool (shortB l)), h) := by
  obtain ⟨m, rfl⟩ : ∃ m, n = m + 1 := ⟨n - 1, by omega⟩
  refine fun_pure F25 rfl rfl rfl (pure_lst freed_pure l rfl) ?_
  conv => whnf
  refine loopI (by decide) rfl (α := Nat × Int) (fun x => ⟨[(0, .lst sz (l.map Freed.av) c), (3, i64 x.2), (4, i64 x.1)], [], []⟩)
    (fun x => (x.1 ≤ l.length ∧ x.1 ≤ 301) ∧ shortG (l.take 301) 0 = shortG ((l.take 301).drop x.1) x.2) (fun x => 301 - x.1) (0, 0) ⟨⟨rfl, rfl, rfl⟩, rfl, rfl⟩ ⟨⟨Nat.zero_le _, by decide⟩, rfl⟩ (by show 301 - 0 < KK; simp only [KK]; omega) ?_
  rintro ⟨j, k⟩ ⟨⟨g1, g0⟩, g2⟩
  simp only at g1 g0 g2
  have stop : ∀ (b : Bool), b = shortB l → frz [] 64 (.bool b) = some (.bool (shortB l)) := fun b e => by rw [e]; rfl
  conv => whnf
  refine brd (fun a => ?_) (fun a => ?_)
  · have hj : j < l.length := by simp at a; omega
    conv => whnf
    refine brd (fun d => ?_) (fun d => ?_)
    · have hj2 : j ≤ 300 := by simp only at d; omega
      have e : (l.take 301).drop j = l[j] :: (l.take 301).drop (j + 1) := by
        have hlt : j < (l.take 301).length := by rw [List.length_take]; omega
        rw [List.drop_eq_getElem_cons hlt, List.getElem_take]
      rw [e] at g2
      simp only [shortG] at g2
      have el : ((l[j].pages.map i64).length : Int) = (l[j].pages.length : Int) := by rw [List.length_map]
      conv => whnf
      refine ixL freed_cells hj hz ?_
      conv => whnf
      refine zI (z := IntKind.i64.wrap (k + (l[j].pages.length : Int))) (by rw [el]) ?_
      conv => whnf
      refine brd (fun q => ?_) (fun q => ?_)
      · conv => whnf
        rw [if_pos q] at g2
        exact retP rfl (frz_bool (by unfold shortB; rw [g2]; rfl))
      · rw [if_neg q] at g2
        conv => whnf
        refine zI (z := ((j + 1 : Nat) : Int)) (by rw [wrap_i64 (by omega) (by omega)]; rfl) ?_
        exact nxI (j + 1, _) ⟨⟨hj, by omega⟩, g2⟩ (by simp only; omega) ⟨⟨rfl, rfl, rfl⟩, rfl, rfl⟩
    · have hj2 : j = 301 := by simp only at d; omega
      conv => whnf
      refine cutI (by decide) rfl (t := ⟨[(0, .lst sz (l.map Freed.av) c)], [], []⟩) ⟨rfl, rfl, rfl⟩ ?_
      conv => whnf
      refine retP rfl (frz_bool ?_)
      unfold shortB
      rw [List.length_map, show decide (l.length ≤ 300) = false by rw [decide_eq_false_iff_not]; omega, Bool.and_false]
      simp; omega
  · have hj : j = l.length := by simp at a; omega
    conv => whnf
    refine cutI (by decide) rfl (t := ⟨[(0, .lst sz (l.map Freed.av) c)], [], []⟩) ⟨rfl, rfl, rfl⟩ ?_
    conv => whnf
    refine retP rfl (frz_bool ?_)
    unfold shortB
    rw [g2, List.drop_of_length_le (by rw [List.length_take]; omega)]
    simp [shortG]; omega
theorem small_eq (hn : 2 ≤ n) (p : Page) (o1 : p.entries ≠ [] → p.esh.sz = 22) (o2 : p.freed ≠ [] → p.fsh.sz = 2) : C n 8 [.lst 10 [p.av] true] h = some (.ret (.bool (smallB p)), h) := by
  obtain ⟨m, rfl⟩ : ∃ m, n = m + 1 := ⟨n - 1, by omega⟩
  have cf : ∀ h, C m 11 [.lst p.esh.sz (p.entries.map Entry.av) p.esh.c] h = some (.ret (.bool (few p.entries)), h) := fun h => few_eq (by omega) _ _ o1 _
  have cs : ∀ h, C m 25 [.lst p.fsh.sz (p.freed.map Freed.av) p.fsh.c] h = some (.ret (.bool (shortB p.freed)), h) := fun h => short_eq (by omega) _ _ o2 _
  have hix : ∀ {q : List AV → Prop}, q p.cells → ∃ y, ([p.av] : List AV)[(0 : Int).toNat]? = some y ∧ ∃ cs, y.cells? = some cs ∧ q cs := fun hq => ⟨p.av, rfl, p.cells, rfl, hq⟩
  refine fun_pure F8 rfl rfl rfl (by simp [pureBs, AV.pureB, page_pure]) ?_
  conv => whnf
  refine loopI (by decide) rfl (α := Nat) (fun x => ⟨[(0, .lst 10 [p.av] true), (3, i64 x)], [], []⟩) (fun x => x ≤ 1 ∧ (x = 1 → smallB p = true)) (fun x => 1 - x) 0 ⟨⟨rfl, rfl⟩, rfl, rfl⟩ ⟨by decide, by simp⟩ (by show 1 - 0 < KK; simp only [KK]; omega) ?_
  rintro j ⟨g1, g2⟩
  obtain rfl | rfl : j = 0 ∨ j = 1 := by omega
  · repeat' (conv => whnf); first
      | refine ⟨by decide, rfl, p.av, rfl, p.cells, rfl, ?_⟩
      | refine clI (cf _) ?_
      | refine clI (cs _) ?_
      | refine zI (z := ((1 : Nat) : Int)) rfl ?_
      | refine retP rfl (frz_bool ?_)
      | refine nxI 1 ⟨by decide, fun _ => ?_⟩ (by decide) ⟨⟨rfl, rfl⟩, rfl, rfl⟩
      | refine brd (fun _ => ?_) (fun _ => ?_)
      | refine bre (fun _ => ?_) (fun _ => ?_)
      | refine brq (fun _ => ?_) (fun _ => ?_)
      | refine brn (fun _ => ?_) (fun _ => ?_)
      | refine br (fun _ => ?_) (fun _ => ?_)
      | refine ldI (by rfl) ?_
      | refine ldI (get_set_last _ _ _) ?_
      | refine ldI (get_last _ _) ?_
      | refine stI (by rfl) (by rfl) (by rfl) (by rfl) (by rfl) ?_
      | refine stI (get_last _ _) (by rfl) (by rfl) (by rfl) (by rfl) ?_
      | refine cutS (by decide) rfl ?_
    all_goals clear cf cs hix
    all_goals unfold smallB
    all_goals simp_all
    all_goals omega
  · conv => whnf
    refine cutI (by decide) rfl (t := ⟨[(0, .lst 10 [p.av] true)], [], []⟩) ⟨rfl, rfl, rfl⟩ ?_
    conv => whnf
    exact retP rfl (frz_bool (by rw [g2 rfl]; rfl))
end
end Go.Proofs
/- The law PageSearch: what it computes. -/
set_option linter.unusedVariables false
set_option linter.unusedSimpArgs false
namespace Go.Proofs
open Go Go.Abs
theorem less_trans : ∀ (x y z : Str), Op.bytesLess x y = true → Op.bytesLess y z = true → Op.bytesLess x z = true
  | x, [], z, h, _ => by cases x <;> simp [Op.bytesLess] at h
  | x, b :: y, [], _, h => by simp [Op.bytesLess] at h
  | [], b :: y, c :: z, _, _ => by simp [Op.bytesLess]
  | a :: x, b :: y, c :: z, h1, h2 => by
    simp only [Op.bytesLess, Bool.or_eq_true, Bool.and_eq_true, decide_eq_true_eq, beq_iff_eq] at h1 h2 ⊢
    rcases h1 with h1 | ⟨rfl, h1⟩
    · rcases h2 with h2 | ⟨rfl, h2⟩
      · exact .inl (UInt8.lt_trans h1 h2)
      · exact .inl h1
    · rcases h2 with h2 | ⟨rfl, h2⟩
      · exact .inl h2
      · exact .inr ⟨rfl, less_trans x y z h1 h2⟩
theorem cmp_neg {x y : Str} : cmpS x y < 0 ↔ Op.bytesLess x y = true := by
  unfold cmpS
  by_cases a : Op.bytesLess x y = true
  · simp [a]
  · by_cases b : Op.bytesLess y x = true
    · simp [a, b]
    · simp [a, b]
theorem cmp_zero {x y : Str} : cmpS x y = 0 ↔ x = y := by
  unfold cmpS
  by_cases a : Op.bytesLess x y = true
  · simp [a]
    rintro rfl
    rw [less_irrefl] at a; cases a
  · by_cases b : Op.bytesLess y x = true
    · simp [a, b]
      rintro rfl
      rw [less_irrefl] at b; cases b
    · simp only [Bool.not_eq_true] at a b
      have := less_total x y a b
      subst this
      simp [a]
theorem sorted_lt {l : List Entry} (h : ∀ j (hj : j < l.length), 0 < j → cmpS (l[j - 1]).key l[j].key < 0) : ∀ (d j : Nat) (hj : j + d + 1 < l.length), Op.bytesLess (l[j]).key (l[j + d + 1]).key = true
  | 0, j, hj => by
    have := h (j + 1) hj (by omega)
    exact cmp_neg.1 this
  | d + 1, j, hj => by
    have h1 := sorted_lt h d j (by omega)
    have h2 := h (j + (d + 1) + 1) hj (by omega)
    exact less_trans _ _ _ h1 (cmp_neg.1 h2)
theorem index_of {l : List Entry} (h : ∀ j (hj : j < l.length), 0 < j → cmpS (l[j - 1]).key l[j].key < 0) (k : Str) : ∀ n, n ≤ l.length → ∃ i, i ≤ n ∧ (∀ j (hj : j < l.length), j < i → cmpS l[j].key k < 0) ∧ ∀ j (hj : j < l.length), i ≤ j → j < n → ¬ cmpS l[j].key k < 0
  | 0, _ => ⟨0, Nat.le_refl _, fun j _ h => absurd h (Nat.not_lt_zero _), fun j _ _ h => absurd h (Nat.not_lt_zero _)⟩
  | n + 1, hn => by
    obtain ⟨i, h1, h2, h3⟩ := index_of h k n (by omega)
    by_cases hl : cmpS (l[n]'(by omega)).key k < 0
    · refine ⟨n + 1, Nat.le_refl _, fun j hj hlt => ?_, fun j _ h1 h2 => absurd h2 (by omega)⟩
      by_cases e : j = n
      · subst e; exact hl
      · have := sorted_lt h (n - j - 1) j (by omega)
        have e2 : j + (n - j - 1) + 1 = n := by omega
        simp only [e2] at this
        exact cmp_neg.2 (less_trans _ _ _ this (cmp_neg.1 hl))
    · refine ⟨i, by omega, h2, fun j hj a b => ?_⟩
      by_cases e : j = n
      · subst e; exact hl
      · exact h3 j hj a (by omega)
theorem eq_ent (e : Entry) : eqA Try.prog 20 51 (.agg e.cells) (.agg e.cells) = some true := by
  have e1 : eqA Try.prog 20 51 (.agg e.cells) (.agg e.cells) = allEq (eqA Try.prog 19) [(9, .str e.key, .str e.key), (9, .str e.val, .str e.val), (3, i64 e.over, i64 e.over), (3, i64 e.len, i64 e.len), (3, i64 e.child, i64 e.child), (3, i64 e.count, i64 e.count), (49, .agg e.sum.cells, .agg e.sum.cells)] := by kernel_rfl
  have e2 : ∀ (s : Str), eqA Try.prog 19 9 (.str s) (.str s) = some (s == s) := fun s => by kernel_rfl
  have e3 : ∀ (k : Int), eqA Try.prog 19 3 (i64 k) (i64 k) = some (k == k) := fun k => by kernel_rfl
  have e4 : eqA Try.prog 19 49 (.agg e.sum.cells) (.agg e.sum.cells) = allEq (eqA Try.prog 18) (zipE 5 (e.sum.list.map u8) (e.sum.list.map u8)) := by kernel_rfl
  have e5 : ∀ (x y : UInt8), eqA Try.prog 18 5 (.int .u8 x.toNat) (.int .u8 y.toNat) = some (((x.toNat : Nat) : Int) == y.toNat) := fun x y => by kernel_rfl
  have e6 : eqA Try.prog 19 49 (.agg e.sum.cells) (.agg e.sum.cells) = some true := by
    rw [e4, allEq_u8 (fun x y => by rw [e5, eq_u8]) e.sum.list e.sum.list rfl]
    simp
  rw [e1]
  simp only [allEq, e2, e3, e6, beq_self_eq_true]
section
variable {m : Nat} {h : AHeap}
theorem search_tree (p : Page) (ok : p.Ok) (hc : p.check = true) (k : Str) (hk3 : k.length ≤ 300) (hm : 12 ≤ m) (hk : p.kind = 1 ∨ p.kind = 2) (hl : p.entries.length < 1099511627776) (i : Nat) (hi : i ≤ p.entries.length) (h1 : ∀ j (hj : j < p.entries.length), j < i → cmpS p.entries[j].key k < 0) (h2 : ∀ j (hj : j < p.entries.length), i ≤ j → ¬ cmpS p.entries[j].key k < 0)
    (cs : ∀ h, C m 7 [] h = some (.ret (.bool true), h)) (csm : ∀ h, C m 8 [.lst 10 [p.av] true] h = some (.ret (.bool true), h))
    (cE : ∀ h, C m 9 [p.av] h = some (.ret (.tup [.str p.enc, i64 0]), h)) :
    C (m + 1) 6 [p.av, .str k] h = some (.ret (.bool true), h) := by
  obtain ⟨f, hf⟩ : ∃ f : Bool, f = true ↔ ∃ hj : i < p.entries.length, cmpS p.entries[i].key k = 0 := by
    by_cases q : ∃ hj : i < p.entries.length, cmpS p.entries[i].key k = 0
    · exact ⟨true, by simp [q]⟩
    · exact ⟨false, by simp [q]⟩
  have cF := find_enc (n := m) hm hc hk hl k i hi h1 h2 f hf
  have cA : ∀ j (hj : j < p.entries.length) h, C m 20 [.str p.enc, i64 j] h = some (.ret (.tup [.agg p.entries[j].cells, i64 0]), h) := fun j hj => entryAt_enc hm hc hk j hj
  have cO := entryAt_out (n := m) hm hc hk
  refine fun_pure F6 rfl rfl rfl (by simp [pureBs, page_pure, AV.pureB]) ?_
  have loop : ∀ s' : LS, LS.sub ⟨[(1, .str k), (2, .ptr 0 0 0), (5, .bool true), (6, .str p.enc), (8, i64 i), (13, i64 0)], [.cells 0 (some 25) p.cells 0], []⟩ s' → ∀ {Q : Ex → LS → Prop}, (∀ L hp, hp[0]? = some (.cells 0 (some 25) p.cells 0) → subL [(2, .ptr 0 0 0), (5, .bool true), (6, .str p.enc)] L → Q (.exit 0) ⟨L, hp, []⟩) → OkR Try.prog (C m) cfg0.inl KK 145 8 (.loop (c6.lp 0)) s' Q := fun s' hs' Q hE => by
    refine loopI (by decide) rfl (α := Nat × AHeap) (fun x => ⟨[(1, .str k), (2, .ptr 0 0 0), (5, .bool true), (6, .str p.enc), (8, i64 i), (13, i64 x.1)], x.2, []⟩) (fun x => x.1 ≤ p.entries.length ∧ x.2[0]? = some (.cells 0 (some 25) p.cells 0)) (fun x => p.entries.length - x.1) (0, _) hs' ⟨Nat.zero_le _, rfl⟩ (by show p.entries.length - 0 < KK; simp only [KK]; omega) ?_
    rintro ⟨j, hp⟩ ⟨g1, g2⟩
    simp only at g1 g2
    have l0 := lt_of_get g2
    conv => whnf
    refine ldI g2 ?_
    conv => whnf
    refine brd (fun a => ?_) (fun a => ?_)
    · have hj : j < p.entries.length := by rw [List.length_map] at a; simp only at a; omega
      have hb : (Op.bytesLess p.entries[j].key k == decide (((j : Nat) : Int) < (i : Nat))) = true := by
        rw [beq_iff_eq, Bool.eq_iff_iff, decide_eq_true_eq, ← cmp_neg]
        constructor
        · intro q
          rcases Nat.lt_or_ge j i with r | r
          · omega
          · exact absurd q (h2 j hj r)
        · intro q
          exact h1 j hj (by omega)
      conv => whnf
      refine clI (cA j hj _) ?_
      conv => whnf
      refine stI (xs := p.entries[j].cells) (get_last _ _) (by rfl) (by rfl) (by rfl) (by rfl) ?_
      have g3 : ((hp ++ [AB.cells 0 (some 51) zEnt.cells 0]).set hp.length (.cells 0 (some 51) (putAt zEnt.cells 0 p.entries[j].cells) 0))[0]? = some (.cells 0 (some 25) p.cells 0) := gs (get_app g2) (by omega)
      conv => whnf
      refine ldI (get_set_last _ _ _) ?_
      conv => whnf
      refine ldI g3 ?_
      conv => whnf
      refine ixL entry_cells hj ok.esz ?_
      conv => whnf
      refine eqI (r := true) (eq_ent _) ?_
      conv => whnf
      refine ldI (get_set_last _ _ _) ?_
      conv => whnf
      refine eqI (r := true) (by rw [eq_bool]; exact congrArg some hb) ?_
      conv => whnf
      refine zI (z := ((j + 1 : Nat) : Int)) (by rw [wrap_i64 (by simp only; omega) (by simp only; omega)]; rfl) ?_
      exact nxI (j + 1, _) ⟨hj, g3⟩ (by simp only; omega) ⟨⟨rfl, rfl, rfl, rfl, rfl, rfl⟩, rfl, rfl⟩
    · conv => whnf
      exact hE _ _ g2 ⟨rfl, rfl, rfl⟩
  have done : ∀ (L : LT) (hp : AHeap), hp[0]? = some (.cells 0 (some 25) p.cells 0) → subL [(2, .ptr 0 0 0), (5, .bool true), (6, .str p.enc)] L → OkR Try.prog (C m) cfg0.inl KK 145 8 (cutOf c6) ⟨L, hp, []⟩ (RetQ Try.prog [.tmp 4] fun v' h' => frz h' 64 v' = some (.bool true)) := fun L hp g2 hL => by
    refine cutI (by decide) rfl (t := ⟨[(2, .ptr 0 0 0), (5, .bool true), (6, .str p.enc)], hp, []⟩) ⟨hL, rfl, rfl⟩ ?_
    conv => whnf
    refine ldI g2 ?_
    conv => whnf
    refine clI (by rw [List.length_map]; exact cO _) ?_
    conv => whnf
    refine stI (xs := zEnt.cells) (get_last _ _) (by rfl) (by rfl) (by rfl) (by rfl) ?_
    conv => whnf
    exact retP rfl (frz_bool rfl)
  conv => whnf
  refine clI (cs _) ?_
  conv => whnf
  refine ldI (by rfl) ?_
  conv => whnf
  refine ⟨rfl, ?_⟩
  conv => whnf
  refine clI (csm _) ?_
  conv => whnf
  refine brd (fun a => absurd a (by omega)) (fun _ => ?_)
  conv => whnf
  refine ldI (by rfl) ?_
  conv => whnf
  refine clI (cE _) ?_
  conv => whnf
  refine clI (cF _) ?_
  conv => whnf
  refine ldI (by rfl) ?_
  conv => whnf
  refine brq (fun a => ?_) (fun a => ?_)
  · conv => whnf
    refine ldI (by rfl) ?_
    conv => whnf
    refine brq (fun b => (hk.elim a b).elim) (fun b => ?_)
    conv => whnf
    refine ldI (by rfl) ?_
    conv => whnf
    refine brd (fun d => absurd d (by rw [List.length_map]; omega)) (fun _ => ?_)
    conv => whnf
    refine ldI (by rfl) ?_
    conv => whnf
    refine brd (fun d => ?_) (fun d => ?_)
    · have hil : i < p.entries.length := by rw [List.length_map] at d; omega
      have hfk : (f == (p.entries[i].key == k)) = true := by
        rw [beq_iff_eq, Bool.eq_iff_iff, hf, beq_iff_eq, ← cmp_zero]
        exact ⟨fun q => q.2, fun q => ⟨hil, q⟩⟩
      conv => whnf
      refine ldI (by rfl) ?_
      conv => whnf
      refine ixL entry_cells hil ok.esz ?_
      conv => whnf
      refine eqI (r := true) (by rw [eq_bool]; exact congrArg some hfk) ?_
      conv => whnf
      refine loop _ ?_ (fun L hp g2 hL => ?_)
      · exact ⟨⟨rfl, rfl, rfl, rfl, rfl, rfl⟩, rfl, rfl⟩
      · conv => whnf
        exact done L hp g2 hL
    · have hil : ¬ i < p.entries.length := by rw [List.length_map] at d; omega
      have hff : (f == false) = true := by
        rw [beq_iff_eq]
        cases f with
        | false => rfl
        | true => exact (hil (hf.1 rfl).1).elim
      conv => whnf
      refine eqI (r := true) (by rw [eq_bool]; exact congrArg some hff) ?_
      conv => whnf
      refine loop _ ?_ (fun L hp g2 hL => ?_)
      · exact ⟨⟨rfl, rfl, rfl, rfl, rfl, rfl⟩, rfl, rfl⟩
      · conv => whnf
        exact done L hp g2 hL
  · conv => whnf
    refine ldI (by rfl) ?_
    conv => whnf
    refine brd (fun d => absurd d (by rw [List.length_map]; omega)) (fun _ => ?_)
    conv => whnf
    refine ldI (by rfl) ?_
    conv => whnf
    refine brd (fun d => ?_) (fun d => ?_)
    · have hil : i < p.entries.length := by rw [List.length_map] at d; omega
      have hfk : (f == (p.entries[i].key == k)) = true := by
        rw [beq_iff_eq, Bool.eq_iff_iff, hf, beq_iff_eq, ← cmp_zero]
        exact ⟨fun q => q.2, fun q => ⟨hil, q⟩⟩
      conv => whnf
      refine ldI (by rfl) ?_
      conv => whnf
      refine ixL entry_cells hil ok.esz ?_
      conv => whnf
      refine eqI (r := true) (by rw [eq_bool]; exact congrArg some hfk) ?_
      conv => whnf
      refine loop _ ?_ (fun L hp g2 hL => ?_)
      · exact ⟨⟨rfl, rfl, rfl, rfl, rfl, rfl⟩, rfl, rfl⟩
      · conv => whnf
        exact done L hp g2 hL
    · have hil : ¬ i < p.entries.length := by rw [List.length_map] at d; omega
      have hff : (f == false) = true := by
        rw [beq_iff_eq]
        cases f with
        | false => rfl
        | true => exact (hil (hf.1 rfl).1).elim
      conv => whnf
      refine eqI (r := true) (by rw [eq_bool]; exact congrArg some hff) ?_
      conv => whnf
      refine loop _ ?_ (fun L hp g2 hL => ?_)
      · exact ⟨⟨rfl, rfl, rfl, rfl, rfl, rfl⟩, rfl, rfl⟩
      · conv => whnf
        exact done L hp g2 hL
end
end Go.Proofs
/- Arguments as they are read: entries. -/
set_option linter.unusedVariables false
set_option linter.unusedSimpArgs false
namespace Go.Proofs
open Go Go.Abs Go.ChangeShapes Go.WideShapes Go.ChangeAt Go.RowKit

theorem ty3 : Try.prog.underlying 3 = some (.int .i64) := by kernel_rfl
theorem ty5 : Try.prog.underlying 5 = some (.int .u8) := by kernel_rfl
theorem ty9 : Try.prog.underlying 9 = some .string := by kernel_rfl
theorem ty4 : Try.prog.underlying 4 = some .bool := by kernel_rfl
theorem ty22 : Try.prog.underlying 22 = some (.slice 51) := by kernel_rfl
theorem ty49 : Try.prog.underlying 49 = some (.array 16 5) := by kernel_rfl
theorem sz51 : Try.prog.cellsOf 51 = 22 := by kernel_rfl
theorem sz49 : Try.prog.cellsOf 49 = 16 := by kernel_rfl
theorem sz5 : Try.prog.cellsOf 5 = 1 := by kernel_rfl
theorem own : ownKnob Try.prog.godebug = none := by kernel_rfl
theorem laid : laidOutB Try.prog = true := by kernel_rfl

section
variable {H : Type} {enc : TypeId × Value → H} {W : World} {base : Nat} {sp : Nat → Bool} {held : Bool} {fuel : Nat} {cs : List Value} {x : DataW H × List MemPlace}
theorem take_one {i : Nat} {v : Value} (h : (cs.drop i).take 1 = [v]) : cs[i]? = some v := by
  have : ((cs.drop i).take 1)[0]? = some v := by rw [h]; rfl
  simpa using this
theorem rd_dg (h : DataW.trod enc Try.prog W base sp held fuel 49 cs = some x) : ∃ d : Dg, VRs (cellsW W) noBM d.cells cs := by
  obtain ⟨xs, m, _, _, hl, hx, hi⟩ := DataW.trod_array ty49 h
  rw [sz49] at hl
  rw [sz5] at hi
  have hb : ∀ i, i < 16 → ∃ b : UInt8, cs[i]? = some (.int .u8 b.toNat) := fun i hi' => by
    have h1 := hi i hi'
    rw [List.getElem?_eq_getElem (by omega)] at h1
    obtain ⟨b, h2⟩ := rd_u8 ty5 h1
    rw [Nat.mul_one] at h2
    exact ⟨b, take_one h2⟩
  obtain ⟨b0, g0⟩ := hb 0 (by omega)
  obtain ⟨b1, g1⟩ := hb 1 (by omega)
  obtain ⟨b2, g2⟩ := hb 2 (by omega)
  obtain ⟨b3, g3⟩ := hb 3 (by omega)
  obtain ⟨b4, g4⟩ := hb 4 (by omega)
  obtain ⟨b5, g5⟩ := hb 5 (by omega)
  obtain ⟨b6, g6⟩ := hb 6 (by omega)
  obtain ⟨b7, g7⟩ := hb 7 (by omega)
  obtain ⟨b8, g8⟩ := hb 8 (by omega)
  obtain ⟨b9, g9⟩ := hb 9 (by omega)
  obtain ⟨b10, g10⟩ := hb 10 (by omega)
  obtain ⟨b11, g11⟩ := hb 11 (by omega)
  obtain ⟨b12, g12⟩ := hb 12 (by omega)
  obtain ⟨b13, g13⟩ := hb 13 (by omega)
  obtain ⟨b14, g14⟩ := hb 14 (by omega)
  obtain ⟨b15, g15⟩ := hb 15 (by omega)
  refine ⟨⟨b0, b1, b2, b3, b4, b5, b6, b7, b8, b9, b10, b11, b12, b13, b14, b15⟩, VRs_get (by rw [hl]; rfl) fun i a v ha hv => ?_⟩
  have hi16 : i < 16 := by
    rcases Nat.lt_or_ge i 16 with h | h
    · exact h
    · rw [List.getElem?_eq_none (by omega)] at hv; cases hv
  have : i = 0 ∨ i = 1 ∨ i = 2 ∨ i = 3 ∨ i = 4 ∨ i = 5 ∨ i = 6 ∨ i = 7 ∨ i = 8 ∨ i = 9 ∨ i = 10 ∨ i = 11 ∨ i = 12 ∨ i = 13 ∨ i = 14 ∨ i = 15 := by omega
  rcases this with rfl | rfl | rfl | rfl | rfl | rfl | rfl | rfl | rfl | rfl | rfl | rfl | rfl | rfl | rfl | rfl
  all_goals
    first
      | rw [g0] at hv | rw [g1] at hv | rw [g2] at hv | rw [g3] at hv | rw [g4] at hv | rw [g5] at hv | rw [g6] at hv | rw [g7] at hv | rw [g8] at hv | rw [g9] at hv | rw [g10] at hv | rw [g11] at hv | rw [g12] at hv | rw [g13] at hv | rw [g14] at hv | rw [g15] at hv
    cases hv
    cases ha
    unfold VR; rfl

theorem rd_entry (h : DataW.trod enc Try.prog W base sp held fuel 51 cs = some x) : ∃ e : Entry, VRs (cellsW W) noBM e.cells cs ∧ True := by
  obtain ⟨fs, hfs, f0, f1, f2, f3, f4, f5, f6, h0, h1, h2, h3, h4, h5, h6, t0, t1, t2, t3, t4, t5, t6, o0, o1, o2, o3, o4, o5, o6⟩ :
      ∃ fs : Array Field, Try.prog.underlying 51 = some (.struct fs) ∧ ∃ (f0 f1 f2 f3 f4 f5 f6 : Field), fs[0]? = some f0 ∧ fs[1]? = some f1 ∧ fs[2]? = some f2 ∧ fs[3]? = some f3 ∧ fs[4]? = some f4 ∧ fs[5]? = some f5 ∧ fs[6]? = some f6 ∧
        f0.type = 9 ∧ f1.type = 9 ∧ f2.type = 3 ∧ f3.type = 3 ∧ f4.type = 3 ∧ f5.type = 3 ∧ f6.type = 49 ∧ f0.offset = 0 ∧ f1.offset = 1 ∧ f2.offset = 2 ∧ f3.offset = 3 ∧ f4.offset = 4 ∧ f5.offset = 5 ∧ f6.offset = 6 := by
    refine ⟨_, Try.underlying51, _, _, _, _, _, _, _, rfl, rfl, rfl, rfl, rfl, rfl, rfl, rfl, rfl, rfl, rfl, rfl, rfl, rfl, rfl, rfl, rfl, rfl, rfl, rfl, rfl⟩
  obtain ⟨xs, n, _, _, hl, hx, hi⟩ := DataW.trod_struct hfs h
  rw [sz51] at hl
  have hsz : 7 ≤ fs.size := (Array.getElem?_eq_some_iff.1 h6).1
  have get : ∀ (i : Nat) (f : Field), fs[i]? = some f → ∃ y, DataW.trod enc Try.prog W base sp held n f.type ((cs.drop f.offset).take (Try.prog.cellsOf f.type)) = some y := fun i f hf => by
    have h := hi i f hf
    have : i < fs.size := (Array.getElem?_eq_some_iff.1 hf).1
    rw [List.getElem?_eq_getElem (by omega)] at h
    exact ⟨_, h⟩
  have s9 : Try.prog.cellsOf 9 = 1 := by kernel_rfl
  have s3 : Try.prog.cellsOf 3 = 1 := by kernel_rfl
  obtain ⟨_, y0⟩ := get 0 f0 h0
  obtain ⟨_, y1⟩ := get 1 f1 h1
  obtain ⟨_, y2⟩ := get 2 f2 h2
  obtain ⟨_, y3⟩ := get 3 f3 h3
  obtain ⟨_, y4⟩ := get 4 f4 h4
  obtain ⟨_, y5⟩ := get 5 f5 h5
  obtain ⟨_, y6⟩ := get 6 f6 h6
  rw [t0, o0, s9] at y0
  rw [t1, o1, s9] at y1
  rw [t2, o2, s3] at y2
  rw [t3, o3, s3] at y3
  rw [t4, o4, s3] at y4
  rw [t5, o5, s3] at y5
  rw [t6, o6, sz49] at y6
  obtain ⟨k, e0⟩ := rd_str ty9 y0
  obtain ⟨v, e1⟩ := rd_str ty9 y1
  obtain ⟨n2, e2, _⟩ := rd_int ty3 y2
  obtain ⟨n3, e3, _⟩ := rd_int ty3 y3
  obtain ⟨n4, e4, _⟩ := rd_int ty3 y4
  obtain ⟨n5, e5, _⟩ := rd_int ty3 y5
  obtain ⟨d, e6⟩ := rd_dg y6
  have hcs : cs = [.string ⟨k.toArray⟩, .string ⟨v.toArray⟩, .int .i64 n2, .int .i64 n3, .int .i64 n4, .int .i64 n5] ++ (cs.drop 6).take 16 := by
    have g0 := take_one e0
    have g1 := take_one e1
    have g2 := take_one e2
    have g3 := take_one e3
    have g4 := take_one e4
    have g5 := take_one e5
    apply List.ext_getElem?
    intro i
    have : i = 0 ∨ i = 1 ∨ i = 2 ∨ i = 3 ∨ i = 4 ∨ i = 5 ∨ 6 ≤ i := by omega
    rcases this with rfl | rfl | rfl | rfl | rfl | rfl | h
    · exact g0
    · exact g1
    · exact g2
    · exact g3
    · exact g4
    · exact g5
    · rw [List.getElem?_append_right (by simpa using h)]
      simp only [List.length_cons, List.length_nil]
      rw [List.getElem?_take]
      by_cases h' : i - 6 < 16
      · rw [if_pos h', List.getElem?_drop]
        show cs[i]? = cs[6 + (i - 6)]?
        rw [show 6 + (i - 6) = i by omega]
      · rw [if_neg h', List.getElem?_eq_none (by omega)]
  refine ⟨⟨k, v, n2, n3, n4, n5, d⟩, ?_, trivial⟩
  rw [hcs]
  show VRs (cellsW W) noBM ([.str k, .str v, i64 n2, i64 n3, i64 n4, i64 n5] ++ d.cells) _
  refine VRs_app ?_ e6
  repeat' (first | exact VRs_one (by unfold VR; rfl) | (refine @VRs_app _ _ [_] _ [_] _ (VRs_one (by unfold VR; rfl)) ?_))

/-- A slice of entries. -/
theorem rd_entries (h : DataW.trod enc Try.prog W base sp held fuel 22 cs = some x) : ∃ (l : List Entry) (v : Value), cs = [v] ∧ VR (cellsW W) noBM (.lst 22 (l.map Entry.av) false) v := by
  obtain ⟨l, v, h1, h2, _⟩ := rd_slice (g := Entry.cells) (ok := fun _ => True) ty22 sz51 (by decide) (fun fuel cs x h => rd_entry h) h
  exact ⟨l, v, h1, h2⟩
end
end Go.Proofs
/- Arguments as they are read: pages. -/
set_option linter.unusedVariables false
set_option linter.unusedSimpArgs false
namespace Go.Proofs
open Go Go.Abs Go.ChangeShapes Go.WideShapes Go.ChangeAt Go.RowKit
theorem tyPage : ∃ fs : Array Field, Try.prog.underlying 25 = some (.struct fs) ∧ ∃ (f0 f1 f2 f3 f4 f5 f6 f7 f8 f9 : Field), fs[0]? = some f0 ∧ fs[1]? = some f1 ∧ fs[2]? = some f2 ∧ fs[3]? = some f3 ∧ fs[4]? = some f4 ∧ fs[5]? = some f5 ∧ fs[6]? = some f6 ∧ fs[7]? = some f7 ∧ fs[8]? = some f8 ∧ fs[9]? = some f9 ∧
    f0.type = 3 ∧ f1.type = 3 ∧ f2.type = 3 ∧ f3.type = 3 ∧ f4.type = 3 ∧ f5.type = 4 ∧ f6.type = 22 ∧ f7.type = 3 ∧ f8.type = 9 ∧ f9.type = 23 ∧ f0.offset = 0 ∧ f1.offset = 1 ∧ f2.offset = 2 ∧ f3.offset = 3 ∧ f4.offset = 4 ∧ f5.offset = 5 ∧ f6.offset = 6 ∧ f7.offset = 7 ∧ f8.offset = 8 ∧ f9.offset = 9 :=
  ⟨_, Try.underlying25, _, _, _, _, _, _, _, _, _, _, rfl, rfl, rfl, rfl, rfl, rfl, rfl, rfl, rfl, rfl, rfl, rfl, rfl, rfl, rfl, rfl, rfl, rfl, rfl, rfl, rfl, rfl, rfl, rfl, rfl, rfl, rfl, rfl, rfl, rfl⟩
theorem tyFreed : ∃ fs : Array Field, Try.prog.underlying 109 = some (.struct fs) ∧ ∃ (f0 f1 : Field), fs[0]? = some f0 ∧ fs[1]? = some f1 ∧ f0.type = 3 ∧ f1.type = 107 ∧ f0.offset = 0 ∧ f1.offset = 1 :=
  ⟨_, Try.underlying109, _, _, rfl, rfl, rfl, rfl, rfl, rfl⟩
theorem tyInts : Try.prog.underlying 107 = some (.slice 3) := by kernel_rfl
theorem tyFreeds : Try.prog.underlying 23 = some (.slice 109) := by kernel_rfl
theorem szPage : Try.prog.cellsOf 25 = 10 := by kernel_rfl
theorem szFreed : Try.prog.cellsOf 109 = 2 := by kernel_rfl
theorem s3 : Try.prog.cellsOf 3 = 1 := by kernel_rfl
theorem s4 : Try.prog.cellsOf 4 = 1 := by kernel_rfl
theorem s9 : Try.prog.cellsOf 9 = 1 := by kernel_rfl
theorem sEs : Try.prog.cellsOf 22 = 1 := by kernel_rfl
theorem sFs : Try.prog.cellsOf 23 = 1 := by kernel_rfl
theorem sIs : Try.prog.cellsOf 107 = 1 := by kernel_rfl
theorem ER_ints {S : SM} {m : BM} {sz : Nat} : ∀ {l : List Int} {B q : Nat}, (∀ i k, l[i]? = some k → S B (q + i * sz) = some (.int .i64 k)) → ER S m sz (l.map i64) B q
  | [], _, _, _ => by unfold ER; trivial
  | k :: l, B, q, h => by
    show ER S m sz (i64 k :: l.map i64) B q
    unfold ER
    refine ⟨⟨_, by simpa using h 0 k rfl, by unfold VR; rfl⟩, ER_ints fun i k' he => ?_⟩
    have := h (i + 1) k' (by simpa using he)
    rwa [show q + (i + 1) * sz = q + sz + i * sz by rw [Nat.add_mul]; omega] at this
section
variable {H : Type} {enc : TypeId × Value → H} {W : World} {base : Nat} {sp : Nat → Bool} {held : Bool} {fuel : Nat} {cs : List Value} {x : DataW H × List MemPlace}
theorem rd_ints (h : DataW.trod enc Try.prog W base sp held fuel 107 cs = some x) : ∃ (l : List Int) (v : Value), cs = [v] ∧ VR (cellsW W) noBM (.lst 1 (l.map i64) false) v ∧ l.length < 9223372036854775808 := by
  rcases DataW.trod_slice tyInts h with ⟨rfl, _⟩ | ⟨a, len, cap, elems, rest, n, _, rfl, _, hb, hlc, hcm, hel, hi, _, _⟩
  · exact ⟨[], _, rfl, by unfold VR; exact ⟨none, 0, rfl, Nat.le_refl _, (fun h => by cases h), fun h => (h rfl).elim⟩, by decide⟩
  · rw [s3] at hi
    obtain ⟨l, hl, hg⟩ := list_of (p := fun i (k : Int) => W.cells? base (a.add (i * 1)) 1 = some [.int .i64 k]) len fun i hil => by
      have h1 := hi i hil
      have h2 : elems[i]? = some (elems[i]'(by omega)) := List.getElem?_eq_getElem (by omega)
      rw [h2] at h1
      obtain ⟨cs', h3, h4⟩ := Option.bind_eq_some_iff.1 h1
      obtain ⟨k, rfl, _⟩ := rd_int ty3 h4
      exact ⟨k, h3⟩
    refine ⟨l, _, rfl, ?_, by rw [hl]; unfold maxLen at hcm; omega⟩
    unfold VR
    refine ⟨some a, cap, by simp [hl], by simpa [hl] using hlc, (fun h => by cases h), fun hne => ?_⟩
    have hpos : 0 < len := by
      rcases Nat.eq_zero_or_pos len with h | h
      · subst h
        have : l = [] := List.length_eq_zero_iff.1 hl
        subst this
        exact (hne rfl).elim
      · exact h
    have hspot : a.spot = none := by
      have h1 := hg 0 l[0] (List.getElem?_eq_getElem (by omega))
      obtain ⟨_, h3, h4⟩ := World.cells?_some h1
      have h5 := h4 0 (by decide)
      have := World.cell?_spot h5
      simpa [Addr.add] using this
    obtain ⟨B, q, spot⟩ := a
    simp only at hspot
    subst hspot
    refine ⟨B, q, rfl, ER_ints fun i k hk => ?_⟩
    have h1 := hg i k hk
    obtain ⟨_, h3, h4⟩ := World.cells?_some h1
    have h6 := h4 0 (by decide)
    have e7 : ((⟨B, q, none⟩ : Addr).add (i * 1)).add 0 = ⟨B, q + i * 1, none⟩ := by
      unfold Addr.add
      by_cases e1 : i = 0 <;> simp [e1]
    rw [e7] at h6
    exact h6
theorem two_of {v0 v1 : Value} (hl : cs.length = 2) (g0 : cs[0]? = some v0) (g1 : cs[1]? = some v1) : cs = [v0, v1] := by
  match cs, hl with
  | [a, b], _ => simp at g0 g1; rw [g0, g1]
theorem rd_freed (h : DataW.trod enc Try.prog W base sp held fuel 109 cs = some x) : ∃ f : Freed, VRs (cellsW W) noBM f.cells cs ∧ (f.Ok ∧ f.pages.length < 9223372036854775808) := by
  obtain ⟨fs, hfs, f0, f1, h0, h1, t0, t1, o0, o1⟩ := tyFreed
  obtain ⟨xs, n, _, _, hl, hx, hi⟩ := DataW.trod_struct hfs h
  rw [szFreed] at hl
  have get : ∀ (i : Nat) (f : Field), fs[i]? = some f → ∃ y, DataW.trod enc Try.prog W base sp held n f.type ((cs.drop f.offset).take (Try.prog.cellsOf f.type)) = some y := fun i f hf => by
    have h := hi i f hf
    have : i < fs.size := (Array.getElem?_eq_some_iff.1 hf).1
    rw [List.getElem?_eq_getElem (by omega)] at h
    exact ⟨_, h⟩
  obtain ⟨_, y0⟩ := get 0 f0 h0
  obtain ⟨_, y1⟩ := get 1 f1 h1
  rw [t0, o0, s3] at y0
  rw [t1, o1, sIs] at y1
  obtain ⟨k, e0, _⟩ := rd_int ty3 y0
  obtain ⟨l, v, e1, g1, gl⟩ := rd_ints y1
  have hcs := two_of hl (take_one e0) (take_one e1)
  refine ⟨⟨k, ⟨1, false⟩, l⟩, ?_, fun _ => rfl, gl⟩
  rw [hcs]
  exact @VRs_app _ _ [_] _ [_] _ (VRs_one (a := i64 k) (by unfold VR; rfl)) (VRs_one g1)
theorem rd_freeds (h : DataW.trod enc Try.prog W base sp held fuel 23 cs = some x) : ∃ (l : List Freed) (v : Value), cs = [v] ∧ VR (cellsW W) noBM (.lst 2 (l.map Freed.av) false) v ∧ ∀ f ∈ l, f.Ok ∧ f.pages.length < 9223372036854775808 := by
  obtain ⟨l, v, h1, h2, h3⟩ := rd_slice (g := Freed.cells) (ok := fun f => f.Ok ∧ f.pages.length < 9223372036854775808) tyFreeds szFreed (by decide) (fun fuel cs x h => rd_freed h) h
  exact ⟨l, v, h1, h2, h3⟩
theorem ten_of {v0 v1 v2 v3 v4 v5 v6 v7 v8 v9 : Value} (hl : cs.length = 10) (g0 : cs[0]? = some v0) (g1 : cs[1]? = some v1) (g2 : cs[2]? = some v2) (g3 : cs[3]? = some v3) (g4 : cs[4]? = some v4) (g5 : cs[5]? = some v5) (g6 : cs[6]? = some v6) (g7 : cs[7]? = some v7) (g8 : cs[8]? = some v8) (g9 : cs[9]? = some v9) : cs = [v0, v1, v2, v3, v4, v5, v6, v7, v8, v9] := by
  match cs, hl with
  | [a, b, c, d, e, f, g, h, i, j], _ => simp at g0 g1 g2 g3 g4 g5 g6 g7 g8 g9; rw [g0, g1, g2, g3, g4, g5, g6, g7, g8, g9]
/-- A page. -/
theorem rd_page (h : DataW.trod enc Try.prog W base sp held fuel 25 cs = some x) : ∃ p : Page, VRs (cellsW W) noBM p.cells cs ∧ (p.entries ≠ [] → p.esh.sz = 22) ∧ (p.freed ≠ [] → p.fsh.sz = 2) ∧ ∀ f ∈ p.freed, f.Ok ∧ f.pages.length < 9223372036854775808 := by
  obtain ⟨fs, hfs, f0, f1, f2, f3, f4, f5, f6, f7, f8, f9, h0, h1, h2, h3, h4, h5, h6, h7, h8, h9, t0, t1, t2, t3, t4, t5, t6, t7, t8, t9, o0, o1, o2, o3, o4, o5, o6, o7, o8, o9⟩ := tyPage
  obtain ⟨xs, n, _, _, hl, hx, hi⟩ := DataW.trod_struct hfs h
  rw [szPage] at hl
  have get : ∀ (i : Nat) (f : Field), fs[i]? = some f → ∃ y, DataW.trod enc Try.prog W base sp held n f.type ((cs.drop f.offset).take (Try.prog.cellsOf f.type)) = some y := fun i f hf => by
    have h := hi i f hf
    have : i < fs.size := (Array.getElem?_eq_some_iff.1 hf).1
    rw [List.getElem?_eq_getElem (by omega)] at h
    exact ⟨_, h⟩
  obtain ⟨_, y0⟩ := get 0 f0 h0
  obtain ⟨_, y1⟩ := get 1 f1 h1
  obtain ⟨_, y2⟩ := get 2 f2 h2
  obtain ⟨_, y3⟩ := get 3 f3 h3
  obtain ⟨_, y4⟩ := get 4 f4 h4
  obtain ⟨_, y5⟩ := get 5 f5 h5
  obtain ⟨_, y6⟩ := get 6 f6 h6
  obtain ⟨_, y7⟩ := get 7 f7 h7
  obtain ⟨_, y8⟩ := get 8 f8 h8
  obtain ⟨_, y9⟩ := get 9 f9 h9
  rw [t0, o0, s3] at y0
  rw [t1, o1, s3] at y1
  rw [t2, o2, s3] at y2
  rw [t3, o3, s3] at y3
  rw [t4, o4, s3] at y4
  rw [t5, o5, s4] at y5
  rw [t6, o6, sEs] at y6
  rw [t7, o7, s3] at y7
  rw [t8, o8, s9] at y8
  rw [t9, o9, sFs] at y9
  obtain ⟨n0, e0, _⟩ := rd_int ty3 y0
  obtain ⟨n1, e1, _⟩ := rd_int ty3 y1
  obtain ⟨n2, e2, _⟩ := rd_int ty3 y2
  obtain ⟨n3, e3, _⟩ := rd_int ty3 y3
  obtain ⟨n4, e4, _⟩ := rd_int ty3 y4
  obtain ⟨b5, e5⟩ := rd_bool ty4 y5
  obtain ⟨es, v6, e6, g6⟩ := rd_entries y6
  obtain ⟨n7, e7, _⟩ := rd_int ty3 y7
  obtain ⟨s8, e8⟩ := rd_str ty9 y8
  obtain ⟨fr, v9, e9, g9, ok9⟩ := rd_freeds y9
  have hcs := ten_of hl (take_one e0) (take_one e1) (take_one e2) (take_one e3) (take_one e4) (take_one e5) (take_one e6) (take_one e7) (take_one e8) (take_one e9)
  refine ⟨⟨n0, n1, n2, n3, n4, b5, ⟨22, false⟩, es, n7, s8, ⟨2, false⟩, fr⟩, ?_, fun _ => rfl, fun _ => rfl, ok9⟩
  rw [hcs]
  show VRs (cellsW W) noBM [i64 n0, i64 n1, i64 n2, i64 n3, i64 n4, .bool b5, .lst 22 (es.map Entry.av) false, i64 n7, .str s8, .lst 2 (fr.map Freed.av) false] _
  have fi : ∀ k : Int, VR (cellsW W) noBM (i64 k) (.int .i64 k) := fun k => by unfold VR; rfl
  have fb : VR (cellsW W) noBM (.bool b5) (.bool b5) := by unfold VR; rfl
  have fs : VR (cellsW W) noBM (.str s8) (.string ⟨s8.toArray⟩) := by unfold VR; rfl
  exact @VRs_app _ _ [_] _ [_] _ (VRs_one (fi n0)) (@VRs_app _ _ [_] _ [_] _ (VRs_one (fi n1)) (@VRs_app _ _ [_] _ [_] _ (VRs_one (fi n2)) (@VRs_app _ _ [_] _ [_] _ (VRs_one (fi n3)) (@VRs_app _ _ [_] _ [_] _ (VRs_one (fi n4)) (@VRs_app _ _ [_] _ [_] _ (VRs_one fb) (@VRs_app _ _ [_] _ [_] _ (VRs_one g6) (@VRs_app _ _ [_] _ [_] _ (VRs_one (fi n7)) (@VRs_app _ _ [_] _ [_] _ (VRs_one fs) (VRs_one g9)))))))))
end
end Go.Proofs
/- The chapter's examples hold: by runs of the small machine. -/
set_option linter.unusedVariables false
set_option linter.unusedSimpArgs false
namespace Go.Proofs
open Go Go.Abs
def ex : AV := .agg [.int .i64 (1), .int .i64 (2), .int .i64 (1), .int .i64 (0), .int .i64 (0), .bool true, .lst 22 [.agg [.str [97, 98], .str [120], .int .i64 (0), .int .i64 (0), .int .i64 (0), .int .i64 (0), .int .u8 (0), .int .u8 (0), .int .u8 (0), .int .u8 (0), .int .u8 (0), .int .u8 (0), .int .u8 (0), .int .u8 (0), .int .u8 (0), .int .u8 (0), .int .u8 (0), .int .u8 (0), .int .u8 (0), .int .u8 (0), .int .u8 (0), .int .u8 (0)], .agg [.str [97, 99], .str [121, 122], .int .i64 (0), .int .i64 (0), .int .i64 (0), .int .i64 (0), .int .u8 (0), .int .u8 (0), .int .u8 (0), .int .u8 (0), .int .u8 (0), .int .u8 (0), .int .u8 (0), .int .u8 (0), .int .u8 (0), .int .u8 (0), .int .u8 (0), .int .u8 (0), .int .u8 (0), .int .u8 (0), .int .u8 (0), .int .u8 (0)]] true, .int .i64 (0), .str [], .lst 0 [] true]
def st : AV := .str [85, 1, 0, 0, 0, 2, 0, 0, 0, 0, 0, 1, 0, 0, 1, 1, 0, 2, 97, 0, 23, 0, 28, 1, 98, 0, 1, 120, 1, 99, 0, 2, 121, 122, 0, 0, 0, 0, 0, 0, 0, 0, 0, 0, 0, 0, 0, 0, 0, 0, 0, 0, 0, 0, 0, 0, 0, 0, 0, 0, 0, 0, 0, 0, 0, 0, 0, 0, 0, 0, 0, 0, 0, 0, 0, 0, 0, 0, 0, 0, 0, 0, 0, 0, 0, 0, 0, 0, 0, 0, 0, 0, 0, 0, 0, 0, 0, 0, 0, 0, 0, 0, 0, 0, 0, 0, 0, 0, 0, 0, 0, 0, 0, 0, 0, 0, 0, 0, 0, 0, 0, 0, 0, 0, 0, 0, 0, 0, 0, 0, 0, 0, 0, 0, 0, 0, 0, 0, 0, 0, 0, 0, 0, 0, 0, 0, 0, 0, 0, 0, 0, 0, 0, 0, 0, 0, 0, 0, 0, 0, 0, 0, 0, 0, 0, 0, 0, 0, 0, 0, 0, 0, 0, 0, 0, 0, 0, 0, 0, 0, 0, 0, 0, 0, 0, 0, 0, 0, 0, 0, 0, 0, 0, 0, 0, 0, 0, 0, 0, 0, 0, 0, 0, 0, 0, 0, 0, 0, 0, 0, 0, 0, 0, 0, 0, 0, 0, 0, 0, 0, 0, 0, 0, 0, 0, 0, 0, 0, 0, 0, 0, 0, 0, 0, 0, 0, 0, 0, 0, 0, 0, 0, 0, 0, 0, 0, 0, 0, 0, 0, 0, 0, 0, 0, 0, 0, 0, 0, 0, 0, 0, 0, 0, 0, 0, 0, 0, 0, 0, 0, 0, 0, 0, 0, 0, 0, 0, 0, 0, 0, 0, 0, 0, 0, 0, 0, 0, 0, 0, 0, 0, 0, 0, 0, 0, 0, 0, 0, 0, 0, 0, 0, 0, 0, 0, 0, 0, 0, 0, 0, 0, 0, 0, 0, 0, 0, 0, 0, 0, 0, 0, 0, 0, 0, 0, 0, 0, 0, 0, 0, 0, 0, 0, 0, 0, 0, 0, 0, 0, 0, 0, 0, 0, 0, 0, 0, 0, 0, 0, 0, 0, 0, 0, 0, 0, 0, 0, 0, 0, 0, 0, 0, 0, 0, 0, 0, 0, 0, 0, 0, 0, 0, 0, 0, 0, 0, 0, 0, 0, 0, 0, 0, 0, 0, 0, 0, 0, 0, 0, 0, 0, 0, 0, 0, 0, 0, 0, 0, 0, 0, 0, 0, 0, 0, 0, 0, 0, 0, 0, 0, 0, 0, 0, 0, 0, 0, 0, 0, 0, 0, 0, 0, 0, 0, 0, 0, 0, 0, 0, 0, 0, 0, 0, 0, 0, 0, 0, 0, 0, 0, 0, 0, 0, 0, 0, 0, 0, 0, 0, 0, 0, 0, 0, 0, 0, 0, 0, 0, 0, 0, 0, 0, 0, 0, 0, 0, 0, 0, 0, 0, 0, 0, 0, 0, 0, 0, 0, 0, 0, 0, 0, 0, 0, 0, 0, 0, 0, 0, 0, 0, 0, 0, 0, 0, 0, 0, 0, 0, 0, 0, 0, 0, 0, 0, 0, 0, 0, 0, 53, 146, 233, 230]

theorem enc_run : CN Try.prog cfg1 20 9 [ex] [] = some (.ret (.tup [st, .int .i64 0]), []) := by kernel_rfl
def sum2 : FuncId → List AV → Option AV := fun f args => cond (Nat.beq f 9) (cond (beqVs args [ex]) (some (.tup [st, .int .i64 0])) none) (sum1 f args)
def cfg2 : Cfg := ⟨inl0, sum2⟩
theorem enc_pure : PureCalls Try.prog 9 [ex] (.ret (.tup [st, .int .i64 0])) := pure_of_CN sum1_ok rfl enc_run
theorem sum2_ok : SumOk Try.prog cfg2 := fun f args v h => by
  change sum2 f args = some v at h
  unfold sum2 at h
  cases hf : Nat.beq f 9 with
  | false => rw [hf] at h; exact sum1_ok f args v h
  | true =>
    rw [hf] at h
    have : f = 9 := Nat.eq_of_beq_eq_true hf
    subst this
    simp only [cond] at h
    cases hb : beqVs args [ex] with
    | false => rw [hb] at h; cases h
    | true =>
      rw [hb] at h
      have := beqVs_eq args hb
      subst this
      cases h
      exact enc_pure
theorem sane_run : CN Try.prog cfg2 20 7 [] [] = some (.ret (.bool true), []) := by kernel_rfl
theorem sane_pure : PureCalls Try.prog 7 [] (.ret (.bool true)) := pure_of_CN sum2_ok rfl sane_run
end Go.Proofs
/- What is known holds. -/
set_option linter.unusedVariables false
set_option linter.unusedSimpArgs false
namespace Go.Proofs
open Go Go.Abs
theorem sum0_ok : SumOk Try.prog cfg0 := fun f args v h => by
  change sum0 f args = some v at h
  unfold sum0 at h
  cases hf : Nat.beq f 7 with
  | false => rw [hf] at h; exact sum1_ok f args v h
  | true =>
    rw [hf] at h
    have : f = 7 := Nat.eq_of_beq_eq_true hf
    subst this
    simp only [cond] at h
    split at h
    · cases h; exact sane_pure
    · cases h
end Go.Proofs
/- The law PageSearch: for every input it returns true. -/
set_option linter.unusedVariables false
set_option linter.unusedSimpArgs false
namespace Go.Proofs
open Go Go.Abs Go.ChangeShapes Go.WideShapes Go.ChangeAt Go.RowKit
theorem small_oks {p : Page} (h : smallB p = true) (o1 : p.entries ≠ [] → p.esh.sz = 22) (o2 : p.freed ≠ [] → p.fsh.sz = 2) (o3 : ∀ f ∈ p.freed, f.Ok ∧ f.pages.length < 9223372036854775808) : p.Ok := by
  unfold smallB shortB at h
  simp only [Bool.and_eq_true, decide_eq_true_eq] at h
  obtain ⟨h1, ⟨_, h2⟩, h3⟩ := h
  obtain ⟨h4, h5⟩ := few_iff.1 h1
  exact ⟨o1, o2, by omega, by omega, by omega, fun e he => by have := h5 e he; exact ⟨by omega, by omega⟩, o3⟩
theorem pageSearch_eq {n : Nat} {h : AHeap} (hn : 13 ≤ n) (p : Page) (o1 : p.entries ≠ [] → p.esh.sz = 22) (o2 : p.freed ≠ [] → p.fsh.sz = 2) (o3 : ∀ f ∈ p.freed, f.Ok ∧ f.pages.length < 9223372036854775808) (k : Str) :
    C n 6 [p.av, .str k] h = some (.ret (.bool true), h) := by
  obtain ⟨m, rfl⟩ : ∃ m, n = m + 1 := ⟨n - 1, by omega⟩
  have cs : ∀ h, C m 7 [] h = some (.ret (.bool true), h) := fun h => sane_eq (by omega) h
  have csm : ∀ h, C m 8 [.lst 10 [p.av] true] h = some (.ret (.bool (smallB p)), h) := fun h => small_eq (by omega) p o1 o2
  have hpure : pureBs [p.av, .str k] = true := by simp [pureBs, page_pure, AV.pureB]
  cases hs : smallB p with
  | false =>
    rw [hs] at csm
    refine fun_pure F6 rfl rfl rfl hpure ?_
    conv => whnf
    refine clI (cs _) ?_
    conv => whnf
    refine ldI (by rfl) ?_
    conv => whnf
    refine ⟨rfl, ?_⟩
    conv => whnf
    refine clI (csm _) ?_
    conv => whnf
    exact retP rfl (frz_bool rfl)
  | true =>
    rw [hs] at csm
    have ok := small_oks hs o1 o2 o3
    have cE := fun h => encode_eq (n := m) (h := h) (by omega) p ok
    by_cases hm : k.length ≤ 300
    · cases hc : p.check with
      | true =>
        rw [hc] at cE
        by_cases hk : p.kind = 1 ∨ p.kind = 2
        · have hf : fits p.entries p.level = true := by
            obtain ⟨_, _, h3⟩ := check_iff.1 hc
            rcases h3 with ⟨_, _, _, h4, _⟩ | ⟨h4, _⟩ | ⟨h4, _⟩
            · exact h4
            · omega
            · omega
          have hv := (nodeB_len (tree := 0) (top := true) (base := 12) hf).2.1
          obtain ⟨i, h1, h2, h3⟩ := index_of (l := p.entries) (fun j hj h0 => by
            rcases (valid_form hv hj).2.2 with q | q
            · omega
            · exact q) k p.entries.length (Nat.le_refl _)
          exact search_tree p ok hc k hm (by omega) hk ok.elen i h1 h2 (fun j hj q => h3 j hj q hj) cs csm cE
        · have cF := find_not (n := m) (by omega) hc hk k
          have cA := entryAt_not (n := m) (by omega) hc hk 0
          refine fun_pure F6 rfl rfl rfl hpure ?_
          conv => whnf
          refine clI (cs _) ?_
          conv => whnf
          refine ldI (by rfl) ?_
          conv => whnf
          refine ⟨rfl, ?_⟩
          conv => whnf
          refine clI (csm _) ?_
          conv => whnf
          refine brd (fun a => absurd a (by omega)) (fun _ => ?_)
          conv => whnf
          refine ldI (by rfl) ?_
          conv => whnf
          refine clI (cE _) ?_
          conv => whnf
          refine clI (cF _) ?_
          conv => whnf
          refine ldI (by rfl) ?_
          conv => whnf
          refine brq (fun _ => ?_) (fun a => (hk (.inl a)).elim)
          conv => whnf
          refine ldI (by rfl) ?_
          conv => whnf
          refine brq (fun _ => ?_) (fun a => (hk (.inr a)).elim)
          conv => whnf
          refine clI (cA _) ?_
          conv => whnf
          refine stI (xs := zEnt.cells) (by rfl) (by rfl) (by rfl) (by rfl) (by rfl) ?_
          conv => whnf
          exact retP rfl (frz_bool rfl)
      | false =>
        rw [hc] at cE
        refine fun_pure F6 rfl rfl rfl hpure ?_
        conv => whnf
        refine clI (cs _) ?_
        conv => whnf
        refine ldI (by rfl) ?_
        conv => whnf
        refine ⟨rfl, ?_⟩
        conv => whnf
        refine clI (csm _) ?_
        conv => whnf
        refine brd (fun a => absurd a (by omega)) (fun _ => ?_)
        conv => whnf
        refine ldI (by rfl) ?_
        conv => whnf
        refine clI (cE _) ?_
        conv => whnf
        exact retP rfl (frz_bool rfl)
    · refine fun_pure F6 rfl rfl rfl hpure ?_
      conv => whnf
      refine clI (cs _) ?_
      conv => whnf
      refine ldI (by rfl) ?_
      conv => whnf
      refine ⟨rfl, ?_⟩
      conv => whnf
      refine clI (csm _) ?_
      conv => whnf
      refine brd (fun _ => ?_) (fun a => absurd (by omega) a)
      conv => whnf
      exact retP rfl (frz_bool rfl)

set_option maxRecDepth 100000 in
theorem pageSearch_calls {H : Type} {enc : TypeId × Value → H} {W : World} {base : Nat} {args : Array Value} {ds gs : List (DataW H)} {before : List MemPlace}
    (hval : ∀ (j : Nat) t v, Try.f6.params[j]? = some t → args[j]? = some v → Value.okWide Try.prog W .any base t v)
    (hW : DataW.Whole enc Try.prog Try.f6.params.toList [] false W args.toList ds gs before) : ∃ xs : List AV, VRs (cellsW W) noBM xs args.toList ∧ PureCalls Try.prog 6 xs (.ret (.bool true)) := by
  obtain ⟨p, q, hA0, _⟩ := hW
  have hA : DataW.TrodAll enc Try.prog W 0 (fun _ => true) true [25, 9] args.toList ds p := hA0
  rw [show Try.f6.params = #[25, 9] by kernel_rfl] at hval
  obtain ⟨args⟩ := args
  simp only at hA
  obtain ⟨v0, vs0, d0, ds0, p0, q0, rfl, rfl, rfl, ⟨_, h0⟩, r0⟩ := trodAll_cons hA
  obtain ⟨v4, vs4, d4, ds4, p4, q4, rfl, rfl, rfl, ⟨_, h4⟩, r4⟩ := trodAll_cons r0
  obtain ⟨rfl, rfl, rfl⟩ := trodAll_nil r4
  obtain ⟨_, tP, _⟩ := tyPage
  obtain ⟨c0, rfl, _⟩ := okWide_struct tP (hval 0 _ v0 rfl rfl)
  obtain ⟨b, rfl⟩ := okWide_string ty9 (hval 1 9 v4 rfl rfl)
  obtain ⟨pg, g0, o1, o2, o3⟩ := rd_page h0
  have f0 : VR (cellsW W) noBM pg.av (.agg c0) := by unfold Page.av VR; exact ⟨c0, rfl, g0⟩
  have f4 : VR (cellsW W) noBM (.str b.data.toList) (.string b) := by unfold VR; simp
  refine ⟨[pg.av, .str b.data.toList], @VRs_app _ _ [_] _ [_] _ (VRs_one f0) (VRs_one f4), ?_⟩
  exact pure_of_CN (n := 13) sum0_ok rfl (pageSearch_eq (by omega) pg o1 o2 o3 b.data.toList)

set_option maxRecDepth 100000 in
theorem pageSearch_lifted (os : Os) (started : os.Started) (H : Type) (enc : TypeId × Value → H) :
    ReturnsInHanded {} Try.checked os 6 .any (Ytfddiediieblhaa.Rows.pageSearchSpec.pre6 enc Try.prog Try.f6 Ytfddiediieblhaa.Rows.pageSearchRow.domain false) (Ytfddiediieblhaa.Rows.pageSearchSpec.post enc Try.prog Try.f6 false true false false) := by
  refine returnsInHanded_of_change (C := Try.checked) own started (by kernel_rfl) Try.func6
    (ChangeSpec.witness6 (enc := enc) (C := Try.checked) false ⟨#[], #[.agg #[.int .i64 0, .int .i64 0, .int .i64 0, .int .i64 0, .int .i64 0, .bool false, .slice none 0 0, .int .i64 0, .string ByteArray.empty, .slice none 0 0], .string ByteArray.empty], []⟩ 8 (by kernel_rfl) (by kernel_rfl) (by kernel_rfl) (by kernel_rfl)) ?_
  intro W base args ds gs before hval hW _ _
  obtain ⟨xs, hv, hp⟩ := pageSearch_calls hval hW
  refine law_call laid (by kernel_rfl) (tb := 4) (by kernel_rfl) ty4 rfl (fun ds hd => ?_) hW hv hp
  match ds, hd with
  | [_, _], _ => rfl
end Go.Proofs
namespace Go.Proofs.Ytfddiediieblhaa
open Go Go.Abs
/-- The law PageSearch, for every input. -/
theorem pageSearch_holds : Rows.PageSearchSaid :=
  OpenClaim.holds_of_wide 6 Try.f6 rfl rfl rfl rfl rfl rfl rfl ⟨rfl, rfl, rfl, rfl, rfl⟩ rfl rfl rfl rfl rfl (by kernel_rfl) Try.func6 (by kernel_rfl)
    (of_decide_eq_true (by kernel_rfl)) (by unfold Func.isWrapper; first | (rw [if_pos (by decide +kernel)]; kernel_rfl) | (rw [if_neg (by decide +kernel)]; exact ⟨rfl, rfl⟩))
    (fun os started H enc _ => pageSearch_lifted os started H enc)
#print axioms pageSearch_holds
end Go.Proofs.Ytfddiediieblhaa
