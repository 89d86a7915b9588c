/- Texts put together: Ga, Te, Pa, Pb, Gb, Nf, Ng, Nh, La, Ha, Wf, Wg, Gc, Wr0, Wr, Gd, Ge, Hb, Rn, Ro, Hc, Hd, Kb, He, Kc, Ni, Nj, Nk, Ea, Eb, Ep, Eq, Ka, Ec, Ed, Fz, Ee, Ef, Eg, Nl, Qc. -/
import Derived.Test.YtfddiediieblhaaGreatLis7
/- The looked-up text of the functions. -/
namespace Go.Proofs
open Go Go.Abs
/- f73 understory/page.plain: 22 temporaries, depth 5, 1 parameters, results [t2] -/
def c73 : RC :=
 (.seq (.ops [(oP 1 (.box 25 (.t 0))),
 (oP 2 (.mv (.c (.bool false))))])
 (.seq (.ops [(oP 3 (.fieldAddr 3 (.t 1))),
 (oP 4 (.load false 1 (.t 3))),
 (oP 5 (.bin .eql (.t 4) (.c (.int .i64 0)))),
 (mV 6 5),
 (oG 7 6 true (.fieldAddr 4 (.t 1))),
 (oG 8 6 true (.load false 1 (.t 7))),
 (oG 9 6 true (.bin .eql (.t 8) (.c (.int .i64 0)))),
 (oP 10 (.pick (.t 6) (.t 9) (.c (.bool false)))),
 (mV 11 10),
 (oG 12 11 true (.fieldAddr 5 (.t 1))),
 (oG 13 11 true (.load false 1 (.t 12))),
 (oG 14 11 true (.un .not (.t 13))),
 (oP 15 (.pick (.t 11) (.t 14) (.c (.bool false)))),
 (mV 16 15),
 (oG 17 16 true (.fieldAddr 6 (.t 1))),
 (oG 18 16 true (.load false 1 (.t 17))),
 (oG 19 16 true (.lenL (.t 18))),
 (oG 20 16 true (.bin .eql (.t 19) (.c (.int .i64 0)))),
 (oP 21 (.pick (.t 16) (.t 20) (.c (.bool false)))),
 (mV 2 21)])
 .ret))
theorem F73 : FI 73 1 22 5 [.tmp 2] c73 := ⟨⟨Tryz.f73, Tryz.func73, by kernel_rfl, by kernel_rfl, by kernel_rfl⟩, by kernel_rfl, by decide, by kernel_rfl⟩
/- f74 understory/page.linked: 9 temporaries, depth 4, 1 parameters, results [t2] -/
/- f75 understory/page.freed: 66 temporaries, depth 7, 1 parameters, results [t2] -/
def c75 : RC :=
 (.seq (.ops [(oP 2 (.mv (.c (.bool false))))])
 (.seq (.seq (.ops [(mV 7 0),
 (oP 8 (.lenL (.t 7))),
 (oP 9 (.mv (.c (.int .i64 0))))])
 (.block 0
 (.loop
 (.seq (.ops [(oP 10 (.bin .lss (.t 9) (.t 8)))])
 (.seq (.cond (.t 10)
 .skip
 (.exit 0))
 (.seq (.block 1
 (.seq (.ops [(mV 11 9),
 (oP 12 (.indexAddrL 2 (.t 7) (.t 9))),
 (oP 13 (.load true 2 (.t 12))),
 (oP 4 (.alloc 165 [(.int .i64 0), (.lst 0 [] true)])),
 (mV 3 11),
 (oU (.store 2 (.t 4) (.t 13)))])
 (.seq (.seq (.draw [((oP 14 (.fieldAddr 0 (.t 4))), 0),
 ((oP 15 (.load false 1 (.t 14))), 1),
 ((oP 16 (.callF 71 [(.t 15), (.c (.int .i64 0)), (.c (.int .i64 1099511627776))])), 0),
 ((oP 17 (.un .not (.t 16))), 0),
 ((mV 18 17), 0),
 ((oG 19 18 false (.fieldAddr 1 (.t 4))), 0),
 ((oG 20 18 false (.load false 1 (.t 19))), 1),
 ((oG 21 18 false (.lenL (.t 20))), 0),
 ((oG 22 18 false (.bin .eql (.t 21) (.c (.int .i64 0)))), 0),
 ((oP 23 (.pick (.t 18) (.c (.bool true)) (.t 22))), 0),
 ((mV 24 23), 0),
 ((oG 25 24 false (.mv (.t 3))), 0),
 ((oG 26 24 false (.bin .gtr (.t 25) (.c (.int .i64 0)))), 0),
 ((oG 27 24 false (.mv (.t 26))), 0),
 ((oG 28 27 true (.mv (.t 0))), 0),
 ((oG 29 27 true (.mv (.t 3))), 0),
 ((oG 30 27 true (.bin .sub (.t 29) (.c (.int .i64 1)))), 0),
 ((oG 31 27 true (.indexAddrL 2 (.t 28) (.t 30))), 0),
 ((oG 32 27 true (.fieldAddr 0 (.t 31))), 0),
 ((oG 33 27 true (.load false 1 (.t 32))), 1),
 ((oG 34 27 true (.fieldAddr 0 (.t 4))), 0),
 ((oG 35 27 true (.load false 1 (.t 34))), 1),
 ((oG 36 27 true (.bin .geq (.t 33) (.t 35))), 0),
 ((oG 37 24 false (.pick (.t 27) (.t 36) (.c (.bool false)))), 0),
 ((oP 38 (.pick (.t 24) (.c (.bool true)) (.t 37))), 0)])
 (.cond (.t 38)
 (.seq (.ops [(oP 2 (.mv (.c (.bool false))))])
 .ret)
 .skip))
 (.cut (.seq (.ops [(oP 39 (.fieldAddr 1 (.t 4))),
 (oP 40 (.load false 1 (.t 39))),
 (oP 41 (.lenL (.t 40))),
 (oP 42 (.mv (.c (.int .i64 0))))])
 (.block 2
 (.loop
 (.seq (.ops [(oP 43 (.bin .lss (.t 42) (.t 41)))])
 (.seq (.cond (.t 43)
 .skip
 (.exit 2))
 (.seq (.block 3
 (.seq (.ops [(mV 44 42),
 (oP 45 (.indexAddrL 1 (.t 40) (.t 42))),
 (oP 46 (.load false 1 (.t 45))),
 (mV 5 44),
 (mV 6 46)])
 (.seq (.ops [(mV 47 6),
 (oP 48 (.callF 70 [(.t 47)])),
 (oP 49 (.un .not (.t 48))),
 (mV 50 49),
 (oG 51 50 false (.mv (.t 5))),
 (oG 52 50 false (.bin .gtr (.t 51) (.c (.int .i64 0)))),
 (oG 53 50 false (.mv (.t 52))),
 (oG 54 53 true (.fieldAddr 1 (.t 4))),
 (oG 55 53 true (.load false 1 (.t 54))),
 (oG 56 53 true (.mv (.t 5))),
 (oG 57 53 true (.bin .sub (.t 56) (.c (.int .i64 1)))),
 (oG 58 53 true (.indexAddrL 1 (.t 55) (.t 57))),
 (oG 59 53 true (.load false 1 (.t 58))),
 (oG 60 53 true (.mv (.t 6))),
 (oG 61 53 true (.bin .geq (.t 59) (.t 60))),
 (oG 62 50 false (.pick (.t 53) (.t 61) (.c (.bool false)))),
 (oP 63 (.pick (.t 50) (.c (.bool true)) (.t 62)))])
 (.cond (.t 63)
 (.seq (.ops [(oP 2 (.mv (.c (.bool false))))])
 .ret)
 .skip))))
 (.ops [(oP 64 (.bin .add (.t 42) (.c (.int .i64 1)))),
 (mV 42 64)])))))))))))
 (.cut (.ops [(oP 65 (.bin .add (.t 9) (.c (.int .i64 1)))),
 (mV 9 65)]))))))))
 (.cut (.seq (.ops [(oP 2 (.mv (.c (.bool true))))])
 .ret))))
theorem F75 : FI 75 1 66 7 [.tmp 2] c75 := ⟨⟨Tryz.f75, Tryz.func75, by kernel_rfl, by kernel_rfl, by kernel_rfl⟩, by kernel_rfl, by decide, by kernel_rfl⟩
/- f76 understory/page.listed: 21 temporaries, depth 5, 1 parameters, results [t2] -/
/- f16 understory/page.Check: 102 temporaries, depth 7, 1 parameters, results [t2] -/
/- f58 understory/page.bodyOf: 31 temporaries, depth 6, 1 parameters, results [t2] -/
/- f62 understory/page.ended: 21 temporaries, depth 5, 1 parameters, results [t2] -/
/- f68 understory/page.blockOf: 8 temporaries, depth 4, 1 parameters, results [*t2] -/
/- f12 understory/page.Encode: 45 temporaries, depth 6, 1 parameters, results [t2, t3] -/
end Go.Proofs
/- Contracts: few entries, entries that fit, the capacity. -/
set_option linter.unusedVariables false
set_option linter.unusedSimpArgs false
namespace Go.Proofs
open Go Go.Abs
def tiny (e : Entry) : Bool := decide (e.key.length ≤ 300) && decide (e.val.length ≤ 300)
def few (l : List Entry) : Bool := decide (l.length ≤ 100) && l.all tiny
theorem few_bad {l : List Entry} {j : Nat} (hj : j < l.length) (hb : tiny l[j] = false) : few l = false := by
  have : l.all tiny = false := by
    rw [List.all_eq_false]
    exact ⟨l[j], List.getElem_mem hj, by simp [hb]⟩
  simp [few, this]
theorem few_iff {l : List Entry} : few l = true ↔ l.length ≤ 100 ∧ ∀ e ∈ l, e.key.length ≤ 300 ∧ e.val.length ≤ 300 := by
  simp [few, tiny]
section
variable {n : Nat} {h : AHeap}
theorem few_loop {m : Nat} (l : List Entry) (sz : Nat) (hz : l ≠ [] → sz = 22) (c : Bool) {Q : Ex → LS → Prop} {s : LS}
    (hs : LS.sub ⟨[(0, .lst sz (l.map Entry.av) c), (3, i64 0)], [], []⟩ s)
    (hE : few l = decide (l.length ≤ 100) → ∀ L, lk L 0 = some (.lst sz (l.map Entry.av) c) → Q (.exit 0) ⟨L, [], []⟩) (hR : few l = false → ∀ L, lk L 2 = some (.bool false) → Q .ret ⟨L, [], []⟩) :
    OkR Tryz.prog (C m) cfg0.inl KK 33 6 (.loop (c24.lp 0)) s Q := by
  refine loopI (by decide) rfl (α := Nat) (fun x => ⟨[(0, .lst sz (l.map Entry.av) c), (3, i64 x)], [], []⟩)
    (fun x => (x ≤ l.length ∧ x ≤ 101) ∧ ∀ i (hi : i < l.length), i < x → tiny l[i] = true) (fun x => 101 - x) 0 hs ?_ ?_ ?_
  · exact ⟨⟨Nat.zero_le _, by omega⟩, fun i _ hi => absurd hi (Nat.not_lt_zero _)⟩
  · show 101 - 0 < KK; simp only [KK]; omega
  · rintro j ⟨⟨g1, g0⟩, g2⟩
    have ext : ∀ (hj : j < l.length), tiny l[j] = true → ∀ i (hi : i < l.length), i < j + 1 → tiny l[i] = true := fun hj hv i hi hi2 => by
      by_cases e : i = j
      · subst e; exact hv
      · exact g2 i hi (by omega)
    conv => whnf
    refine brd (fun b => ?_) (fun b => ?_)
    · have hj : j < l.length := by simp at b; omega
      conv => whnf
      refine brd (fun d => ?_) (fun d => ?_)
      · repeat' (conv => whnf); first
          | (exfalso; omega)
          | refine brd (fun _ => ?_) (fun _ => ?_)
          | refine ixL entry_cells hj hz ?_
          | refine zI (z := ((j + 1 : Nat) : Int)) (by rw [wrap_i64 (by omega) (by omega)]; rfl) ?_
          | refine hR (few_bad hj ?_) _ rfl
          | refine nxI (j + 1) ⟨⟨hj, by omega⟩, ext hj ?_⟩ (by omega) ⟨⟨rfl, rfl⟩, rfl, rfl⟩
        all_goals simp [tiny]; omega
      · conv => whnf
        refine hE ?_ _ rfl
        have : l.length > 100 := by omega
        simp [few, show ¬ l.length ≤ 100 by omega]
    · have hj : j = l.length := by simp at b; omega
      conv => whnf
      refine hE ?_ _ rfl
      have : l.all tiny = true := by
        rw [List.all_eq_true]
        intro e he
        obtain ⟨i, hi, rfl⟩ := List.getElem_of_mem he
        exact g2 i hi (by omega)
      simp [few, this]

theorem few_eq (hn : 1 ≤ n) (l : List Entry) (sz : Nat) (hz : l ≠ [] → sz = 22) (c : Bool) : C n 24 [.lst sz (l.map Entry.av) c] h = some (.ret (.bool (few l)), h) := by
  obtain ⟨m, rfl⟩ : ∃ m, n = m + 1 := ⟨n - 1, by omega⟩
  refine fun_pure F24 rfl rfl rfl (pure_lst entry_pure l rfl) ?_
  conv => whnf
  refine few_loop l sz hz c ⟨⟨rfl, rfl⟩, rfl, rfl⟩ (fun e L hk => ?_) (fun e L hk => ?_)
  · refine cutI (by decide) rfl (t := ⟨[(0, .lst sz (l.map Entry.av) c)], [], []⟩) ⟨hk, rfl, rfl⟩ ?_
    conv => whnf
    exact retP rfl (frz_bool (by rw [e]; simp; omega))
  · exact retK hk (frz_bool e.symm)

def fits (l : List Entry) (lv : Int) : Bool := valid l lv && (match weight l lv with | some n => decide (n ≤ 496) | none => false)
end
end Go.Proofs
/- Contracts: shared prefixes and sizes. -/
set_option linter.unusedVariables false
set_option linter.unusedSimpArgs false
namespace Go.Proofs
open Go Go.Abs
/-- How long the common prefix is. -/
def cp : Str → Str → Nat
  | a :: x, b :: y => if a = b then cp x y + 1 else 0
  | _, _ => 0
section
variable {n : Nat} {h : AHeap}
/-- The shared prefix. -/
def pre2 (p k : Str) : Str := p.take (cp p k)
def tailE (l : List Entry) (lv : Int) : List Entry := if 0 < lv then l.drop 1 else l
def shared (l : List Entry) (lv : Int) : Str := ((tailE l lv).drop 1).foldl (fun p e => pre2 p e.key) ((tailE l lv).headD default).key

end
end Go.Proofs
/- Contracts: sizes; entries behind a string. -/
set_option linter.unusedVariables false
set_option linter.unusedSimpArgs false
namespace Go.Proofs
open Go Go.Abs
section
variable {n : Nat} {h : AHeap}
end
end Go.Proofs
/- Contracts: pages that are well-formed. -/
set_option linter.unusedVariables false
set_option linter.unusedSimpArgs false
namespace Go.Proofs
open Go Go.Abs

structure Page where
  kind : Int
  no : Int
  ver : Int
  tree : Int
  level : Int
  top : Bool
  esh : Sh
  entries : List Entry
  next : Int
  data : Str
  fsh : Sh
  freed : List Freed
def Page.cells (p : Page) : List AV := [i64 p.kind, i64 p.no, i64 p.ver, i64 p.tree, i64 p.level, .bool p.top, .lst p.esh.sz (p.entries.map Entry.av) p.esh.c, i64 p.next, .str p.data, .lst p.fsh.sz (p.freed.map Freed.av) p.fsh.c]
def Page.av (p : Page) : AV := .agg p.cells
/-- Strings and lists are short enough for a machine; slices are held as they are. -/
structure Page.Ok (p : Page) : Prop where
  esz : p.entries ≠ [] → p.esh.sz = 22
  fsz : p.freed ≠ [] → p.fsh.sz = 2
  elen : p.entries.length < 1099511627776
  flen : p.freed.length < 1048576
  dlen : p.data.length < 1099511627776
  ent : ∀ e ∈ p.entries, e.Ok
  fr : ∀ f ∈ p.freed, f.Ok ∧ f.pages.length < 9223372036854775808
theorem page_cells (p : Page) : p.av.cells? = some p.cells := rfl
theorem freed_pure (f : Freed) : f.av.pureB = true := by
  show pureBs [i64 f.ver, .lst f.sh.sz (f.pages.map i64) f.sh.c] = true
  simp [pureBs, AV.pureB, pure_map (f := i64) (fun _ => rfl)]
theorem page_pure (p : Page) : p.av.pureB = true := by
  show pureBs p.cells = true
  simp [Page.cells, pureBs, AV.pureB, pure_map entry_pure, pure_map freed_pure]
theorem eq_bool (a b : Bool) : eqA Tryz.prog 20 4 (.bool a) (.bool b) = some (a == b) := by kernel_rfl

def Page.plain (p : Page) : Bool := p.tree == 0 && (p.level == 0 && (!p.top && (p.entries.length : Int) == 0))
def pgAt (l : List Int) (k : Nat) : Bool := numbered (l.getD k 0) && (k == 0 || decide (l.getD (k - 1) 0 < l.getD k 0))
def pgsOk (l : List Int) : Bool := (List.range l.length).all (pgAt l)
instance : Inhabited Freed := ⟨⟨0, ⟨0, true⟩, []⟩⟩
def frAt (l : List Freed) (k : Nat) : Bool := (within (l.getD k default).ver 0 1099511627776 && (((l.getD k default).pages.length : Int) != 0 && (k == 0 || decide ((l.getD (k - 1) default).ver < (l.getD k default).ver)))) && pgsOk (l.getD k default).pages
def freedOk (l : List Freed) : Bool := (List.range l.length).all (frAt l)
theorem all_bad {p : Nat → Bool} {n j : Nat} (hj : j < n) (hb : p j = false) : (List.range n).all p = false := by
  rw [List.all_eq_false]; exact ⟨j, List.mem_range.2 hj, by simp [hb]⟩
theorem all_good {p : Nat → Bool} {n : Nat} (h : ∀ i, i < n → p i = true) : (List.range n).all p = true := by
  rw [List.all_eq_true]; exact fun i hi => h i (List.mem_range.1 hi)
theorem all_next {p : Nat → Bool} {j : Nat} (h : ∀ i, i < j → p i = true) (hj : p j = true) : ∀ i, i < j + 1 → p i = true := fun i hi => by
  by_cases e : i = j
  · rw [e]; exact hj
  · exact h i (by omega)
theorem pgAt_unf {l : List Int} {j : Nat} (hj : j < l.length) : pgAt l j = (numbered l[j] && (decide (j = 0) || decide (l[j - 1] < l[j]))) := by
  have h1 : l.getD j 0 = l[j] := by simp [hj]
  have h2 : l.getD (j - 1) 0 = l[j - 1] := by simp [show j - 1 < l.length by omega]
  have h3 : (j == 0) = decide (j = 0) := by by_cases e : j = 0 <;> simp [e]
  unfold pgAt; rw [h1, h2, h3]
theorem frAt_unf {l : List Freed} {j : Nat} (hj : j < l.length) : frAt l j = ((within l[j].ver 0 1099511627776 && ((l[j].pages.length : Int) != 0 && (decide (j = 0) || decide (l[j - 1].ver < l[j].ver)))) && pgsOk l[j].pages) := by
  have h1 : l.getD j default = l[j] := by simp [hj]
  have h2 : l.getD (j - 1) default = l[j - 1] := by simp [show j - 1 < l.length by omega]
  have h3 : (j == 0) = decide (j = 0) := by by_cases e : j = 0 <;> simp [e]
  unfold frAt; rw [h1, h2, h3]

section
variable {n : Nat} {h : AHeap}
theorem plain_eq (hn : 1 ≤ n) (p : Page) : C n 73 [p.av] h = some (.ret (.bool p.plain), h) := by
  obtain ⟨m, rfl⟩ : ∃ m, n = m + 1 := ⟨n - 1, by omega⟩
  refine fun_pure F73 rfl rfl rfl (by simp [pureBs, page_pure]) ?_
  repeat' (conv => whnf); first
    | refine retP rfl (frz_bool ?_)
    | refine brd (fun _ => ?_) (fun _ => ?_)
    | refine bre (fun _ => ?_) (fun _ => ?_)
    | refine brq (fun _ => ?_) (fun _ => ?_)
    | refine brn (fun _ => ?_) (fun _ => ?_)
    | refine br (fun _ => ?_) (fun _ => ?_)
    | refine ldI (by rfl) ?_
    | refine ldI (get_set_last _ _ _) ?_
    | refine ldI (get_last _ _) ?_
    | refine stI (by rfl) (by rfl) (by rfl) (by rfl) (by rfl) ?_
    | refine stI (get_last _ _) (by rfl) (by rfl) (by rfl) (by rfl) ?_
    | refine cutS (by decide) rfl ?_
  all_goals simp_all [Page.plain]
/-- Pages that are in order are few. -/
theorem pgs_ge {l : List Int} (h : pgsOk l = true) : ∀ i (hi : i < l.length), (2 : Int) + i ≤ l[i] ∧ l[i] ≤ 4095
  | 0, hi => by
    have := List.all_eq_true.1 h 0 (List.mem_range.2 hi)
    rw [pgAt_unf hi] at this
    simp [numbered, within] at this
    omega
  | i + 1, hi => by
    have h0 := pgs_ge h i (by omega)
    have := List.all_eq_true.1 h (i + 1) (List.mem_range.2 hi)
    rw [pgAt_unf hi] at this
    simp [numbered, within] at this
    omega
theorem pgs_few {l : List Int} (h : pgsOk l = true) : l.length ≤ 4094 := by
  rcases Nat.eq_zero_or_pos l.length with e | e
  · omega
  · have := pgs_ge h (l.length - 1) (by omega)
    omega
theorem freed_few {l : List Freed} (h : freedOk l = true) (hf : ∀ f ∈ l, f.Ok ∧ f.pages.length < 9223372036854775808) : ∀ f ∈ l, f.Ok ∧ f.pages.length < 1048576 := fun f hm => by
  obtain ⟨i, hi, rfl⟩ := List.getElem_of_mem hm
  have := List.all_eq_true.1 h i (List.mem_range.2 hi)
  rw [frAt_unf hi, Bool.and_eq_true] at this
  have := pgs_few this.2
  exact ⟨(hf _ hm).1, by omega⟩
theorem pgs_loop {m : Nat} (hm : 2 ≤ m) (l : List Int) (hl : l.length < 9223372036854775808) (sz : Nat) (hz : l ≠ [] → sz = 1) (c : Bool) (f : Freed) (hf : f = ⟨f.ver, ⟨sz, c⟩, l⟩) {hp : AHeap} {E : Nat} (hE0 : hp[E]? = some (.cells 0 (some 165) f.cells 0)) {Q : Ex → LS → Prop} {s : LS} (v0 v7 v8 v9 : AV)
    (hs : LS.sub ⟨[(0, v0), (4, .ptr E 0 0), (7, v7), (8, v8), (9, v9), (40, .lst sz (l.map i64) c), (41, i64 l.length), (42, i64 0)], hp, []⟩ s)
    (hE : pgsOk l = true → ∀ L, subL [(0, v0), (7, v7), (8, v8), (9, v9)] L → Q (.exit 2) ⟨L, hp, []⟩) (hR : pgsOk l = false → ∀ L, lk L 2 = some (.bool false) → Q .ret ⟨L, hp, []⟩) :
    OkR Tryz.prog (C m) cfg0.inl KK 66 7 (.loop (c75.lp 1)) s Q := by
  refine loopI (by decide) rfl (α := Nat) (fun x => ⟨[(0, v0), (4, .ptr E 0 0), (7, v7), (8, v8), (9, v9), (40, .lst sz (l.map i64) c), (41, i64 l.length), (42, i64 x)], hp, []⟩) (fun x => x ≤ l.length ∧ ∀ i, i < x → pgAt l i = true) (fun x => l.length - x) 0 hs ⟨Nat.zero_le _, fun i hi => absurd hi (Nat.not_lt_zero _)⟩ (by show l.length - 0 < KK; simp only [KK]; omega) ?_
  rintro j ⟨g1, g2⟩
  have e0 : f.cells = [i64 f.ver, .lst sz (l.map i64) c] := by rw [hf]; rfl
  rw [e0] at hE0
  conv => whnf
  refine brd (fun a => ?_) (fun a => ?_)
  · have hj : j < l.length := by omega
    repeat' (conv => whnf); first
      | refine ixL (l := l) (j := j) i64_cells hj hz ?_
      | refine ixL (l := l) (j := j - 1) i64_cells (by omega) hz ?_
      | refine clI (numbered_eq (by omega) _) ?_
      | refine ldI hE0 ?_
      | refine zI (z := ((j - 1 : Nat) : Int)) (by rw [wrap_i64 (by omega) (by omega)]; omega) ?_
      | refine zI (z := ((j + 1 : Nat) : Int)) (by rw [wrap_i64 (by omega) (by omega)]; rfl) ?_
      | refine hR (all_bad hj ?_) _ rfl
      | refine nxI (j + 1) ⟨hj, all_next g2 ?_⟩ (by omega) ⟨⟨rfl, rfl, rfl, rfl, rfl, rfl, rfl, rfl⟩, rfl, rfl⟩
      | (exfalso; omega)
      | refine brd (fun _ => ?_) (fun _ => ?_)
      | refine bre (fun _ => ?_) (fun _ => ?_)
      | refine brq (fun _ => ?_) (fun _ => ?_)
      | refine brn (fun _ => ?_) (fun _ => ?_)
      | refine br (fun _ => ?_) (fun _ => ?_)
      | refine ldI (by rfl) ?_
      | refine ldI (get_set_last _ _ _) ?_
      | refine ldI (get_last _ _) ?_
      | refine stI (by rfl) (by rfl) (by rfl) (by rfl) (by rfl) ?_
      | refine stI (get_last _ _) (by rfl) (by rfl) (by rfl) (by rfl) ?_
      | refine zI (wrap_i64 (by omega) (by omega)) ?_
      | refine cutS (by decide) rfl ?_
    all_goals clear hf e0 hE0 hE hR hs
    all_goals rw [pgAt_unf hj]
    all_goals by_cases hj0 : j = 0
    all_goals simp_all
    all_goals omega
  · have hj : j = l.length := by omega
    subst hj
    conv => whnf
    exact hE (all_good g2) _ ⟨rfl, rfl, rfl, rfl⟩
theorem freed_eq (hn : 3 ≤ n) (l : List Freed) (hl : l.length < 1048576) (hf : ∀ f ∈ l, f.Ok ∧ f.pages.length < 9223372036854775808) (sz : Nat) (hz : l ≠ [] → sz = 2) (c : Bool) : C n 75 [.lst sz (l.map Freed.av) c] h = some (.ret (.bool (freedOk l)), h) := by
  obtain ⟨m, rfl⟩ : ∃ m, n = m + 1 := ⟨n - 1, by omega⟩
  refine fun_pure F75 rfl rfl rfl (pure_lst freed_pure l rfl) ?_
  conv => whnf
  refine loopI (by decide) rfl (α := Nat × AHeap) (fun x => ⟨[(0, .lst sz (l.map Freed.av) c), (7, .lst sz (l.map Freed.av) c), (8, i64 l.length), (9, i64 x.1)], x.2, []⟩) (fun x => x.1 ≤ l.length ∧ ∀ i, i < x.1 → frAt l i = true) (fun x => l.length - x.1) (0, []) ⟨⟨rfl, rfl, lenI _ _, rfl⟩, rfl, rfl⟩ ⟨Nat.zero_le _, fun i hi => absurd hi (Nat.not_lt_zero _)⟩ (by show l.length - 0 < KK; simp only [KK]; omega) ?_
  rintro ⟨j, hp⟩ ⟨g1, g2⟩
  simp only at g1 g2
  conv => whnf
  refine brd (fun a => ?_) (fun a => ?_)
  · have hj : j < l.length := by simp only at a; omega
    obtain ⟨k1, k2⟩ := hf _ (List.getElem_mem hj)
    have el : ((l[j].pages.map i64).length : Int) = (l[j].pages.length : Int) := by rw [List.length_map]
    conv => whnf
    refine ixL freed_cells hj hz ?_
    conv => whnf
    refine stI (get_last _ _) (by rfl) (by rfl) (by rfl) (by rfl) ?_
    have good : ∀ {Q : Ex → LS → Prop} (s' : LS), LS.sub ⟨[(0, .lst sz (l.map Freed.av) c), (4, .ptr hp.length 0 0), (7, .lst sz (l.map Freed.av) c), (8, i64 l.length), (9, i64 j)], ((hp ++ [AB.cells 0 (some 165) [i64 0, .lst 0 [] true] 0]).set hp.length (.cells 0 (some 165) l[j].cells 0)), []⟩ s' →
        (pgsOk l[j].pages = true → ∀ L, subL [(0, .lst sz (l.map Freed.av) c), (7, .lst sz (l.map Freed.av) c), (8, i64 l.length), (9, i64 j)] L → Q .norm ⟨L, ((hp ++ [AB.cells 0 (some 165) [i64 0, .lst 0 [] true] 0]).set hp.length (.cells 0 (some 165) l[j].cells 0)), []⟩) → (pgsOk l[j].pages = false → ∀ L, lk L 2 = some (.bool false) → Q .ret ⟨L, ((hp ++ [AB.cells 0 (some 165) [i64 0, .lst 0 [] true] 0]).set hp.length (.cells 0 (some 165) l[j].cells 0)), []⟩) →
        OkR Tryz.prog (C m) cfg0.inl KK 66 7 (cutOf (c75.lp 0)) s' Q := by
      intro Q s' hs' hT hF
      refine cutI (by decide) rfl hs' ?_
      conv => whnf
      refine ldI (get_set_last _ _ _) ?_
      conv => whnf
      refine pgs_loop (by omega) l[j].pages k2 l[j].sh.sz k1 l[j].sh.c l[j] rfl (get_set_last _ _ _) (.lst sz (l.map Freed.av) c) (.lst sz (l.map Freed.av) c) (i64 l.length) (i64 j) ⟨⟨rfl, rfl, rfl, rfl, rfl, rfl, lenI i64 _, rfl⟩, rfl, rfl⟩ (fun q L hL => ?_) (fun q L hk => ?_)
      · conv => whnf
        exact hT q L hL
      · conv => whnf
        exact hF q L hk
    repeat' (conv => whnf); first
      | refine ldI (get_set_last _ _ _) ?_
      | refine ixL (l := l) (j := j - 1) freed_cells (by omega) hz ?_
      | refine clI (within_eq (by omega) _ _ _) ?_
      | refine zI (z := ((j - 1 : Nat) : Int)) (by rw [wrap_i64 (by omega) (by omega)]; omega) ?_
      | refine zI (z := ((j + 1 : Nat) : Int)) (by rw [wrap_i64 (by omega) (by omega)]; rfl) ?_
      | refine good _ ⟨⟨rfl, rfl, rfl, rfl, rfl⟩, rfl, rfl⟩ (fun _ _ _ => ?_) (fun _ _ _ => ?_)
      | refine cutI (by decide) rfl (t := ⟨[(0, .lst sz (l.map Freed.av) c), (7, .lst sz (l.map Freed.av) c), (8, i64 l.length), (9, i64 j)], _, []⟩) ⟨(by assumption), rfl, rfl⟩ ?_
      | refine nxI (j + 1, _) ⟨hj, all_next g2 ?_⟩ (by simp only; omega) ⟨⟨rfl, rfl, rfl, rfl⟩, rfl, rfl⟩
      | refine retK (by assumption) (frz_bool (all_bad hj ?_).symm)
      | refine retP rfl (frz_bool (all_bad hj ?_).symm)
      | (exfalso; omega)
      | refine brd (fun _ => ?_) (fun _ => ?_)
      | refine bre (fun _ => ?_) (fun _ => ?_)
      | refine brq (fun _ => ?_) (fun _ => ?_)
      | refine brn (fun _ => ?_) (fun _ => ?_)
      | refine br (fun _ => ?_) (fun _ => ?_)
      | refine ldI (by rfl) ?_
      | refine ldI (get_set_last _ _ _) ?_
      | refine ldI (get_last _ _) ?_
      | refine stI (by rfl) (by rfl) (by rfl) (by rfl) (by rfl) ?_
      | refine stI (get_last _ _) (by rfl) (by rfl) (by rfl) (by rfl) ?_
      | refine zI (wrap_i64 (by omega) (by omega)) ?_
    all_goals clear good
    all_goals rw [frAt_unf hj]
    all_goals try simp only [el] at *
    all_goals by_cases hj0 : j = 0
    all_goals simp_all
    all_goals omega
  · have hj : j = l.length := by simp only at a; omega
    subst hj
    conv => whnf
    refine cutI (by decide) rfl (t := ⟨[], hp, []⟩) ⟨trivial, rfl, rfl⟩ ?_
    conv => whnf
    exact retP rfl (frz_bool (all_good g2).symm)
end
end Go.Proofs
/- Contracts: pages that lead to each other. -/
set_option linter.unusedVariables false
set_option linter.unusedSimpArgs false
namespace Go.Proofs
open Go Go.Abs
theorem putAt_row0 {r F xs : List AV} {o : Nat} (h : o + xs.length ≤ r.length) : putAt (r ++ F) o xs = putAt r o xs ++ F := by
  unfold putAt
  rw [List.take_append_of_le_length (by omega), List.drop_append_of_le_length h]
  simp
theorem putAt_rowS {r F xs : List AV} {o : Nat} : putAt (r ++ F) (r.length + o) xs = r ++ putAt F o xs := by
  unfold putAt
  rw [List.take_append, List.drop_append]
  have h1 : r.take (r.length + o) = r := List.take_of_length_le (by omega)
  have h2 : r.drop (r.length + o + xs.length) = [] := List.drop_of_length_le (by omega)
  rw [h1, h2]
  have e1 : r.length + o - r.length = o := by omega
  have e2 : r.length + o + xs.length - r.length = o + xs.length := by omega
  rw [e1, e2]
  simp
theorem putAt_rows {w o : Nat} {xs : List AV} (ho : o + xs.length ≤ w) : ∀ {rows : List (List AV)} {j : Nat}, (∀ r ∈ rows, r.length = w) → (hj : j < rows.length) → putAt rows.flatten (j * w + o) xs = (rows.set j (putAt rows[j] o xs)).flatten
  | [], j, _, hj => absurd hj (Nat.not_lt_zero _)
  | r :: rs, 0, hr, hj => by
    have h1 := hr r (List.mem_cons_self ..)
    simp only [List.flatten_cons, List.set_cons_zero, List.getElem_cons_zero, Nat.zero_mul, Nat.zero_add]
    exact putAt_row0 (by omega)
  | r :: rs, j + 1, hr, hj => by
    have h1 := hr r (List.mem_cons_self ..)
    have ih := putAt_rows ho (rows := rs) (j := j) (fun r hm => hr r (List.mem_cons_of_mem _ hm)) (by simpa using hj)
    have e : (j + 1) * w + o = r.length + (j * w + o) := by rw [h1, Nat.add_mul]; omega
    rw [e]
    simp only [List.flatten_cons, List.set_cons_succ, List.getElem_cons_succ]
    rw [putAt_rowS, ih]
/-- Rows by their number. -/
abbrev rowsOf (N : Nat) (R : Nat → List AV) : List (List AV) := (List.range N).map R
theorem rowsOf_set {N j : Nat} {R R' : Nat → List AV} (hj : j < N) (h : ∀ k, k ≠ j → R k = R' k) {x : List AV} (hx : x = R' j) : (rowsOf N R).set j x = rowsOf N R' := by
  subst hx
  apply List.ext_getElem?
  intro k
  rw [List.getElem?_set]
  by_cases e : j = k
  · subst e
    simp [rowsOf, hj]
  · rw [if_neg e]
    unfold rowsOf
    rw [List.getElem?_map, List.getElem?_map]
    by_cases hk : k < N
    · simp [hk, h k (Ne.symm e)]
    · simp [hk]
theorem rowsOf_put {N j o w : Nat} {R R' : Nat → List AV} {xs : List AV} (hw : ∀ k, (R k).length = w) (hj : j < N) (ho : o + xs.length ≤ w) (h : ∀ k, k ≠ j → R k = R' k) (hx : putAt (R j) o xs = R' j) : putAt (rowsOf N R).flatten (j * w + o) xs = (rowsOf N R').flatten := by
  have hl : j < (rowsOf N R).length := by simpa [rowsOf] using hj
  rw [putAt_rows ho (fun r hm => by obtain ⟨k, _, rfl⟩ := List.mem_map.1 hm; exact hw k) hl]
  congr 1
  have : (rowsOf N R)[j] = R j := by simp [rowsOf]
  rw [this]
  exact rowsOf_set hj h hx
theorem rowsOf_len {N w : Nat} {R : Nat → List AV} (hw : ∀ k, (R k).length = w) : (rowsOf N R).flatten.length = N * w := by
  rw [rows_len (sz := w) (fun r hm => by obtain ⟨k, _, rfl⟩ := List.mem_map.1 hm; exact hw k)]
  simp [rowsOf]
theorem rep_rows (z : List AV) : ∀ N, rep N z = (rowsOf N fun _ => z).flatten := fun N => by
  induction N with
  | zero => rfl
  | succ N ih =>
    unfold rowsOf at ih ⊢
    rw [List.range_succ_eq_map, List.map_cons, List.map_map, List.flatten_cons]
    show z ++ rep N z = _
    rw [ih]
    rfl
theorem set_same {h : AHeap} {b : Nat} {x : AB} (hb : h[b]? = some x) : h.set b x = h := by
  have hl := lt_of_get hb
  apply List.ext_getElem?
  intro k
  by_cases e : k = b
  · subst e
    rw [List.getElem?_set_self hl, hb]
  · rw [List.getElem?_set_ne (Ne.symm e)]
def upd (R : Nat → List AV) (j : Nat) (x : List AV) : Nat → List AV := fun k => if k = j then x else R k
theorem upd_at (R : Nat → List AV) (j : Nat) (x : List AV) : upd R j x j = x := if_pos rfl
theorem upd_ne (R : Nat → List AV) {j k : Nat} (x : List AV) (h : k ≠ j) : upd R j x k = R k := if_neg h
/-- A store into a row. -/
theorem stRows {h : AHeap} {b N j d o : Nat} {el : Option TypeId} {R : Nat → List AV} {x : AV} {row : List AV} (hw : ∀ k, (R k).length = 10) (hj : j < N) (hd : d < 10) (f : h[b]? = some (.cells 0 el (rowsOf N R).flatten 0)) (hx : putAt (R j) d [x] = row) (ho : o = j * 10 + d) :
    Nat.ble (o + 1) (rowsOf N R).flatten.length = true ∧ (h.set b (.cells 0 el (putAt (rowsOf N R).flatten o [x]) 0))[b]? = some (.cells 0 el (rowsOf N (upd R j row)).flatten 0) ∧ (∀ k, (upd R j row k).length = 10) ∧ putAt (rowsOf N R).flatten o [x] = (rowsOf N (upd R j row)).flatten := by
  subst ho
  have e : putAt (rowsOf N R).flatten (j * 10 + d) [x] = (rowsOf N (upd R j row)).flatten := rowsOf_put hw hj (by simp only [List.length_cons, List.length_nil]; omega) (fun k hk => (upd_ne R row hk).symm) (by rw [hx, upd_at])
  refine ⟨?_, ?_, fun k => ?_, e⟩
  · rw [Nat.ble_eq, rowsOf_len hw]; omega
  · rw [List.getElem?_set_self (lt_of_get f), e]
  · by_cases q : k = j
    · subst q
      rw [upd_at, ← hx]
      have := hw k
      rw [putAt_length (by simp; omega), this]
    · rw [upd_ne R row q]; exact hw k
theorem rowsOf_ext {N : Nat} {R R' : Nat → List AV} (h : ∀ k, k < N → R k = R' k) : rowsOf N R = rowsOf N R' := List.map_congr_left fun k hk => h k (List.mem_range.1 hk)
abbrev tPage : Nat := 25
def iniR (D F : Nat → AV) (k : Nat) : List AV := [i64 0, i64 0, i64 0, i64 0, i64 0, .bool false, .lst 0 [] true, i64 0, D k, F k]
def nextOf (no : List Int) (k : Nat) : Int := if k + 1 < no.length then no.getD (k + 1) 0 else 0
def finR (no : List Int) (kind v : Int) (D F : Nat → AV) (k : Nat) : List AV := [i64 kind, i64 (no.getD k 0), i64 v, i64 0, i64 0, .bool false, .lst 0 [] true, i64 (nextOf no k), D k, F k]
def midR (no : List Int) (kind v : Int) (D F : Nat → AV) (j k : Nat) : List AV := if k < j then finR no kind v D F k else iniR D F k
theorem midR_len (no : List Int) (kind v : Int) (D F : Nat → AV) (j k : Nat) : (midR no kind v D F j k).length = 10 := by unfold midR; split <;> rfl
theorem midR_at (no : List Int) (kind v : Int) (D F : Nat → AV) (j : Nat) : midR no kind v D F j j = iniR D F j := if_neg (Nat.lt_irrefl _)
theorem midR_succ {no : List Int} {kind v : Int} {D F : Nat → AV} {j : Nat} {R : Nat → List AV} (h1 : R j = finR no kind v D F j) (h2 : ∀ k, k ≠ j → R k = midR no kind v D F j k) (k : Nat) : R k = midR no kind v D F (j + 1) k := by
  by_cases e : k = j
  · subst e
    rw [h1]; unfold midR; rw [if_pos (Nat.lt_succ_self _)]
  · rw [h2 k e]
    unfold midR
    by_cases q : k < j
    · rw [if_pos q, if_pos (by omega)]
    · rw [if_neg q, if_neg (by omega)]
section
variable {n : Nat} {hp : AHeap}
theorem chained_eq (hn : 1 ≤ n) {b : Nat} (no : List Int) (hN : no.length < 1048576) (sz : Nat) (hz : no ≠ [] → sz = 1) (c : Bool) (kind v : Int) (D F : Nat → AV) (hb : hp[b]? = some (.cells 0 (some tPage) (rowsOf no.length (iniR D F)).flatten 0)) :
    C n 93 [.sl 10 b 0 0 no.length, .lst sz (no.map i64) c, i64 kind, i64 v] hp = some (.ret (.sl 10 b 0 0 no.length), hp.set b (.cells 0 (some tPage) (rowsOf no.length (finR no kind v D F)).flatten 0)) := by
  obtain ⟨m, rfl⟩ : ∃ m, n = m + 1 := ⟨n - 1, by omega⟩
  refine fun_inl F93 rfl rfl ?_
  conv => whnf
  refine loopI (by decide) rfl (α := Nat × AHeap) (fun x => ⟨[(0, .sl 10 b 0 0 no.length), (1, .lst sz (no.map i64) c), (2, i64 kind), (3, i64 v), (11, i64 no.length), (12, i64 x.1)], x.2, []⟩)
    (fun x => x.1 ≤ no.length ∧ x.2 = hp.set b (.cells 0 (some tPage) (rowsOf no.length (midR no kind v D F x.1)).flatten 0)) (fun x => no.length - x.1) (0, hp) ⟨⟨rfl, rfl, rfl, rfl, rfl, rfl⟩, rfl, rfl⟩ ⟨Nat.zero_le _, (set_same hb).symm⟩ (by show no.length - 0 < KK; simp only [KK]; omega) ?_
  rintro ⟨j, h⟩ ⟨g1, g2⟩
  simp only at g1 g2
  have f0 : h[b]? = some (.cells 0 (some tPage) (rowsOf no.length (midR no kind v D F j)).flatten 0) := by rw [g2, List.getElem?_set_self (lt_of_get hb)]
  conv => whnf
  refine brd (fun a => ?_) (fun a => ?_)
  · have hj : j < no.length := by simp only at a; omega
    have hne : no ≠ [] := by rintro rfl; simp at hj
    have hg : no.getD j 0 = no[j] := by simp [hj]
    obtain ⟨b0, f1, w1, p0⟩ := stRows (o := 0 + ((j : Nat) : Int).toNat * 10 + 0) (x := i64 kind) (row := [i64 kind, i64 0, i64 0, i64 0, i64 0, .bool false, .lst 0 [] true, i64 0, D j, F j]) (midR_len no kind v D F j) hj (d := 0) (by decide) f0 (by rw [midR_at]; rfl) (by omega)
    obtain ⟨b1, f2, w2, p1⟩ := stRows (o := 0 + ((j : Nat) : Int).toNat * 10 + 1) (x := i64 no[j]) (row := [i64 kind, i64 no[j], i64 0, i64 0, i64 0, .bool false, .lst 0 [] true, i64 0, D j, F j]) w1 hj (d := 1) (by decide) f1 (by rw [upd_at]; rfl) (by omega)
    obtain ⟨b2, f3, w3, p2⟩ := stRows (o := 0 + ((j : Nat) : Int).toNat * 10 + 2) (x := i64 v) (row := [i64 kind, i64 no[j], i64 v, i64 0, i64 0, .bool false, .lst 0 [] true, i64 0, D j, F j]) w2 hj (d := 2) (by decide) f2 (by rw [upd_at]; rfl) (by omega)
    conv => whnf
    refine ⟨by omega, hz hne, i64 no[j], by simp [hj], [i64 no[j]], rfl, ?_⟩
    conv => whnf
    refine ⟨by omega, by omega, rfl, ?_⟩
    conv => whnf
    refine stI (xs := [i64 kind]) f0 (by rfl) (by rfl) b0 (by rfl) ?_
    conv => whnf
    refine ⟨by omega, by omega, rfl, ?_⟩
    conv => whnf
    refine stI (xs := [i64 no[j]]) f1 (by rfl) (by rfl) b1 (by rfl) ?_
    conv => whnf
    refine ⟨by omega, by omega, rfl, ?_⟩
    conv => whnf
    refine stI (xs := [i64 v]) f2 (by rfl) (by rfl) b2 (by rfl) ?_
    conv => whnf
    refine zI (z := ((j + 1 : Nat) : Int)) (by rw [wrap_i64 (by omega) (by omega)]; rfl) ?_
    conv => whnf
    refine brd (fun a2 => ?_) (fun a2 => ?_)
    · have hj2 : j + 1 < no.length := by omega
      obtain ⟨b3, f4, w4, p3⟩ := stRows (o := 0 + ((j : Nat) : Int).toNat * 10 + 7) (x := i64 no[j + 1]) (row := [i64 kind, i64 no[j], i64 v, i64 0, i64 0, .bool false, .lst 0 [] true, i64 no[j + 1], D j, F j]) w3 hj (d := 7) (by decide) f3 (by rw [upd_at]; rfl) (by omega)
      conv => whnf
      refine zI (z := ((j + 1 : Nat) : Int)) (by rw [wrap_i64 (by omega) (by omega)]; rfl) ?_
      conv => whnf
      refine ⟨by omega, hz hne, i64 no[j + 1], by simp [hj2], [i64 no[j + 1]], rfl, ?_⟩
      conv => whnf
      refine ⟨by omega, by omega, rfl, ?_⟩
      conv => whnf
      refine stI (xs := [i64 no[j + 1]]) f3 (by rfl) (by rfl) b3 (by rfl) ?_
      conv => whnf
      refine zI (z := ((j + 1 : Nat) : Int)) (by rw [wrap_i64 (by omega) (by omega)]; rfl) ?_
      refine nxI (j + 1, _) ⟨hj, ?_⟩ (by simp only; omega) ⟨⟨rfl, rfl, rfl, rfl, rfl, rfl⟩, rfl, rfl⟩
      simp only [p3, List.set_set]
      rw [g2, List.set_set]
      congr 2
      rw [rowsOf_ext fun k _ => midR_succ (R := upd _ j _) ?_ ?_ k]
      · rw [upd_at]
        have h2 : nextOf no j = no[j + 1] := by unfold nextOf; rw [if_pos hj2]; simp [hj2]
        unfold finR
        rw [hg, h2]
      · intro k hk
        rw [upd_ne _ _ hk, upd_ne _ _ hk, upd_ne _ _ hk, upd_ne _ _ hk]
    · have hj2 : ¬ j + 1 < no.length := by omega
      conv => whnf
      refine zI (z := ((j + 1 : Nat) : Int)) (by rw [wrap_i64 (by omega) (by omega)]; rfl) ?_
      refine nxI (j + 1, _) ⟨hj, ?_⟩ (by simp only; omega) ⟨⟨rfl, rfl, rfl, rfl, rfl, rfl⟩, rfl, rfl⟩
      simp only [p2, List.set_set]
      rw [g2, List.set_set]
      congr 2
      rw [rowsOf_ext fun k _ => midR_succ (R := upd _ j _) ?_ ?_ k]
      · rw [upd_at]
        have h2 : nextOf no j = 0 := by unfold nextOf; rw [if_neg hj2]
        unfold finR
        rw [hg, h2]
      · intro k hk
        rw [upd_ne _ _ hk, upd_ne _ _ hk, upd_ne _ _ hk]
  · have hj : j = no.length := by simp only at a; omega
    subst hj
    conv => whnf
    refine cutI (by decide) rfl (t := ⟨[(0, .sl 10 b 0 0 no.length)], h, []⟩) ⟨rfl, rfl, rfl⟩ ?_
    conv => whnf
    refine ⟨rfl, _, rfl, rfl, ?_⟩
    show h = _
    rw [g2]
    congr 2
    rw [rowsOf_ext]
    intro k hk
    unfold midR
    rw [if_pos hk]
end
end Go.Proofs
/- Contracts: the pages of a long value. -/
set_option linter.unusedVariables false
set_option linter.unusedSimpArgs false
namespace Go.Proofs
open Go Go.Abs
theorem frz_tup2 {h : AHeap} {n : Nat} {a b a' b' : AV} (h1 : Abs.frz h n a = some a') (h2 : Abs.frz h n b = some b') : Abs.frz h (n + 1) (.tup [a, b]) = some (.tup [a', b']) := by
  have h3 : allM (Abs.frz h n) [a, b] = some [a', b'] := by
    unfold allM allM
    rw [h1, h2]
    rfl
  unfold Abs.frz
  simp only
  rw [h3]
  rfl
section
variable {n : Nat} {h : AHeap}
end
end Go.Proofs
/- Contracts: the text of pages, their numbers. -/
set_option linter.unusedVariables false
set_option linter.unusedSimpArgs false
namespace Go.Proofs
open Go Go.Abs
theorem vbuf_frzN {el : TypeId} {hp : AHeap} {L : AV} {xs : List AV} (hne : xs ≠ []) (b : VBuf el 1 hp L (xs.map fun x => [x])) (hx : ∀ x ∈ xs, Abs.frz hp 63 x = some x) : Abs.frz hp 64 L = some (.lst 1 xs false) := by
  rcases b.2 with ⟨rfl, h2⟩ | ⟨eb, ver, frz, rfl, h2, _⟩
  · exact (hne (by simpa using h2)).elim
  · rw [vflatten_ones] at h2
    unfold Abs.frz
    simp only [h2, List.length_map]
    rw [if_pos ⟨trivial, by omega⟩]
    have h1 : (xs.drop 0).take (xs.length * 1) = xs := by rw [List.drop_zero]; exact List.take_of_length_le (by omega)
    rw [h1, allM_id hx]
    simp only
    have hs : xs.all AV.scal = true := by
      rw [List.all_eq_true]
      intro x hm
      have := (b.1 [x] (List.mem_map.2 ⟨x, hm, rfl⟩)).2
      simpa using this
    rw [if_pos hs]
    rfl
section
variable {n : Nat} {h : AHeap}
theorem numbersOf_eq (hn : 1 ≤ n) (l : List Page) (hl : l.length ≤ 1048576) (sz : Nat) (hz : l ≠ [] → sz = 10) (c : Bool) (hne : l ≠ []) : C n 96 [.lst sz (l.map Page.av) c] h = some (.ret (.lst 1 ((l.map Page.no).map i64) false), h) := by
  obtain ⟨m, rfl⟩ : ∃ m, n = m + 1 := ⟨n - 1, by omega⟩
  refine fun_pure F96 rfl rfl rfl (pure_lst page_pure l rfl) ?_
  conv => whnf
  refine loopI (by decide) rfl (α := Nat × AV × AHeap) (fun x => ⟨[(3, x.2.1), (6, .lst sz (l.map Page.av) c), (7, i64 l.length), (8, i64 x.1)], x.2.2, []⟩)
    (fun x => x.1 ≤ l.length ∧ VBuf 3 1 x.2.2 x.2.1 ((((l.take x.1).map Page.no).map i64).map fun x => [x])) (fun x => l.length - x.1) (0, .lst 0 [] true, []) ⟨⟨rfl, rfl, lenI _ _, rfl⟩, rfl, rfl⟩ ⟨Nat.zero_le _, VBuf.nil⟩ (by show l.length - 0 < KK; simp only [KK]; omega) ?_
  rintro ⟨j, L, hp⟩ ⟨g1, g2⟩
  simp only at g1 g2
  conv => whnf
  refine brd (fun a => ?_) (fun a => ?_)
  · have hj : j < l.length := by simp only at a; omega
    have b1 := g2.fresh (k := hp.length) (.cells 0 (some tPage) (putAt [i64 0, i64 0, i64 0, i64 0, i64 0, .bool false, .lst 0 [] true, i64 0, .str [], .lst 0 [] true] 0 l[j].cells) 0) (Nat.le_refl _) [.cells 0 (some tPage) [i64 0, i64 0, i64 0, i64 0, i64 0, .bool false, .lst 0 [] true, i64 0, .str [], .lst 0 [] true] 0]
    obtain ⟨v, hp', ea, b', _⟩ := vbuf_app (x := .lst 1 [i64 l[j].no] true) b1 rfl (vfirst_one _ rfl) ⟨rfl, rfl⟩ (by simp; omega)
    conv => whnf
    refine ixL page_cells hj hz ?_
    conv => whnf
    refine stI (get_last _ _) (xs := l[j].cells) (by rfl) (by rfl) (by rfl) (by rfl) ?_
    conv => whnf
    refine ldI (get_set_last _ _ _) ?_
    conv => whnf
    refine ⟨rfl, ?_⟩
    conv => whnf
    refine apI ea ?_
    conv => whnf
    refine zI (z := ((j + 1 : Nat) : Int)) (by rw [wrap_i64 (by omega) (by omega)]; rfl) ?_
    refine nxI (j + 1, v, hp') ⟨hj, ?_⟩ (by simp only; omega) ⟨⟨rfl, rfl, rfl, rfl⟩, rfl, rfl⟩
    simp only
    rw [List.take_succ_eq_append_getElem hj]
    simp only [List.map_append, List.map_cons, List.map_nil]
    exact b'
  · have hj : j = l.length := by simp only at a; omega
    subst hj
    rw [List.take_length] at g2
    conv => whnf
    refine cutI (by decide) rfl (t := ⟨[(3, L)], hp, []⟩) ⟨rfl, rfl, rfl⟩ ?_
    conv => whnf
    refine retP rfl ?_
    exact vbuf_frzN (by simpa using hne) g2 (fun x hx => by obtain ⟨k, _, rfl⟩ := List.mem_map.1 hx; rfl)
end
end Go.Proofs
/- The looked-up text of the functions. -/
namespace Go.Proofs
open Go Go.Abs
/- f67 understory/page.read: 61 temporaries, depth 6, 1 parameters, results [*t2, *t3] -/
/- f118 understory/page.read$1: 17 temporaries, depth 5, 0 parameters, results [] -/
end Go.Proofs
/- The looked-up text of the functions. -/
namespace Go.Proofs
open Go Go.Abs
/- f18 understory/page.Head: 42 temporaries, depth 6, 1 parameters, results [t2, t3, t4, t5] -/
/- f14 understory/page.Decode: 48 temporaries, depth 6, 1 parameters, results [*t2, t3] -/
end Go.Proofs
/- Contracts: nodes that are written into a builder. -/
set_option linter.unusedVariables false
set_option linter.unusedSimpArgs false
namespace Go.Proofs
open Go Go.Abs

def cutAt (l : List Entry) (lv : Int) (i : Nat) : Nat := if i = 0 ∧ 0 < lv then 0 else (shared l lv).length
def entsB (l : List Entry) (lv : Int) (k : Nat) : Str := (List.range k).flatMap fun i => entB (cutAt l lv i) (l.getD i default) lv
def offsB (l : List Entry) (lv : Int) (base k : Nat) : Str := (List.range k).flatMap fun i => num (base + (entsB l lv i).length) 2
def nodeB (tree lv : Int) (top : Bool) (l : List Entry) (base : Nat) : Str :=
  num tree.toNat 1 ++ (num lv.toNat 1 ++ (num (if top then 1 else 0) 1 ++ (num (shared l lv).length 1 ++ (num l.length 2 ++ (shared l lv ++ (offsB l lv (base + 6 + (shared l lv).length + 2 * l.length) l.length ++ entsB l lv l.length))))))
/-- Two builders that have nothing in common. -/
theorem Wrote.apart {h h' : AHeap} {b : Nat} {F F' GA : List Nat} {s : Str} (w : Wrote h h' b F F' s) (hd : ∀ x ∈ GA, x ∉ F) (hl : ∀ x ∈ GA, x < h.length) : ∀ x ∈ GA, x ∉ F' := fun x hx hf => by
  rcases w.2.2 x hf with q | q
  · exact hd x hx q
  · have := hl x hx; omega
end Go.Proofs
/- Contracts: nodes that are written into a builder (the walk). -/
set_option linter.unusedVariables false
set_option linter.unusedSimpArgs false
namespace Go.Proofs
open Go Go.Abs
def nodeXs (tree lv : Int) (top : Bool) (l : List Entry) (sz : Nat) (c : Bool) : List AV := [i64 tree, i64 lv, .bool top, .lst sz (l.map Entry.av) c]
section
variable {n : Nat} {hp : AHeap} {b : Nat} {bs : Str} {F : List Nat} {K X : AV → AHeap → Prop}

end
end Go.Proofs
/- Contracts: pages that are well-formed; their bodies; the ends of blocks. -/
set_option linter.unusedVariables false
set_option linter.unusedSimpArgs false
namespace Go.Proofs
open Go Go.Abs
section
variable {n : Nat} {h : AHeap}
def Page.body (p : Page) : AV := if p.kind = 3 then .ifc 174 (.agg [i64 p.next, .str p.data]) else if p.kind = 4 then .ifc 176 (.agg [i64 p.next, .lst p.fsh.sz (p.freed.map Freed.av) p.fsh.c]) else .ifc 178 (.agg (nodeXs p.tree p.level p.top p.entries p.esh.sz p.esh.c))
/-- The last four bytes of a block. -/
def crcB (s : Str) : Str := [UInt8.ofNat ((crc s).toNat / 256 ^ 0), UInt8.ofNat ((crc s).toNat / 256 ^ 1), UInt8.ofNat ((crc s).toNat / 256 ^ 2), UInt8.ofNat ((crc s).toNat / 256 ^ 3)]
end
end Go.Proofs
/- The looked-up text of the functions. -/
namespace Go.Proofs
open Go Go.Abs
/- f60 strings.Repeat: 125 temporaries, depth 7, 2 parameters, results [t4] -/
/- f111 (*strings.Builder).Grow: 25 temporaries, depth 5, 2 parameters, results [] -/
/- f148 (*strings.Builder).grow: 30 temporaries, depth 5, 2 parameters, results [] -/
/- f109 math/bits.Mul: 30 temporaries, depth 5, 2 parameters, results [t4, t5] -/
/- f146 math/bits.Mul64: 51 temporaries, depth 6, 2 parameters, results [t4, t5] -/
/- f110 strings.HasPrefix: 8 temporaries, depth 4, 2 parameters, results [t4] -/
/- f147 internal/stringslite.HasPrefix: 18 temporaries, depth 5, 2 parameters, results [t4] -/
end Go.Proofs
/- Contracts: a byte repeated. -/
set_option linter.unusedVariables false
set_option linter.unusedSimpArgs false
namespace Go.Proofs
open Go Go.Abs
section
variable {n : Nat} {h : AHeap}
def zeros (k : Nat) : Str := List.replicate k 0
end
end Go.Proofs
/- Contracts: Encode. -/
set_option linter.unusedVariables false
set_option linter.unusedSimpArgs false
namespace Go.Proofs
open Go Go.Abs
theorem freedOk_at {l : List Freed} (h : freedOk l = true) {j : Nat} (hj : j < l.length) : (0 ≤ l[j].ver ∧ l[j].ver ≤ 1099511627776) ∧ l[j].pages ≠ [] ∧ (j = 0 ∨ l[j - 1].ver < l[j].ver) ∧ pgsOk l[j].pages = true := by
  have := List.all_eq_true.1 h j (List.mem_range.2 hj)
  rw [frAt_unf hj] at this
  simp [within] at this
  exact ⟨this.1.1, this.1.2.1, this.1.2.2, this.2⟩
def Page.bodyB (p : Page) : Str := if p.kind = 3 then pieceB p.next p.data else if p.kind = 4 then listB p.next p.freed else nodeB p.tree p.level p.top p.entries 12
def Page.headB (p : Page) : Str := 85 :: (num p.kind.toNat 1 ++ (num p.no.toNat 4 ++ num p.ver.toNat 6))
def Page.used (p : Page) : Str := p.headB ++ p.bodyB
def Page.full (p : Page) : Str := p.used ++ zeros (508 - p.used.length)
def Page.enc (p : Page) : Str := p.full ++ crcB p.full
end Go.Proofs
/- Contracts: Encode (the walk). -/
set_option linter.unusedVariables false
set_option linter.unusedSimpArgs false
namespace Go.Proofs
open Go Go.Abs
section
variable {n : Nat} {h : AHeap}
end
end Go.Proofs
/- Contracts: blocks that are none: Head and Decode. -/
set_option linter.unusedVariables false
set_option linter.unusedSimpArgs false
namespace Go.Proofs
open Go Go.Abs
section
variable {n : Nat} {h : AHeap}
end
end Go.Proofs
/- Contracts: the deferred function that recovers. -/
set_option linter.unusedVariables false
set_option linter.unusedSimpArgs false
namespace Go.Proofs
open Go Go.Abs
section
variable {m : Nat} {h : AHeap} {P I : Nat}
end
end Go.Proofs
/- Contracts: blocks whose bodies are read. -/
set_option linter.unusedVariables false
set_option linter.unusedSimpArgs false
namespace Go.Proofs
open Go Go.Abs
inductive Bdy where
  | nd (x : NodeP)
  | pc (x : Nat × Str)
  | ls (x : Nat × List (Nat × List Nat))
def pbody (k : Nat) (s : Str) : Option Bdy := if k = 1 ∨ k = 2 then (pnode s).map fun x => .nd x.1 else if k = 3 then (ppiece s).map fun x => .pc x.1 else (plist s).map fun x => .ls x.1
structure Blk where
  kind : Nat
  no : Nat
  ver : Nat
  bd : Bdy
def pread (s : Str) : Option Blk := (pnum 1 ((s.take 508).drop 1)).bind fun k => (pnum 4 k.2).bind fun no => (pnum 6 no.2).bind fun v => (pbody k.1 v.2).map fun b => ⟨k.1, no.1, v.1, b⟩
/-- What a page has that was read. -/
def BdIs (q : Page) : Bdy → Prop
  | .nd x => q.tree = x.tree ∧ q.level = x.lv ∧ q.top = x.top ∧ q.entries = x.es ∧ q.next = 0 ∧ q.data = [] ∧ q.freed = []
  | .pc x => q.tree = 0 ∧ q.level = 0 ∧ q.top = false ∧ q.entries = [] ∧ q.next = x.1 ∧ q.data = x.2 ∧ q.freed = []
  | .ls x => q.tree = 0 ∧ q.level = 0 ∧ q.top = false ∧ q.entries = [] ∧ q.next = x.1 ∧ q.data = [] ∧ FsAre q.freed x.2
structure BlkIs (q : Page) (x : Blk) : Prop where
  kind : q.kind = x.kind
  no : q.no = x.no
  ver : q.ver = x.ver
  bd : BdIs q x.bd
  esz : q.entries ≠ [] → q.esh.sz = 22
  fsz : q.freed ≠ [] → q.fsh.sz = 2
theorem gs {h : AHeap} {x y : Nat} {v w : AB} (e : h[x]? = some v) (n : y ≠ x) : (h.set y w)[x]? = some v := by rw [List.getElem?_set_ne n]; exact e
theorem ge {h : AHeap} {x : Nat} {v w : AB} (e : h[x]? = some v) : (h.set x w)[x]? = some w := List.getElem?_set_self (lt_of_get e)
theorem GBuf.one {el : TypeId} {sz : Nat} {h : AHeap} {X : Nat} {L : AV} {rows : List (List AV)} {G : List Nat} (g : GBuf el sz h X L rows G) : L.cells? = some [L] ∧ L.scal = true := by
  rcases g.2 with ⟨rfl, _⟩ | ⟨eb, ver, frz, rfl, _⟩ <;> exact ⟨rfl, rfl⟩
structure RS (h : AHeap) (cs : List AV) (t : Str) : Prop where
  p : h[0]? = some (.cells 0 (some 25) cs 0)
  i : h[1]? = some (.cells 0 (some 4) [.bool false] 0)
  r : RDs h 2 t
theorem RS.next {h h' : AHeap} {cs : List AV} {t t' : Str} (a : RS h cs t) (k : Keep h h' [2]) (r : RDs h' 2 t') : RS h' cs t' := ⟨k.get a.p (by simp), k.get a.i (by simp), r⟩
theorem RS.set {h : AHeap} {cs cs' : List AV} {t : Str} (a : RS h cs t) : RS (h.set 0 (.cells 0 (some 25) cs' 0)) cs' t := ⟨ge a.p, gs a.i (by decide), a.r.stays (Keep.set (F := [0]) (by simp)) (by simp)⟩
section
variable {m : Nat} {s : Str}
end
end Go.Proofs
/- Contracts: heads, blocks compared. -/
set_option linter.unusedVariables false
set_option linter.unusedSimpArgs false
namespace Go.Proofs
open Go Go.Abs
section
variable {n : Nat} {h : AHeap}
end
end Go.Proofs
/- What is read is short. -/
set_option linter.unusedVariables false
set_option linter.unusedSimpArgs false
namespace Go.Proofs
open Go Go.Abs
theorem ptext_len {k : Nat} {s a t : Str} (h : ptext k s = some (a, t)) : a.length ≤ s.length ∧ t.length ≤ s.length := by
  unfold ptext at h
  split at h
  · cases h; simp only [List.length_take, List.length_drop]; omega
  · cases h
theorem pnum_len {w v : Nat} {s t : Str} (h : pnum w s = some (v, t)) : t.length ≤ s.length ∧ v < 256 ^ w := by
  unfold pnum at h
  split at h
  · rename_i hl
    cases h
    exact ⟨by rw [List.length_drop]; omega, unnum_lt w _ (by rw [List.length_take]; omega)⟩
  · cases h
theorem psum_len {d : Dg} {s t : Str} (h : psum s = some (d, t)) : t.length ≤ s.length := by
  unfold psum at h
  split at h
  · cases h; rw [List.length_drop]; omega
  · cases h
theorem bind_some' {α β : Type} {o : Option α} {f : α → Option β} {b : β} (h : o.bind f = some b) : ∃ a, o = some a ∧ f a = some b := Option.bind_eq_some_iff.1 h
theorem map_some' {α β : Type} {o : Option α} {f : α → β} {b : β} (h : o.map f = some b) : ∃ a, o = some a ∧ f a = b := Option.map_eq_some_iff.1 h
theorem pcont2_len {key : Str} {long : Nat} {s t : Str} {e : Entry} (h : pcont2 key long s = some (e, t)) : e.key = key ∧ e.val.length ≤ s.length ∧ t.length ≤ s.length := by
  unfold pcont2 at h
  split at h
  · obtain ⟨⟨a, s1⟩, h1, h⟩ := bind_some' h
    obtain ⟨⟨b, s2⟩, h2, h⟩ := bind_some' h
    obtain ⟨⟨d, s3⟩, h3, h⟩ := map_some' h
    cases h
    have := pnum_len h1; have := pnum_len h2; have := psum_len h3
    exact ⟨rfl, Nat.zero_le _, by simp only at *; omega⟩
  · split at h
    · obtain ⟨⟨a, s1⟩, h1, h⟩ := bind_some' h
      obtain ⟨⟨b, s2⟩, h2, h⟩ := bind_some' h
      obtain ⟨⟨d, s3⟩, h3, h⟩ := map_some' h
      cases h
      have := pnum_len h1; have := pnum_len h2; have := psum_len h3
      exact ⟨rfl, Nat.zero_le _, by simp only at *; omega⟩
    · obtain ⟨⟨a, s1⟩, h1, h⟩ := map_some' h
      cases h
      have := ptext_len h1
      exact ⟨rfl, this.1, this.2⟩
theorem pcont_len {key : Str} {lv : Int} {s t : Str} {e : Entry} (h : pcont key lv s = some (e, t)) : e.key = key ∧ e.val.length ≤ s.length ∧ t.length ≤ s.length := by
  unfold pcont at h
  split at h
  · obtain ⟨⟨a, s1⟩, h1, h⟩ := bind_some' h
    have := pnum_len h1
    have := pcont2_len h
    simp only at *
    exact ⟨this.1, by omega, by omega⟩
  · exact pcont2_len h
theorem pents_len {pre : Str} {lv : Int} : ∀ {k i : Nat} {s t : Str} {es : List Entry}, pents pre lv k i s = some (es, t) → es.length = k ∧ ∀ e ∈ es, e.key.length ≤ pre.length + s.length ∧ e.val.length ≤ s.length
  | 0, i, s, t, es, h => by simp [pents] at h; obtain ⟨rfl, rfl⟩ := h; simp
  | k + 1, i, s, t, es, h => by
    simp only [pents] at h
    obtain ⟨⟨e, s1⟩, h1, h⟩ := bind_some' h
    obtain ⟨⟨es', s2⟩, h2, h⟩ := map_some' h
    cases h
    have ih := pents_len h2
    unfold pent at h1
    obtain ⟨⟨a, u1⟩, g1, h1⟩ := bind_some' h1
    obtain ⟨⟨b, u2⟩, g2, h1⟩ := bind_some' h1
    have l1 := pnum_len g1
    have l2 := ptext_len g2
    have l3 := pcont_len h1
    have lk : (preK pre lv i).length ≤ pre.length := by unfold preK; split <;> simp
    simp only at *
    refine ⟨by simp [ih.1], fun x hx => ?_⟩
    rcases List.mem_cons.1 hx with rfl | hx
    · rw [l3.1, List.length_append]
      omega
    · have := ih.2 x hx
      omega
theorem pnode_len {s t : Str} {x : NodeP} (h : pnode s = some (x, t)) : x.es.length < 65536 ∧ ∀ e ∈ x.es, e.key.length ≤ 2 * s.length ∧ e.val.length ≤ s.length := by
  unfold pnode at h
  obtain ⟨⟨a1, s1⟩, h1, h⟩ := bind_some' h
  obtain ⟨⟨a2, s2⟩, h2, h⟩ := bind_some' h
  obtain ⟨⟨a3, s3⟩, h3, h⟩ := bind_some' h
  obtain ⟨⟨a4, s4⟩, h4, h⟩ := bind_some' h
  obtain ⟨⟨a5, s5⟩, h5, h⟩ := bind_some' h
  obtain ⟨⟨a6, s6⟩, h6, h⟩ := bind_some' h
  obtain ⟨⟨a7, s7⟩, h7, h⟩ := bind_some' h
  obtain ⟨⟨es, s8⟩, h8, h⟩ := map_some' h
  cases h
  have l1 := pnum_len h1
  have l2 := pnum_len h2
  have l3 := pnum_len h3
  have l4 := pnum_len h4
  have l5 := pnum_len h5
  have l6 := ptext_len h6
  have l7 := ptext_len h7
  have l8 := pents_len h8
  simp only at *
  refine ⟨by rw [l8.1]; exact l5.2, fun e he => ?_⟩
  have := l8.2 e he
  omega
theorem ppages_len : ∀ {k : Nat} {s t : Str} {ps : List Nat}, ppages k s = some (ps, t) → ps.length = k
  | 0, s, t, es, h => by simp [ppages] at h; obtain ⟨rfl, rfl⟩ := h; rfl
  | k + 1, s, t, es, h => by
    simp only [ppages] at h
    obtain ⟨⟨e, s1⟩, h1, h⟩ := bind_some' h
    obtain ⟨⟨es', s2⟩, h2, h⟩ := map_some' h
    cases h
    simp [ppages_len h2]
theorem pfreeds_len : ∀ {k : Nat} {s t : Str} {l : List (Nat × List Nat)}, pfreeds k s = some (l, t) → l.length = k ∧ ∀ x ∈ l, x.2.length < 65536
  | 0, s, t, es, h => by simp [pfreeds] at h; obtain ⟨rfl, rfl⟩ := h; simp
  | k + 1, s, t, es, h => by
    simp only [pfreeds] at h
    obtain ⟨⟨a1, s1⟩, h1, h⟩ := bind_some' h
    obtain ⟨⟨a2, s2⟩, h2, h⟩ := bind_some' h
    obtain ⟨⟨a3, s3⟩, h3, h⟩ := bind_some' h
    obtain ⟨⟨es', s4⟩, h4, h⟩ := map_some' h
    cases h
    have l2 := pnum_len h2
    have l3 := ppages_len h3
    have ih := pfreeds_len h4
    simp only at *
    refine ⟨by simp [ih.1], fun x hx => ?_⟩
    rcases List.mem_cons.1 hx with rfl | hx
    · simp only; rw [l3]; exact l2.2
    · exact ih.2 x hx
theorem FsAre.ok : ∀ {fs : List Freed} {l : List (Nat × List Nat)}, FsAre fs l → (∀ x ∈ l, x.2.length < 65536) → ∀ f ∈ fs, f.Ok ∧ f.pages.length < 9223372036854775808
  | _, _, .nil, _, f, hf => by cases hf
  | _, _, .cons (t := t) h r, hl, f, hf => by
    rcases List.mem_cons.1 hf with rfl | hf
    · have := hl t (List.mem_cons_self ..)
      refine ⟨h.2.2, ?_⟩
      rw [h.2.1, List.length_map]; omega
    · exact r.ok (fun x hx => hl x (List.mem_cons_of_mem _ hx)) f hf
theorem BlkIs.ok {q : Page} {x : Blk} {s : Str} (hs : s.length = 512) (hx : pread s = some x) (hq : BlkIs q x) : q.Ok := by
  unfold pread at hx
  obtain ⟨⟨a1, s1⟩, h1, h⟩ := bind_some' hx
  obtain ⟨⟨a2, s2⟩, h2, h⟩ := bind_some' h
  obtain ⟨⟨a3, s3⟩, h3, h⟩ := bind_some' h
  obtain ⟨bd, h4, h⟩ := map_some' h
  cases h
  have l0 : ((s.take 508).drop 1).length ≤ 508 := by rw [List.length_drop, List.length_take]; omega
  have l1 := pnum_len h1
  have l2 := pnum_len h2
  have l3 := pnum_len h3
  obtain ⟨_, _, _, hb, esz, fsz⟩ := hq
  simp only at *
  unfold pbody at h4
  split at h4
  · obtain ⟨⟨y, t⟩, g, h⟩ := map_some' h4
    cases h
    have := pnode_len g
    obtain ⟨b1, b2, b3, b4, b5, b6, b7⟩ := hb
    refine ⟨esz, fsz, by rw [b4]; exact Nat.lt_trans this.1 (by decide), by rw [b7]; decide, by rw [b6]; decide, fun e he => ?_, fun f hf => ?_⟩
    · rw [b4] at he
      have := this.2 e he
      exact ⟨by omega, by omega⟩
    · rw [b7] at hf; cases hf
  · split at h4
    · obtain ⟨⟨y, t⟩, g, h⟩ := map_some' h4
      cases h
      obtain ⟨b1, b2, b3, b4, b5, b6, b7⟩ := hb
      unfold ppiece at g
      obtain ⟨⟨c1, t1⟩, g1, g⟩ := bind_some' g
      obtain ⟨⟨c2, t2⟩, g2, g⟩ := bind_some' g
      obtain ⟨⟨c3, t3⟩, g3, g⟩ := map_some' g
      cases g
      have m1 := pnum_len g1
      have m2 := pnum_len g2
      have m3 := ptext_len g3
      simp only at *
      refine ⟨esz, fsz, by rw [b4]; decide, by rw [b7]; decide, by rw [b6]; omega, fun e he => ?_, fun f hf => ?_⟩
      · rw [b4] at he; cases he
      · rw [b7] at hf; cases hf
    · obtain ⟨⟨y, t⟩, g, h⟩ := map_some' h4
      cases h
      obtain ⟨b1, b2, b3, b4, b5, b6, b7⟩ := hb
      unfold plist at g
      obtain ⟨⟨c1, t1⟩, g1, g⟩ := bind_some' g
      obtain ⟨⟨c2, t2⟩, g2, g⟩ := bind_some' g
      obtain ⟨⟨c3, t3⟩, g3, g⟩ := map_some' g
      cases g
      have m2 := pnum_len g2
      have m3 := pfreeds_len g3
      have hlen := b7.length_eq
      simp only at *
      refine ⟨esz, fsz, by rw [b4]; decide, by rw [hlen, m3.1]; exact Nat.lt_trans m2.2 (by decide), by rw [b6]; decide, fun e he => ?_, b7.ok m3.2⟩
      rw [b4] at he; cases he
end Go.Proofs
/- What was written is read again: numbers, texts, entries. -/
set_option linter.unusedVariables false
set_option linter.unusedSimpArgs false
namespace Go.Proofs
open Go Go.Abs
end Go.Proofs
/- Contracts: Decode. -/
set_option linter.unusedVariables false
set_option linter.unusedSimpArgs false
namespace Go.Proofs
open Go Go.Abs
section
variable {n : Nat} {s : Str}
end
end Go.Proofs
/- Decode answers a block that Encode wrote with its page. -/
set_option linter.unusedVariables false
set_option linter.unusedSimpArgs false
namespace Go.Proofs
open Go Go.Abs
def Freed.core (f : Freed) : Int × List Int := (f.ver, f.pages)
/-- Pages that read alike. -/
structure Same (p q : Page) : Prop where
  kind : q.kind = p.kind
  no : q.no = p.no
  ver : q.ver = p.ver
  tree : q.tree = p.tree
  level : q.level = p.level
  top : q.top = p.top
  entries : q.entries = p.entries
  next : q.next = p.next
  data : q.data = p.data
  freed : q.freed.map Freed.core = p.freed.map Freed.core
theorem core_len {a b : List Freed} (h : a.map Freed.core = b.map Freed.core) : a.length = b.length := by
  have := congrArg List.length h
  simpa using this
theorem core_at {a b : List Freed} (h : a.map Freed.core = b.map Freed.core) (k : Nat) : (a.getD k default).ver = (b.getD k default).ver ∧ (a.getD k default).pages = (b.getD k default).pages := by
  have hl := core_len h
  by_cases hk : k < a.length
  · have hk' : k < b.length := by omega
    have h1 : (a.map Freed.core)[k]? = (b.map Freed.core)[k]? := by rw [h]
    rw [List.getElem?_map, List.getElem?_map, List.getElem?_eq_getElem hk, List.getElem?_eq_getElem hk'] at h1
    have h2 : a[k].core = b[k].core := Option.some.inj h1
    have e1 : a.getD k default = a[k] := by simp [hk]
    have e2 : b.getD k default = b[k] := by simp [hk']
    rw [e1, e2]
    exact ⟨congrArg Prod.fst h2, congrArg Prod.snd h2⟩
  · have e1 : a.getD k default = default := by simp [List.getElem?_eq_none (show a.length ≤ k by omega)]
    have e2 : b.getD k default = default := by simp [List.getElem?_eq_none (show b.length ≤ k by omega)]
    rw [e1, e2]
    exact ⟨rfl, rfl⟩
theorem freedOk_core {a b : List Freed} (h : a.map Freed.core = b.map Freed.core) : freedOk a = freedOk b := by
  unfold freedOk
  rw [core_len h]
  congr 1
  funext k
  unfold frAt
  rw [(core_at h k).1, (core_at h k).2, (core_at h (k - 1)).1]
theorem freedsB_core {a b : List Freed} (h : a.map Freed.core = b.map Freed.core) : freedsB a = freedsB b := by
  have e : ∀ l : List Freed, freedsB l = (l.map Freed.core).flatMap fun c => num c.1.toNat 6 ++ (num c.2.length 2 ++ pagesB c.2) := fun l => by
    induction l with
    | nil => rfl
    | cons f r ih =>
      simp only [freedsB, List.flatMap_cons, List.map_cons] at ih ⊢
      rw [ih]; rfl
  rw [e a, e b, h]
theorem Same.enc {p q : Page} (h : Same p q) : q.enc = p.enc := by
  have e : q.full = p.full := by
    unfold Page.full Page.used Page.headB Page.bodyB listB
    rw [h.kind, h.no, h.ver, h.tree, h.level, h.top, h.entries, h.next, h.data, freedsB_core h.freed, core_len h.freed]
  unfold Page.enc
  rw [e]
end Go.Proofs
/- Contracts: equal lists of numbers, of freed pages; equal pages without entries. -/
set_option linter.unusedVariables false
set_option linter.unusedSimpArgs false
namespace Go.Proofs
open Go Go.Abs
theorem get_two_l (h : AHeap) (a x b y : AB) : ((((h ++ [a]).set h.length x) ++ [b]).set ((h ++ [a]).set h.length x).length y)[h.length]? = some x := by
  rw [List.getElem?_set_ne (by simp), List.getElem?_append_left (by simp), List.getElem?_set_self (by simp)]
theorem take_eq_step {α : Type} {a b : List α} {j : Nat} (ha : j < a.length) (hb : j < b.length) (h : a.take j = b.take j) (e : a[j] = b[j]) : a.take (j + 1) = b.take (j + 1) := by
  rw [List.take_succ_eq_append_getElem ha, List.take_succ_eq_append_getElem hb, h, e]
section
variable {n : Nat} {h : AHeap}
theorem equalInts_eq (hn : 1 ≤ n) (a b : List Int) (hl : a.length < 9223372036854775808) (sz sz' : Nat) (hz : a ≠ [] → sz = 1) (hz' : b ≠ [] → sz' = 1) (c c' : Bool) : C n 136 [.lst sz (a.map i64) c, .lst sz' (b.map i64) c'] h = some (.ret (.bool (decide (a = b))), h) := by
  obtain ⟨m, rfl⟩ : ∃ m, n = m + 1 := ⟨n - 1, by omega⟩
  refine fun_pure F136 rfl rfl rfl (ints_pure a (ints_pure b rfl)) ?_
  conv => whnf
  refine brq (fun q => ?_) (fun q => ?_)
  · conv => whnf
    refine retP rfl (frz_bool ?_)
    have : a ≠ b := by rintro rfl; exact q rfl
    simp [this]
  have hlen : a.length = b.length := by simp at q; omega
  conv => whnf
  refine loopI (by decide) rfl (α := Nat) (fun x => ⟨[(0, .lst sz (a.map i64) c), (1, .lst sz' (b.map i64) c'), (12, i64 a.length), (13, i64 x)], [], []⟩) (fun x => x ≤ a.length ∧ a.take x = b.take x) (fun x => a.length - x) 0 ⟨⟨rfl, rfl, lenI _ _, rfl⟩, rfl, rfl⟩ ⟨Nat.zero_le _, rfl⟩ (by show a.length - 0 < KK; simp only [KK]; omega) ?_
  rintro j ⟨g1, g2⟩
  conv => whnf
  refine brd (fun d => ?_) (fun d => ?_)
  · have hj : j < a.length := by omega
    have hj' : j < b.length := by omega
    have hne : a ≠ [] := by rintro rfl; simp at hj
    have hne' : b ≠ [] := by rintro rfl; simp at hj'
    conv => whnf
    refine ⟨by omega, hz hne, i64 a[j], by simp [hj], [i64 a[j]], rfl, ?_⟩
    conv => whnf
    refine ⟨by omega, hz' hne', i64 b[j], by simp [hj'], [i64 b[j]], rfl, ?_⟩
    conv => whnf
    refine brq (fun e => ?_) (fun e => ?_)
    · conv => whnf
      refine retP rfl (frz_bool ?_)
      have : a ≠ b := by rintro rfl; exact e rfl
      simp [this]
    · conv => whnf
      refine zI (z := ((j + 1 : Nat) : Int)) (by rw [wrap_i64 (by omega) (by omega)]; rfl) ?_
      exact nxI (j + 1) ⟨hj, take_eq_step hj hj' g2 e⟩ (by omega) ⟨⟨rfl, rfl, rfl, rfl⟩, rfl, rfl⟩
  · have hj : j = a.length := by omega
    subst hj
    have e : a = b := by
      rw [List.take_length] at g2
      rw [g2, hlen, List.take_length]
    conv => whnf
    refine cutI (by decide) rfl (t := ⟨[], [], []⟩) ⟨trivial, rfl, rfl⟩ ?_
    conv => whnf
    exact retP rfl (frz_bool (by simp [e]))
theorem same1_eq (hn : 2 ≤ n) (f g : Freed) (hf : f.Ok ∧ f.pages.length < 9223372036854775808) (hg : g.Ok) : C n 135 [f.av, g.av] h = some (.ret (.bool (decide (f.core = g.core))), h) := by
  obtain ⟨m, rfl⟩ : ∃ m, n = m + 1 := ⟨n - 1, by omega⟩
  have cE := fun h => equalInts_eq (n := m) (h := h) (by omega) f.pages g.pages hf.2 f.sh.sz g.sh.sz hf.1 hg f.sh.c g.sh.c
  refine fun_pure F135 rfl rfl rfl (by simp [pureBs, freed_pure]) ?_
  conv => whnf
  refine ldI (by rfl) ?_
  conv => whnf
  refine ldI (by rfl) ?_
  conv => whnf
  refine bre (fun a => ?_) (fun a => ?_)
  · conv => whnf
    refine ldI (by rfl) ?_
    conv => whnf
    refine ldI (by rfl) ?_
    conv => whnf
    refine clI (cE _) ?_
    conv => whnf
    refine retP rfl (frz_bool ?_)
    rw [decide_eq_decide]
    unfold Freed.core
    rw [Prod.mk.injEq]
    exact ⟨fun q => ⟨a, q⟩, fun q => q.2⟩
  · conv => whnf
    refine retP rfl (frz_bool ?_)
    have : f.core ≠ g.core := fun e => a (by unfold Freed.core at e; exact (Prod.mk.inj e).1)
    simp [this]
end
end Go.Proofs
/- Contracts: equal lists of freed pages; equal pages without entries. -/
set_option linter.unusedVariables false
set_option linter.unusedSimpArgs false
namespace Go.Proofs
open Go Go.Abs
abbrev tFrd : Nat := 165
theorem core_step {a b : List Freed} {j : Nat} (ha : j < a.length) (hb : j < b.length) (h : (a.take j).map Freed.core = (b.take j).map Freed.core) (e : a[j].core = b[j].core) : (a.take (j + 1)).map Freed.core = (b.take (j + 1)).map Freed.core := by
  rw [List.take_succ_eq_append_getElem ha, List.take_succ_eq_append_getElem hb, List.map_append, List.map_append, h]
  simp [e]
theorem core_ne {a b : List Freed} {j : Nat} (ha : j < a.length) (hb : j < b.length) (e : a[j].core ≠ b[j].core) : a.map Freed.core ≠ b.map Freed.core := fun q => e (by
  have h1 : (a.map Freed.core)[j]? = (b.map Freed.core)[j]? := by rw [q]
  simpa [ha, hb] using h1)
section
variable {n : Nat} {h : AHeap}
theorem eqFreed_eq (hn : 3 ≤ n) (a b : List Freed) (hl : a.length < 1099511627776) (ha : ∀ f ∈ a, f.Ok ∧ f.pages.length < 9223372036854775808) (hb : ∀ f ∈ b, f.Ok) (sz sz' : Nat) (hz : a ≠ [] → sz = 2) (hz' : b ≠ [] → sz' = 2) (c c' : Bool) :
    C n 134 [.lst sz (a.map Freed.av) c, .lst sz' (b.map Freed.av) c', .fn (.func 135) [] []] h = some (.ret (.bool (decide (a.map Freed.core = b.map Freed.core))), h) := by
  obtain ⟨m, rfl⟩ : ∃ m, n = m + 1 := ⟨n - 1, by omega⟩
  have fine : fnOk Tryz.prog 135 = true := by kernel_rfl
  refine fun_pure F134 rfl rfl rfl (pure_lst freed_pure a (pure_lst freed_pure b rfl)) ?_
  conv => whnf
  refine brq (fun q => ?_) (fun q => ?_)
  · conv => whnf
    refine retP rfl (frz_bool ?_)
    have : a.map Freed.core ≠ b.map Freed.core := fun e => q (by have := congrArg List.length e; simp at this; simp [this])
    simp [this]
  have hlen : a.length = b.length := by simp at q; omega
  conv => whnf
  refine loopI (by decide) rfl (α := Nat × AHeap) (fun x => ⟨[(1, .lst sz' (b.map Freed.av) c'), (2, .fn (.func 135) [] []), (15, .lst sz (a.map Freed.av) c), (16, i64 a.length), (17, i64 x.1)], x.2, []⟩)
    (fun x => x.1 ≤ a.length ∧ (a.take x.1).map Freed.core = (b.take x.1).map Freed.core) (fun x => a.length - x.1) (0, []) ⟨⟨rfl, rfl, rfl, lenI _ _, rfl⟩, rfl, rfl⟩ ⟨Nat.zero_le _, rfl⟩ (by show a.length - 0 < KK; simp only [KK]; omega) ?_
  rintro ⟨j, hp⟩ ⟨g1, g2⟩
  simp only at g1 g2
  conv => whnf
  refine brd (fun d => ?_) (fun d => ?_)
  · have hj : j < a.length := by simp only at d; omega
    have hj' : j < b.length := by omega
    have cS : ∀ h, C m 135 [.agg a[j].cells, .agg b[j].cells] h = some (.ret (.bool (decide (a[j].core = b[j].core))), h) := fun h => same1_eq (by omega) a[j] b[j] (ha _ (List.getElem_mem hj)) (hb _ (List.getElem_mem hj'))
    conv => whnf
    refine ixL freed_cells hj hz ?_
    conv => whnf
    refine stI (get_last _ _) (xs := a[j].cells) (by rfl) (by rfl) (by rfl) (by rfl) ?_
    conv => whnf
    refine ixL freed_cells hj' hz' ?_
    conv => whnf
    refine stI (get_last _ _) (xs := b[j].cells) (by rfl) (by rfl) (by rfl) (by rfl) ?_
    conv => whnf
    refine ldI (get_two_l _ _ _ _ _) ?_
    conv => whnf
    refine ldI (get_set_last _ _ _) ?_
    conv => whnf
    refine cvI fine (cS _) ?_
    conv => whnf
    refine brn (fun e => ?_) (fun e => ?_)
    · conv => whnf
      refine retP rfl (frz_bool ?_)
      have := core_ne hj hj' (of_decide_eq_false e)
      simp [this]
    · conv => whnf
      refine zI (z := ((j + 1 : Nat) : Int)) (by rw [wrap_i64 (by omega) (by omega)]; rfl) ?_
      exact nxI (j + 1, _) ⟨hj, core_step hj hj' g2 (of_decide_eq_true e)⟩ (by simp only; omega) ⟨⟨rfl, rfl, rfl, rfl, rfl⟩, rfl, rfl⟩
  · have hj : j = a.length := by simp only at d; omega
    subst hj
    have e : a.map Freed.core = b.map Freed.core := by
      rw [List.take_length] at g2
      rw [g2, hlen, List.take_length]
    conv => whnf
    refine cutI (by decide) rfl (t := ⟨[], hp, []⟩) ⟨trivial, rfl, rfl⟩ ?_
    conv => whnf
    exact retP rfl (frz_bool (by simp [e]))
/-- Pages without entries that read alike. -/
def sameP (p q : Page) : Bool := p.kind == q.kind && (p.no == q.no && (p.ver == q.ver && (p.next == q.next && (p.data == q.data && (p.plain && (q.plain && decide (p.freed.map Freed.core = q.freed.map Freed.core)))))))
theorem samePage_eq (hn : 4 ≤ n) (p q : Page) (op : p.Ok) (oq : q.Ok) : C n 98 [p.av, q.av] h = some (.ret (.bool (sameP p q)), h) := by
  obtain ⟨m, rfl⟩ : ∃ m, n = m + 1 := ⟨n - 1, by omega⟩
  have cF := fun h => eqFreed_eq (n := m) (h := h) (by omega) p.freed q.freed (by have := op.flen; omega) op.fr (fun f hf => (oq.fr f hf).1) p.fsh.sz q.fsh.sz op.fsz oq.fsz p.fsh.c q.fsh.c
  have cp := fun h => plain_eq (n := m) (h := h) (by omega) p
  have cq := fun h => plain_eq (n := m) (h := h) (by omega) q
  have hpure : pureBs [p.av, q.av] = true := by simp [pureBs, page_pure]
  refine fun_pure F98 rfl rfl rfl hpure ?_
  conv => whnf
  refine ldI (by rfl) ?_
  conv => whnf
  refine ldI (by rfl) ?_
  conv => whnf
  refine brq (fun a => ?_) (fun a1 => ?_)
  · conv => whnf
    exact retP rfl (frz_bool (by simp [sameP, a]))
  conv => whnf
  refine ldI (by rfl) ?_
  conv => whnf
  refine ldI (by rfl) ?_
  conv => whnf
  refine brq (fun a => ?_) (fun a2 => ?_)
  · conv => whnf
    exact retP rfl (frz_bool (by simp [sameP, a]))
  conv => whnf
  refine ldI (by rfl) ?_
  conv => whnf
  refine ldI (by rfl) ?_
  conv => whnf
  refine brq (fun a => ?_) (fun a3 => ?_)
  · conv => whnf
    exact retP rfl (frz_bool (by simp [sameP, a]))
  conv => whnf
  refine ldI (by rfl) ?_
  conv => whnf
  refine ldI (by rfl) ?_
  conv => whnf
  refine brq (fun a => ?_) (fun a4 => ?_)
  · conv => whnf
    exact retP rfl (frz_bool (by simp [sameP, a]))
  conv => whnf
  refine ldI (by rfl) ?_
  conv => whnf
  refine ldI (by rfl) ?_
  conv => whnf
  refine brq (fun a => ?_) (fun a5 => ?_)
  · conv => whnf
    exact retP rfl (frz_bool (by simp [sameP, a]))
  conv => whnf
  refine ldI (by rfl) ?_
  conv => whnf
  refine clI (cp _) ?_
  conv => whnf
  refine brn (fun a => ?_) (fun a6 => ?_)
  · conv => whnf
    exact retP rfl (frz_bool (by simp [sameP, a]))
  conv => whnf
  refine ldI (by rfl) ?_
  conv => whnf
  refine clI (cq _) ?_
  conv => whnf
  refine brn (fun a => ?_) (fun a7 => ?_)
  · conv => whnf
    exact retP rfl (frz_bool (by simp [sameP, a]))
  conv => whnf
  refine ldI (by rfl) ?_
  conv => whnf
  refine ldI (by rfl) ?_
  conv => whnf
  refine clI (cF _) ?_
  conv => whnf
  exact retP rfl (frz_bool (by simp [sameP, a1, a2, a3, a4, a5, a6, a7]))
/-- Lists of pages without entries that read alike. -/
def samePs (a b : List Page) : Bool := decide (a.length = b.length) && (List.zipWith sameP a b).all id
theorem samePs_len {a b : List Page} (h : a.length ≠ b.length) : samePs a b = false := by unfold samePs; simp [h]
theorem samePs_ne {a b : List Page} {j : Nat} (ha : j < a.length) (hb : j < b.length) (e : sameP a[j] b[j] = false) : samePs a b = false := by
  have : (List.zipWith sameP a b).all id = false := by
    rw [List.all_eq_false]
    exact ⟨sameP a[j] b[j], List.mem_iff_getElem.2 ⟨j, by simp; omega, by simp⟩, by simp [e]⟩
  unfold samePs; rw [this]; simp
theorem samePs_yes {a b : List Page} (h : a.length = b.length) (e : ∀ j (ha : j < a.length) (hb : j < b.length), sameP a[j] b[j] = true) : samePs a b = true := by
  unfold samePs
  rw [Bool.and_eq_true, decide_eq_true_eq, List.all_eq_true]
  refine ⟨h, fun x hx => ?_⟩
  obtain ⟨j, hj, rfl⟩ := List.mem_iff_getElem.1 hx
  have hj2 := hj
  simp only [List.length_zipWith] at hj2
  simp [e j (by omega) (by omega)]
theorem eqPages_eq (hn : 5 ≤ n) (a b : List Page) (hl : a.length < 1099511627776) (ha : ∀ p ∈ a, p.Ok) (hb : ∀ p ∈ b, p.Ok) (sz sz' : Nat) (hz : a ≠ [] → sz = 10) (hz' : b ≠ [] → sz' = 10) (c c' : Bool) :
    C n 97 [.lst sz (a.map Page.av) c, .lst sz' (b.map Page.av) c', .fn (.func 98) [] []] h = some (.ret (.bool (samePs a b)), h) := by
  obtain ⟨m, rfl⟩ : ∃ m, n = m + 1 := ⟨n - 1, by omega⟩
  have fine : fnOk Tryz.prog 98 = true := by kernel_rfl
  refine fun_pure F97 rfl rfl rfl (pure_lst page_pure a (pure_lst page_pure b rfl)) ?_
  conv => whnf
  refine brq (fun q => ?_) (fun q => ?_)
  · conv => whnf
    refine retP rfl (frz_bool ?_)
    rw [samePs_len fun e => q (by simp [e])]
  have hlen : a.length = b.length := by simp at q; omega
  conv => whnf
  refine loopI (by decide) rfl (α := Nat × AHeap) (fun x => ⟨[(1, .lst sz' (b.map Page.av) c'), (2, .fn (.func 98) [] []), (15, .lst sz (a.map Page.av) c), (16, i64 a.length), (17, i64 x.1)], x.2, []⟩)
    (fun x => x.1 ≤ a.length ∧ ∀ j (hj : j < a.length) (hj' : j < b.length), j < x.1 → sameP a[j] b[j] = true) (fun x => a.length - x.1) (0, []) ⟨⟨rfl, rfl, rfl, lenI _ _, rfl⟩, rfl, rfl⟩ ⟨Nat.zero_le _, fun j _ _ q => absurd q (Nat.not_lt_zero _)⟩ (by show a.length - 0 < KK; simp only [KK]; omega) ?_
  rintro ⟨j, hp⟩ ⟨g1, g2⟩
  simp only at g1 g2
  conv => whnf
  refine brd (fun d => ?_) (fun d => ?_)
  · have hj : j < a.length := by simp only at d; omega
    have hj' : j < b.length := by omega
    have cS : ∀ h, C m 98 [.agg a[j].cells, .agg b[j].cells] h = some (.ret (.bool (sameP a[j] b[j])), h) := fun h => samePage_eq (by omega) a[j] b[j] (ha _ (List.getElem_mem hj)) (hb _ (List.getElem_mem hj'))
    conv => whnf
    refine ixL page_cells hj hz ?_
    conv => whnf
    refine stI (get_last _ _) (xs := a[j].cells) (by rfl) (by rfl) (by rfl) (by rfl) ?_
    conv => whnf
    refine ixL page_cells hj' hz' ?_
    conv => whnf
    refine stI (get_last _ _) (xs := b[j].cells) (by rfl) (by rfl) (by rfl) (by rfl) ?_
    conv => whnf
    refine ldI (get_two_l _ _ _ _ _) ?_
    conv => whnf
    refine ldI (get_set_last _ _ _) ?_
    conv => whnf
    refine cvI fine (cS _) ?_
    conv => whnf
    refine brn (fun e => ?_) (fun e => ?_)
    · conv => whnf
      exact retP rfl (frz_bool (samePs_ne hj hj' e).symm)
    · conv => whnf
      refine zI (z := ((j + 1 : Nat) : Int)) (by rw [wrap_i64 (by omega) (by omega)]; rfl) ?_
      refine nxI (j + 1, _) ⟨hj, fun i hi hi' hij => ?_⟩ (by simp only; omega) ⟨⟨rfl, rfl, rfl, rfl, rfl⟩, rfl, rfl⟩
      by_cases q : i = j
      · subst q; exact e
      · exact g2 i hi hi' (by simp only at hij; omega)
  · have hj : j = a.length := by simp only at d; omega
    subst hj
    conv => whnf
    refine cutI (by decide) rfl (t := ⟨[], hp, []⟩) ⟨trivial, rfl, rfl⟩ ?_
    conv => whnf
    exact retP rfl (frz_bool (samePs_yes hlen fun i hi hi' => g2 i hi hi' hi).symm)
end
end Go.Proofs
/- Contracts: the value of a chain. -/
set_option linter.unusedVariables false
set_option linter.unusedSimpArgs false
namespace Go.Proofs
open Go Go.Abs
def headV (l : List Page) : Int := match l with
  | [] => 0
  | p :: _ => p.ver
section
variable {n : Nat} {h : AHeap}
end
end Go.Proofs
/- The looked-up text of the functions. -/
namespace Go.Proofs
open Go Go.Abs
/- f11 understory/understoryref04.IsPage: 113 temporaries, depth 7, 1 parameters, results [t2] -/
/- f13 understory/understoryref04.Encode: 36 temporaries, depth 6, 1 parameters, results [*t2] -/
/- f15 understory/understoryref04.Decode: 25 temporaries, depth 5, 1 parameters, results [*t2] -/
/- f17 understory/understoryref04.Same: 71 temporaries, depth 7, 2 parameters, results [t4] -/
def c17 : RC :=
 (.seq (.ops [(oP 2 (.box 25 (.t 0))),
 (oP 3 (.box 25 (.t 1))),
 (oP 4 (.mv (.c (.bool false))))])
 (.seq (.seq (.ops [(oP 5 (.fieldAddr 0 (.t 2))),
 (oP 6 (.load false 1 (.t 5))),
 (oP 7 (.fieldAddr 0 (.t 3))),
 (oP 8 (.load false 1 (.t 7))),
 (oP 9 (.bin .neq (.t 6) (.t 8))),
 (mV 10 9),
 (oG 11 10 false (.fieldAddr 1 (.t 2))),
 (oG 12 10 false (.load false 1 (.t 11))),
 (oG 13 10 false (.fieldAddr 1 (.t 3))),
 (oG 14 10 false (.load false 1 (.t 13))),
 (oG 15 10 false (.bin .neq (.t 12) (.t 14))),
 (oP 16 (.pick (.t 10) (.c (.bool true)) (.t 15))),
 (mV 17 16),
 (oG 18 17 false (.fieldAddr 2 (.t 2))),
 (oG 19 17 false (.load false 1 (.t 18))),
 (oG 20 17 false (.fieldAddr 2 (.t 3))),
 (oG 21 17 false (.load false 1 (.t 20))),
 (oG 22 17 false (.bin .neq (.t 19) (.t 21))),
 (oP 23 (.pick (.t 17) (.c (.bool true)) (.t 22))),
 (mV 24 23),
 (oG 25 24 false (.fieldAddr 3 (.t 2))),
 (oG 26 24 false (.load false 1 (.t 25))),
 (oG 27 24 false (.fieldAddr 3 (.t 3))),
 (oG 28 24 false (.load false 1 (.t 27))),
 (oG 29 24 false (.bin .neq (.t 26) (.t 28))),
 (oP 30 (.pick (.t 24) (.c (.bool true)) (.t 29))),
 (mV 31 30),
 (oG 32 31 false (.fieldAddr 4 (.t 2))),
 (oG 33 31 false (.load false 1 (.t 32))),
 (oG 34 31 false (.fieldAddr 4 (.t 3))),
 (oG 35 31 false (.load false 1 (.t 34))),
 (oG 36 31 false (.bin .neq (.t 33) (.t 35))),
 (oP 37 (.pick (.t 31) (.c (.bool true)) (.t 36))),
 (mV 38 37),
 (oG 39 38 false (.fieldAddr 5 (.t 2))),
 (oG 40 38 false (.load false 1 (.t 39))),
 (oG 41 38 false (.fieldAddr 5 (.t 3))),
 (oG 42 38 false (.load false 1 (.t 41))),
 (oG 43 38 false (.cmp true 4 (.t 40) (.t 42))),
 (oP 44 (.pick (.t 38) (.c (.bool true)) (.t 43))),
 (mV 45 44),
 (oG 46 45 false (.fieldAddr 7 (.t 2))),
 (oG 47 45 false (.load false 1 (.t 46))),
 (oG 48 45 false (.fieldAddr 7 (.t 3))),
 (oG 49 45 false (.load false 1 (.t 48))),
 (oG 50 45 false (.bin .neq (.t 47) (.t 49))),
 (oP 51 (.pick (.t 45) (.c (.bool true)) (.t 50))),
 (mV 52 51),
 (oG 53 52 false (.fieldAddr 8 (.t 2))),
 (oG 54 52 false (.load false 1 (.t 53))),
 (oG 55 52 false (.fieldAddr 8 (.t 3))),
 (oG 56 52 false (.load false 1 (.t 55))),
 (oG 57 52 false (.bin .neq (.t 54) (.t 56))),
 (oP 58 (.pick (.t 52) (.c (.bool true)) (.t 57)))])
 (.cond (.t 58)
 (.seq (.ops [(oP 4 (.mv (.c (.bool false))))])
 .ret)
 .skip))
 (.seq (.ops [(oP 59 (.fieldAddr 6 (.t 2))),
 (oP 60 (.load false 1 (.t 59))),
 (oP 61 (.fieldAddr 6 (.t 3))),
 (oP 62 (.load false 1 (.t 61))),
 (oP 63 (.callF 77 [(.t 60), (.t 62)])),
 (mV 64 63),
 (oG 65 64 true (.fieldAddr 9 (.t 2))),
 (oG 66 64 true (.load false 1 (.t 65))),
 (oG 67 64 true (.fieldAddr 9 (.t 3))),
 (oG 68 64 true (.load false 1 (.t 67))),
 (oG 69 64 true (.callF 44 [(.t 66), (.t 68)])),
 (oP 70 (.pick (.t 64) (.t 69) (.c (.bool false)))),
 (mV 4 70)])
 .ret)))
theorem F17 : FI 17 2 71 7 [.tmp 4] c17 := ⟨⟨Tryz.f17, Tryz.func17, by kernel_rfl, by kernel_rfl, by kernel_rfl⟩, by kernel_rfl, by decide, by kernel_rfl⟩
/- f44 understory/understoryref04.SameFreed: 42 temporaries, depth 6, 2 parameters, results [t4] -/
def c44 : RC :=
 (.seq (.ops [(oP 4 (.mv (.c (.bool false))))])
 (.seq (.seq (.ops [(mV 6 0),
 (oP 7 (.lenL (.t 6))),
 (mV 8 1),
 (oP 9 (.lenL (.t 8))),
 (oP 10 (.bin .neq (.t 7) (.t 9)))])
 (.cond (.t 10)
 (.seq (.ops [(oP 4 (.mv (.c (.bool false))))])
 .ret)
 .skip))
 (.seq (.seq (.ops [(oP 5 (.mv (.c (.int .i64 0))))])
 (.block 0
 (.loop
 (.seq (.seq (.ops [(mV 11 5),
 (mV 12 0),
 (oP 13 (.lenL (.t 12))),
 (oP 14 (.bin .lss (.t 11) (.t 13)))])
 (.cond (.t 14)
 .skip
 (.exit 0)))
 (.seq (.block 1
 (.seq (.draw [((mV 17 0), 0),
 ((mV 18 5), 0),
 ((oP 19 (.indexAddrL 2 (.t 17) (.t 18))), 0),
 ((oP 20 (.fieldAddr 0 (.t 19))), 0),
 ((oP 21 (.load false 1 (.t 20))), 1),
 ((mV 22 1), 0),
 ((mV 23 5), 0),
 ((oP 24 (.indexAddrL 2 (.t 22) (.t 23))), 0),
 ((oP 25 (.fieldAddr 0 (.t 24))), 0),
 ((oP 26 (.load false 1 (.t 25))), 1),
 ((oP 27 (.bin .neq (.t 21) (.t 26))), 0),
 ((mV 28 27), 0),
 ((oG 29 28 false (.mv (.t 0))), 0),
 ((oG 30 28 false (.mv (.t 5))), 0),
 ((oG 31 28 false (.indexAddrL 2 (.t 29) (.t 30))), 0),
 ((oG 32 28 false (.fieldAddr 1 (.t 31))), 0),
 ((oG 33 28 false (.load false 1 (.t 32))), 1),
 ((oG 34 28 false (.mv (.t 1))), 0),
 ((oG 35 28 false (.mv (.t 5))), 0),
 ((oG 36 28 false (.indexAddrL 2 (.t 34) (.t 35))), 0),
 ((oG 37 28 false (.fieldAddr 1 (.t 36))), 0),
 ((oG 38 28 false (.load false 1 (.t 37))), 1),
 ((oG 39 28 false (.callF 103 [(.t 33), (.t 38)])), 0),
 ((oG 40 28 false (.un .not (.t 39))), 0),
 ((oP 41 (.pick (.t 28) (.c (.bool true)) (.t 40))), 0)])
 (.cond (.t 41)
 (.seq (.ops [(oP 4 (.mv (.c (.bool false))))])
 .ret)
 .skip)))
 (.ops [(mV 15 5),
 (oP 16 (.bin .add (.t 15) (.c (.int .i64 1)))),
 (mV 5 16)]))))))
 (.cut (.seq (.ops [(oP 4 (.mv (.c (.bool true))))])
 .ret)))))
theorem F44 : FI 44 2 42 6 [.tmp 4] c44 := ⟨⟨Tryz.f44, Tryz.func44, by kernel_rfl, by kernel_rfl, by kernel_rfl⟩, by kernel_rfl, by decide, by kernel_rfl⟩
/- f50 understory/understoryref04.isPage: 9 temporaries, depth 4, 1 parameters, results [t2] -/
def c50 : RC :=
 (.seq (.ops [(oP 2 (.mv (.c (.bool false))))])
 (.seq (.ops [(mV 3 0),
 (oP 4 (.bin .geq (.t 3) (.c (.int .i64 2)))),
 (mV 5 4),
 (oG 6 5 true (.mv (.t 0))),
 (oG 7 5 true (.bin .lss (.t 6) (.c (.int .i64 4096)))),
 (oP 8 (.pick (.t 5) (.t 7) (.c (.bool false)))),
 (mV 2 8)])
 .ret))
theorem F50 : FI 50 1 9 4 [.tmp 2] c50 := ⟨⟨Tryz.f50, Tryz.func50, by kernel_rfl, by kernel_rfl, by kernel_rfl⟩, by kernel_rfl, by decide, by kernel_rfl⟩
/- f51 understory/understoryref04.plain: 62 temporaries, depth 6, 1 parameters, results [t2] -/
/- f52 understory/understoryref04.Fits: 15 temporaries, depth 5, 2 parameters, results [t4] -/
/- f53 understory/understoryref04.freed: 77 temporaries, depth 7, 1 parameters, results [t2] -/
def c53 : RC :=
 (.seq (.ops [(oP 2 (.mv (.c (.bool false))))])
 (.seq (.seq (.ops [(oP 3 (.mv (.c (.int .i64 0))))])
 (.block 0
 (.loop
 (.seq (.seq (.ops [(mV 6 3),
 (mV 7 0),
 (oP 8 (.lenL (.t 7))),
 (oP 9 (.bin .lss (.t 6) (.t 8)))])
 (.cond (.t 9)
 .skip
 (.exit 0)))
 (.seq (.block 1
 (.seq (.ops [(mV 12 0),
 (mV 13 3),
 (oP 14 (.indexAddrL 2 (.t 12) (.t 13))),
 (oP 15 (.load true 2 (.t 14))),
 (oP 4 (.alloc 165 [(.int .i64 0), (.lst 0 [] true)])),
 (oU (.store 2 (.t 4) (.t 15)))])
 (.seq (.seq (.draw [((oP 16 (.fieldAddr 0 (.t 4))), 0),
 ((oP 17 (.load false 1 (.t 16))), 1),
 ((oP 18 (.bin .lss (.t 17) (.c (.int .i64 0)))), 0),
 ((mV 19 18), 0),
 ((oG 20 19 false (.fieldAddr 0 (.t 4))), 0),
 ((oG 21 19 false (.load false 1 (.t 20))), 1),
 ((oG 22 19 false (.bin .gtr (.t 21) (.c (.int .i64 1099511627776)))), 0),
 ((oP 23 (.pick (.t 19) (.c (.bool true)) (.t 22))), 0),
 ((mV 24 23), 0),
 ((oG 25 24 false (.mv (.t 3))), 0),
 ((oG 26 24 false (.bin .gtr (.t 25) (.c (.int .i64 0)))), 0),
 ((oG 27 24 false (.mv (.t 26))), 0),
 ((oG 28 27 true (.fieldAddr 0 (.t 4))), 0),
 ((oG 29 27 true (.load false 1 (.t 28))), 1),
 ((oG 30 27 true (.mv (.t 0))), 0),
 ((oG 31 27 true (.mv (.t 3))), 0),
 ((oG 32 27 true (.bin .sub (.t 31) (.c (.int .i64 1)))), 0),
 ((oG 33 27 true (.indexAddrL 2 (.t 30) (.t 32))), 0),
 ((oG 34 27 true (.fieldAddr 0 (.t 33))), 0),
 ((oG 35 27 true (.load false 1 (.t 34))), 1),
 ((oG 36 27 true (.bin .leq (.t 29) (.t 35))), 0),
 ((oG 37 24 false (.pick (.t 27) (.t 36) (.c (.bool false)))), 0),
 ((oP 38 (.pick (.t 24) (.c (.bool true)) (.t 37))), 0),
 ((mV 39 38), 0),
 ((oG 40 39 false (.fieldAddr 1 (.t 4))), 0),
 ((oG 41 39 false (.load false 1 (.t 40))), 1),
 ((oG 42 39 false (.lenL (.t 41))), 0),
 ((oG 43 39 false (.bin .eql (.t 42) (.c (.int .i64 0)))), 0),
 ((oP 44 (.pick (.t 39) (.c (.bool true)) (.t 43))), 0)])
 (.cond (.t 44)
 (.seq (.ops [(oP 2 (.mv (.c (.bool false))))])
 .ret)
 .skip))
 (.seq (.ops [(oP 5 (.mv (.c (.int .i64 0))))])
 (.block 2
 (.loop
 (.seq (.seq (.ops [(mV 45 5),
 (oP 46 (.fieldAddr 1 (.t 4))),
 (oP 47 (.load false 1 (.t 46))),
 (oP 48 (.lenL (.t 47))),
 (oP 49 (.bin .lss (.t 45) (.t 48)))])
 (.cond (.t 49)
 .skip
 (.exit 2)))
 (.seq (.block 3
 (.seq (.draw [((oP 52 (.fieldAddr 1 (.t 4))), 0),
 ((oP 53 (.load false 1 (.t 52))), 1),
 ((mV 54 5), 0),
 ((oP 55 (.indexAddrL 1 (.t 53) (.t 54))), 0),
 ((oP 56 (.load false 1 (.t 55))), 1),
 ((oP 57 (.callF 50 [(.t 56)])), 0),
 ((oP 58 (.un .not (.t 57))), 0),
 ((mV 59 58), 0),
 ((oG 60 59 false (.mv (.t 5))), 0),
 ((oG 61 59 false (.bin .gtr (.t 60) (.c (.int .i64 0)))), 0),
 ((oG 62 59 false (.mv (.t 61))), 0),
 ((oG 63 62 true (.fieldAddr 1 (.t 4))), 0),
 ((oG 64 62 true (.load false 1 (.t 63))), 1),
 ((oG 65 62 true (.mv (.t 5))), 0),
 ((oG 66 62 true (.indexAddrL 1 (.t 64) (.t 65))), 0),
 ((oG 67 62 true (.load false 1 (.t 66))), 1),
 ((oG 68 62 true (.fieldAddr 1 (.t 4))), 0),
 ((oG 69 62 true (.load false 1 (.t 68))), 1),
 ((oG 70 62 true (.mv (.t 5))), 0),
 ((oG 71 62 true (.bin .sub (.t 70) (.c (.int .i64 1)))), 0),
 ((oG 72 62 true (.indexAddrL 1 (.t 69) (.t 71))), 0),
 ((oG 73 62 true (.load false 1 (.t 72))), 1),
 ((oG 74 62 true (.bin .leq (.t 67) (.t 73))), 0),
 ((oG 75 59 false (.pick (.t 62) (.t 74) (.c (.bool false)))), 0),
 ((oP 76 (.pick (.t 59) (.c (.bool true)) (.t 75))), 0)])
 (.cond (.t 76)
 (.seq (.ops [(oP 2 (.mv (.c (.bool false))))])
 .ret)
 .skip)))
 (.ops [(mV 50 5),
 (oP 51 (.bin .add (.t 50) (.c (.int .i64 1)))),
 (mV 5 51)])))))))))
 (.cut (.ops [(mV 10 3),
 (oP 11 (.bin .add (.t 10) (.c (.int .i64 1)))),
 (mV 3 11)])))))))
 (.cut (.seq (.ops [(oP 2 (.mv (.c (.bool true))))])
 .ret))))
theorem F53 : FI 53 1 77 7 [.tmp 2] c53 := ⟨⟨Tryz.f53, Tryz.func53, by kernel_rfl, by kernel_rfl, by kernel_rfl⟩, by kernel_rfl, by decide, by kernel_rfl⟩
/- f54 understory/understoryref04.words: 21 temporaries, depth 5, 1 parameters, results [t2] -/
/- f55 understory/understoryref04.list: 53 temporaries, depth 6, 1 parameters, results [t2] -/
/- f64 understory/understoryref04.Number: 25 temporaries, depth 5, 2 parameters, results [t4] -/
/- f65 understory/understoryref04.body: 60 temporaries, depth 6, 1 parameters, results [t2] -/
/- f66 understory/understoryref04.Crc: 8 temporaries, depth 4, 1 parameters, results [t2] -/
/- f69 understory/understoryref04.read: 135 temporaries, depth 8, 1 parameters, results [*t2] -/
/- f77 understory/understoryref04.SameEntries: 26 temporaries, depth 5, 2 parameters, results [t4] -/
def c77 : RC :=
 (.seq (.ops [(oP 4 (.mv (.c (.bool false))))])
 (.seq (.seq (.ops [(mV 6 0),
 (oP 7 (.lenL (.t 6))),
 (mV 8 1),
 (oP 9 (.lenL (.t 8))),
 (oP 10 (.bin .neq (.t 7) (.t 9)))])
 (.cond (.t 10)
 (.seq (.ops [(oP 4 (.mv (.c (.bool false))))])
 .ret)
 .skip))
 (.seq (.seq (.ops [(oP 5 (.mv (.c (.int .i64 0))))])
 (.block 0
 (.loop
 (.seq (.seq (.ops [(mV 11 5),
 (mV 12 0),
 (oP 13 (.lenL (.t 12))),
 (oP 14 (.bin .lss (.t 11) (.t 13)))])
 (.cond (.t 14)
 .skip
 (.exit 0)))
 (.seq (.block 1
 (.seq (.draw [((mV 17 0), 0),
 ((mV 18 5), 0),
 ((oP 19 (.indexAddrL 22 (.t 17) (.t 18))), 0),
 ((oP 20 (.load true 22 (.t 19))), 1),
 ((mV 21 1), 0),
 ((mV 22 5), 0),
 ((oP 23 (.indexAddrL 22 (.t 21) (.t 22))), 0),
 ((oP 24 (.load true 22 (.t 23))), 1),
 ((oP 25 (.cmp true 56 (.t 20) (.t 24))), 0)])
 (.cond (.t 25)
 (.seq (.ops [(oP 4 (.mv (.c (.bool false))))])
 .ret)
 .skip)))
 (.ops [(mV 15 5),
 (oP 16 (.bin .add (.t 15) (.c (.int .i64 1)))),
 (mV 5 16)]))))))
 (.cut (.seq (.ops [(oP 4 (.mv (.c (.bool true))))])
 .ret)))))
theorem F77 : FI 77 2 26 5 [.tmp 4] c77 := ⟨⟨Tryz.f77, Tryz.func77, by kernel_rfl, by kernel_rfl, by kernel_rfl⟩, by kernel_rfl, by decide, by kernel_rfl⟩
/- f79 understory/understoryref04.number: 19 temporaries, depth 5, 1 parameters, results [t2] -/
/- f103 understory/understoryref04.SameInts: 26 temporaries, depth 5, 2 parameters, results [t4] -/
def c103 : RC :=
 (.seq (.ops [(oP 4 (.mv (.c (.bool false))))])
 (.seq (.seq (.ops [(mV 6 0),
 (oP 7 (.lenL (.t 6))),
 (mV 8 1),
 (oP 9 (.lenL (.t 8))),
 (oP 10 (.bin .neq (.t 7) (.t 9)))])
 (.cond (.t 10)
 (.seq (.ops [(oP 4 (.mv (.c (.bool false))))])
 .ret)
 .skip))
 (.seq (.seq (.ops [(oP 5 (.mv (.c (.int .i64 0))))])
 (.block 0
 (.loop
 (.seq (.seq (.ops [(mV 11 5),
 (mV 12 0),
 (oP 13 (.lenL (.t 12))),
 (oP 14 (.bin .lss (.t 11) (.t 13)))])
 (.cond (.t 14)
 .skip
 (.exit 0)))
 (.seq (.block 1
 (.seq (.draw [((mV 17 0), 0),
 ((mV 18 5), 0),
 ((oP 19 (.indexAddrL 1 (.t 17) (.t 18))), 0),
 ((oP 20 (.load false 1 (.t 19))), 1),
 ((mV 21 1), 0),
 ((mV 22 5), 0),
 ((oP 23 (.indexAddrL 1 (.t 21) (.t 22))), 0),
 ((oP 24 (.load false 1 (.t 23))), 1),
 ((oP 25 (.bin .neq (.t 20) (.t 24))), 0)])
 (.cond (.t 25)
 (.seq (.ops [(oP 4 (.mv (.c (.bool false))))])
 .ret)
 .skip)))
 (.ops [(mV 15 5),
 (oP 16 (.bin .add (.t 15) (.c (.int .i64 1)))),
 (mV 5 16)]))))))
 (.cut (.seq (.ops [(oP 4 (.mv (.c (.bool true))))])
 .ret)))))
theorem F103 : FI 103 2 26 5 [.tmp 4] c103 := ⟨⟨Tryz.f103, Tryz.func103, by kernel_rfl, by kernel_rfl, by kernel_rfl⟩, by kernel_rfl, by decide, by kernel_rfl⟩
/- f106 understory/understoryref04.Valid: 105 temporaries, depth 7, 2 parameters, results [t4] -/
/- f107 understory/understoryref04.Weight: 72 temporaries, depth 7, 2 parameters, results [*t4] -/
/- f113 understory/understoryref04.flag: 4 temporaries, depth 3, 1 parameters, results [t2] -/
/- f114 understory/understoryref04.Prefix: 56 temporaries, depth 6, 2 parameters, results [t4] -/
/- f115 understory/understoryref04.entries: 59 temporaries, depth 6, 3 parameters, results [t6] -/
/- f116 understory/understoryref04.reversed: 26 temporaries, depth 5, 1 parameters, results [t2] -/
/- f117 understory/understoryref02.CRC: 5 temporaries, depth 3, 1 parameters, results [t2] -/
/- f120 (*understory/understoryref04.reader).num: 9 temporaries, depth 4, 2 parameters, results [t4] -/
/- f121 (*understory/understoryref04.reader).take: 42 temporaries, depth 6, 2 parameters, results [t4] -/
/- f122 (*understory/understoryref04.reader).entry: 69 temporaries, depth 7, 4 parameters, results [*t8] -/
/- f141 understory/understoryref04.leafEntry: 85 temporaries, depth 7, 1 parameters, results [t2] -/
/- f142 understory/understoryref04.branchEntry: 26 temporaries, depth 5, 1 parameters, results [t2] -/
/- f143 understory/understoryref04.rest: 57 temporaries, depth 6, 2 parameters, results [t4] -/
/- f150 understory/understoryref04.suffix: 23 temporaries, depth 5, 3 parameters, results [t6] -/
/- f151 understory/understoryref02.Extend: 30 temporaries, depth 5, 2 parameters, results [t4] -/
/- f153 (*understory/understoryref04.reader).digest: 20 temporaries, depth 5, 1 parameters, results [*t2] -/
/- f165 understory/understoryref04.count: 9 temporaries, depth 4, 1 parameters, results [t2] -/
/- f166 understory/understoryref04.sum: 5 temporaries, depth 3, 1 parameters, results [t2] -/
/- f169 understory/understoryref02.step: 11 temporaries, depth 4, 1 parameters, results [t2] -/
end Go.Proofs
/- Contracts: the reference's entries. -/
set_option linter.unusedVariables false
set_option linter.unusedSimpArgs false
namespace Go.Proofs
open Go Go.Abs
section
variable {n : Nat} {h : AHeap}
theorem isPage_eq (hn : 1 ≤ n) (k : Int) : C n 50 [i64 k] h = some (.ret (.bool (numbered k)), h) := by
  obtain ⟨m, rfl⟩ : ∃ m, n = m + 1 := ⟨n - 1, by omega⟩
  refine fun_pure F50 rfl rfl rfl rfl ?_
  repeat' (conv => whnf); first
    | refine retP rfl (frz_bool ?_)
    | refine brd (fun _ => ?_) (fun _ => ?_)
    | refine bre (fun _ => ?_) (fun _ => ?_)
    | refine brq (fun _ => ?_) (fun _ => ?_)
    | refine brn (fun _ => ?_) (fun _ => ?_)
    | refine br (fun _ => ?_) (fun _ => ?_)
    | refine ldI (by rfl) ?_
    | refine ldI (get_set_last _ _ _) ?_
    | refine ldI (get_last _ _) ?_
    | refine stI (by rfl) (by rfl) (by rfl) (by rfl) (by rfl) ?_
    | refine stI (get_last _ _) (by rfl) (by rfl) (by rfl) (by rfl) ?_
    | refine cutS (by decide) rfl ?_
  all_goals simp_all [numbered, within]
  all_goals omega
end
end Go.Proofs
/- The reference's reader, in plain Lean. -/
set_option linter.unusedVariables false
set_option linter.unusedSimpArgs false
namespace Go.Proofs
open Go Go.Abs
/-! Where the parser reads, the reference reads the same. -/
end Go.Proofs
/- Plain facts for the reference: what it encodes, what is no block of a page. -/
set_option linter.unusedVariables false
set_option linter.unusedSimpArgs false
namespace Go.Proofs
open Go Go.Abs
end Go.Proofs
/- The checksum finds bytes that are changed within four positions. -/
set_option linter.unusedVariables false
set_option linter.unusedSimpArgs false
namespace Go.Proofs
open Go Go.Abs
/-- Bytes as a number, the least significant one first. -/
def le : Str → UInt32
  | [] => 0
  | b :: r => b.toUInt32 ^^^ (le r <<< 8)
end Go.Proofs
/- Contracts: the reference's numbers, checksum, entries. -/
set_option linter.unusedVariables false
set_option linter.unusedSimpArgs false
namespace Go.Proofs
open Go Go.Abs
section
variable {n : Nat} {h : AHeap}
end
end Go.Proofs
/- Contracts: the reference's entries: their validity and bytes. -/
set_option linter.unusedVariables false
set_option linter.unusedSimpArgs false
namespace Go.Proofs
open Go Go.Abs
section
variable {n : Nat} {h : AHeap}
end
end Go.Proofs
/- Orders of keys; equal entries (as in Fd, for the seats without PageSearch). -/
set_option linter.unusedVariables false
set_option linter.unusedSimpArgs false
namespace Go.Proofs
open Go Go.Abs
end Go.Proofs
/- Contracts: the reference's validity of entries, and their shared prefix. -/
set_option linter.unusedVariables false
set_option linter.unusedSimpArgs false
namespace Go.Proofs
open Go Go.Abs
section
variable {n : Nat} {h : AHeap}
end
end Go.Proofs
/- Contracts: the reference's shared prefix and suffixes. -/
set_option linter.unusedVariables false
set_option linter.unusedSimpArgs false
namespace Go.Proofs
open Go Go.Abs
section
variable {n : Nat} {h : AHeap}
end
end Go.Proofs
/- Contracts: the reference's bytes of entries, weights. -/
set_option linter.unusedVariables false
set_option linter.unusedSimpArgs false
namespace Go.Proofs
open Go Go.Abs
theorem cell_res {L : LT} {h : AHeap} {k b t N f : Nat} {el : Option TypeId} {cs : List AV} (hk : lk L k = some (.ptr b 0 0)) (ht : (ti Tryz.prog t).map (fun d => (isAggD d.desc, d.size)) = some (true, N)) (hN : cs.length = N) (hb : h[b]? = some (.cells 0 el cs f)) : resAL Tryz.prog L h [.cell k t] = some [.agg cs] := by
  simp only [resAL, hk, load_agg ht hN hb]
section
variable {n : Nat} {h : AHeap}
end
end Go.Proofs
/- Contracts: the reference's pieces, its numbers of pages. -/
set_option linter.unusedVariables false
set_option linter.unusedSimpArgs false
namespace Go.Proofs
open Go Go.Abs
/-- A slice that grows, held by a variable, behind the first blocks of memory. -/
def WBuf (lo : Nat) (el : TypeId) (sz : Nat) (hp : AHeap) (L : AV) (rows : List (List AV)) : Prop := VBuf el sz hp L rows ∧ ∀ eb ver, L = .sl sz eb ver 0 rows.length → lo ≤ eb
theorem WBuf.nil {lo el sz : Nat} {hp : AHeap} : WBuf lo el sz hp (.lst 0 [] true) [] := ⟨VBuf.nil, fun _ _ e => by cases e⟩
theorem wbuf_app {lo el sz : Nat} {hp : AHeap} {L x : AV} {rows : List (List AV)} {row : List AV} (hB : WBuf lo el sz hp L rows) (hlo : lo ≤ hp.length) (h1 : lenA x = some 1) (h2 : firstA hp sz 1 x = some row) (hr : row.length = sz ∧ row.all AV.scal = true) (hl : rows.length + 1 ≤ 1073741824) :
    ∃ v hp', appR hp el sz L x = some (v, some hp') ∧ WBuf lo el sz hp' v (rows ++ [row]) ∧ (∀ k, k < lo → hp'[k]? = hp[k]?) ∧ hp.length ≤ hp'.length := by
  have hrows : ∀ r ∈ rows ++ [row], r.length = sz ∧ r.all AV.scal = true := by
    intro r hm
    simp at hm
    rcases hm with hm | rfl
    · exact hB.1.1 r hm
    · exact hr
  unfold appR
  rw [h1]
  simp only
  rw [h2]
  simp only [hr.2, Bool.not_true, Bool.false_eq_true, if_false]
  rcases hB with ⟨⟨hB1, ⟨rfl, rfl⟩ | ⟨bb, ver, frz, rfl, g1, g3⟩⟩, hlo2⟩
  · simp only
    rw [if_neg (by decide)]
    have h3 : firstA hp sz ([] : List AV).length (.lst 0 [] true) = some [] := by
      unfold firstA
      simp
    rw [h3]
    simp only [List.length_nil, Nat.zero_add]
    rw [if_pos ⟨by decide, rfl⟩]
    refine ⟨_, _, rfl, ⟨⟨hrows, .inr ⟨hp.length, 0, 0, rfl, by simp, Nat.zero_le _⟩⟩, fun eb ver e => ?_⟩, fun k hk => ?_, by simp⟩
    · cases e; exact hlo
    · rw [List.getElem?_append_left (by omega)]
  · have hf := flatten_len hB1
    simp only
    rw [g1]
    simp only
    rw [if_pos ⟨.inl trivial, trivial, trivial, trivial, hf.1.symm, hf.2, hl, g3⟩, if_neg (by decide)]
    have hb := hlo2 bb ver rfl
    refine ⟨_, _, rfl, ⟨⟨hrows, .inr ⟨bb, ver + 1, frz, by simp, ?_, by rw [List.flatten_append, List.length_append]; omega⟩⟩, fun eb ver e => ?_⟩, fun k hk => ?_, by simp⟩
    · rw [List.getElem?_set_self (lt_of_get g1)]; simp
    · have := (AV.sl.inj e).2.1; omega
    · rw [List.getElem?_set_ne (by omega)]
theorem WBuf.sl {lo el sz : Nat} {hp : AHeap} {L : AV} {rows : List (List AV)} (b : WBuf lo el sz hp L rows) (hne : rows ≠ []) : ∃ eb ver, L = .sl sz eb ver 0 rows.length := by
  rcases b.1.2 with ⟨_, h⟩ | ⟨eb, ver, frz, h1, _⟩
  · exact (hne h).elim
  · exact ⟨eb, ver, h1⟩
theorem WBuf.fresh {lo el sz : Nat} {hp : AHeap} {L : AV} {rows : List (List AV)} (b : WBuf lo el sz hp L rows) {k : Nat} (x : AB) (hk : hp.length ≤ k) (xs : AHeap) : WBuf lo el sz ((hp ++ xs).set k x) L rows := ⟨b.1.fresh x hk xs, b.2⟩
theorem WBuf.low {lo el sz : Nat} {hp : AHeap} {L : AV} {rows : List (List AV)} (b : WBuf lo el sz hp L rows) {k : Nat} (x : AB) (hk : k < lo) : WBuf lo el sz (hp.set k x) L rows := by
  refine ⟨⟨b.1.1, ?_⟩, b.2⟩
  rcases b.1.2 with h | ⟨eb, ver, frz, h1, h2, h3⟩
  · exact .inl h
  · refine .inr ⟨eb, ver, frz, h1, ?_, h3⟩
    have := b.2 eb ver h1
    rw [List.getElem?_set_ne (by omega)]; exact h2
theorem frz_agg2 {h : AHeap} {n : Nat} {a b a' b' : AV} (h1 : Abs.frz h n a = some a') (h2 : Abs.frz h n b = some b') : Abs.frz h (n + 1) (.agg [a, b]) = some (.agg [a', b']) := by
  have h3 : allM (Abs.frz h n) [a, b] = some [a', b'] := by
    unfold allM allM
    rw [h1, h2]
    rfl
  unfold Abs.frz
  simp only
  rw [h3]
  rfl
section
variable {n : Nat} {h : AHeap}
theorem refNumbered_eq (hn : 2 ≤ n) (l : List Int) (hl : l.length < 1099511627776) (sz : Nat) (hz : l ≠ [] → sz = 1) (c : Bool) (v : Int) : C n 94 [.lst sz (l.map i64) c, i64 v] h = some (.ret (.bool (numsOk l v)), h) := by
  obtain ⟨m, rfl⟩ : ∃ m, n = m + 1 := ⟨n - 1, by omega⟩
  have cP : ∀ (k : Int) h, C m 50 [i64 k] h = some (.ret (.bool (numbered k)), h) := fun k h => isPage_eq (by omega) k
  refine fun_pure F94 rfl rfl rfl (ints_pure l rfl) ?_
  conv => whnf
  refine loopI (by decide) rfl (α := Nat) (fun x => ⟨[(0, .lst sz (l.map i64) c), (1, i64 v), (5, i64 x)], [], []⟩)
    (fun x => x ≤ l.length ∧ (∀ i (hi : i < l.length), i < x → numbered l[i] = true) ∧ ∀ i k (hi : i < l.length) (hk : k < i), i < x → l[k] ≠ l[i]) (fun x => l.length - x) 0 ⟨⟨rfl, rfl, rfl⟩, rfl, rfl⟩ ⟨Nat.zero_le _, fun i _ hi => absurd hi (Nat.not_lt_zero _), fun i _ _ _ hi => absurd hi (Nat.not_lt_zero _)⟩ (by show l.length - 0 < KK; simp only [KK]; omega) ?_
  rintro j ⟨g1, g2, g3⟩
  conv => whnf
  refine brd (fun a => ?_) (fun a => ?_)
  · have hj : j < l.length := by simp only [List.length_map] at a; omega
    have hne : l ≠ [] := by rintro rfl; simp at hj
    conv => whnf
    refine ⟨by omega, hz hne, i64 l[j], by simp [hj], [i64 l[j]], rfl, ?_⟩
    conv => whnf
    refine clI (cP l[j] _) ?_
    conv => whnf
    refine brn (fun d => ?_) (fun d => ?_)
    · conv => whnf
      refine retP rfl (frz_bool ?_)
      have h1 : l.all numbered = false := by
        rw [List.all_eq_false]
        exact ⟨l[j], List.getElem_mem hj, by simp [d]⟩
      simp [numsOk, h1]
    · conv => whnf
      refine loopI (by decide) rfl (α := Nat) (fun x => ⟨[(0, .lst sz (l.map i64) c), (1, i64 v), (5, i64 j), (6, i64 x)], [], []⟩)
        (fun x => x ≤ j ∧ ∀ k (hk : k < j), k < x → l[k] ≠ l[j]) (fun x => j - x) 0 ⟨⟨rfl, rfl, rfl, rfl⟩, rfl, rfl⟩ ⟨Nat.zero_le _, fun k _ hk => absurd hk (Nat.not_lt_zero _)⟩ (by show j - 0 < KK; simp only [KK]; omega) ?_
      rintro k ⟨f1, f2⟩
      conv => whnf
      refine brd (fun b => ?_) (fun b => ?_)
      · have hk : k < j := by omega
        have hk2 : k < l.length := by omega
        conv => whnf
        refine ⟨by omega, hz hne, i64 l[k], by simp [hk2], [i64 l[k]], rfl, ?_⟩
        conv => whnf
        refine ⟨by omega, hz hne, i64 l[j], by simp [hj], [i64 l[j]], rfl, ?_⟩
        conv => whnf
        refine bre (fun e => ?_) (fun e => ?_)
        · conv => whnf
          refine retP rfl (frz_bool ?_)
          have h1 : ¬ l.Nodup := fun q => (nodup_front l).1 q j k hj hk e
          simp [numsOk, h1]
        · conv => whnf
          refine zI (z := ((k + 1 : Nat) : Int)) (by rw [wrap_i64 (by omega) (by omega)]; rfl) ?_
          refine nxI (k + 1) ⟨hk, fun i hi hik => ?_⟩ (by omega) ⟨⟨rfl, rfl, rfl, rfl⟩, rfl, rfl⟩
          by_cases q : i = k
          · subst q; exact e
          · exact f2 i hi (by omega)
      · have hk : k = j := by omega
        subst hk
        conv => whnf
        refine cutI (by decide) rfl (t := ⟨[(0, .lst sz (l.map i64) c), (1, i64 v), (5, i64 k)], [], []⟩) ⟨⟨rfl, rfl, rfl⟩, rfl, rfl⟩ ?_
        conv => whnf
        refine zI (z := ((k + 1 : Nat) : Int)) (by rw [wrap_i64 (by omega) (by omega)]; rfl) ?_
        refine nxI (k + 1) ⟨hj, fun i hi hik => ?_, fun i k' hi hk' hik => ?_⟩ (by omega) ⟨⟨rfl, rfl, rfl⟩, rfl, rfl⟩
        · by_cases q : i = k
          · subst q; exact d
          · exact g2 i hi (by omega)
        · by_cases q : i = k
          · subst q; exact f2 k' hk' hk'
          · exact g3 i k' hi hk' (by omega)
  · have hj : j = l.length := by simp only [List.length_map] at a; omega
    subst hj
    have h1 : l.Nodup := (nodup_front l).2 fun i k hi hk => g3 i k hi hk hi
    have h2 : l.all numbered = true := by
      rw [List.all_eq_true]
      intro x hx
      obtain ⟨i, hi, rfl⟩ := List.mem_iff_getElem.1 hx
      exact g2 i hi hi
    conv => whnf
    refine cutI (by decide) rfl (t := ⟨[(1, i64 v)], [], []⟩) ⟨rfl, rfl, rfl⟩ ?_
    conv => whnf
    refine brd (fun b => ?_) (fun b => ?_)
    · conv => whnf
      refine retP rfl (frz_bool ?_)
      simp [numsOk, h1, h2, within, b]
    · conv => whnf
      refine retP rfl (frz_bool ?_)
      simp [numsOk, h1, h2, within, b]
end
end Go.Proofs
/- Lists of freed pages in memory, each with numbers of its own. -/
set_option linter.unusedVariables false
set_option linter.unusedSimpArgs false
namespace Go.Proofs
open Go Go.Abs
/-- A version, its numbers, and the slice that holds them. -/
abbrev FQ : Type := Int × List Int × AV
def rowQ (t : FQ) : List AV := [i64 t.1, t.2.2]
def blkQ : AV → Option Nat
  | .sl _ b _ _ _ => some b
  | _ => none
/-- A slice of numbers in memory, or one that has none. -/
def NQ0 (hp : AHeap) (ps : List Int) (P : AV) : Prop := ((P = .lst 0 [] true ∨ P = .lst 1 [] true) ∧ ps = []) ∨ ∃ b ver frz, P = .sl 1 b ver 0 ps.length ∧ hp[b]? = some (.cells ver (some 3) (ps.map i64) frz) ∧ frz ≤ ps.length
/-- .. or (where kc says so) one that stands in no memory. -/
def NQ (kc : Bool) (hp : AHeap) (ps : List Int) (P : AV) : Prop := NQ0 hp ps P ∨ (kc = true ∧ ∃ z c, P = .lst z (ps.map i64) c ∧ (ps ≠ [] → z = 1))
theorem NQ.scal {kc : Bool} {hp : AHeap} {ps : List Int} {P : AV} (q : NQ kc hp ps P) : P.scal = true ∧ P.cells? = some [P] := by
  rcases q with (⟨rfl | rfl, _⟩ | ⟨b, ver, frz, rfl, _⟩) | ⟨_, z, c, rfl, _⟩ <;> exact ⟨rfl, rfl⟩
theorem NQ.lt {kc : Bool} {hp : AHeap} {ps : List Int} {P : AV} (q : NQ kc hp ps P) {b : Nat} (hb : blkQ P = some b) : b < hp.length := by
  rcases q with (⟨rfl | rfl, _⟩ | ⟨b', ver, frz, rfl, h2, _⟩) | ⟨_, z, c, rfl, _⟩
  · cases hb
  · cases hb
  · cases hb; exact lt_of_get h2
  · cases hb
theorem NQ.stays {kc : Bool} {hp hp' : AHeap} {ps : List Int} {P : AV} (q : NQ kc hp ps P) (e : ∀ b, blkQ P = some b → hp'[b]? = hp[b]?) : NQ kc hp' ps P := by
  rcases q with (h | ⟨b, ver, frz, rfl, h2, h3⟩) | h
  · exact .inl (.inl h)
  · exact .inl (.inr ⟨b, ver, frz, rfl, by rw [e b rfl]; exact h2, h3⟩)
  · exact .inr h
/-- A list of freed pages in memory, behind the first blocks. -/
structure LB (kc : Bool) (lo : Nat) (hp : AHeap) (L : AV) (ts : List FQ) : Prop where
  buf : WBuf lo tFrd 2 hp L (ts.map rowQ)
  val : ∀ t ∈ ts, NQ kc hp t.2.1 t.2.2
  own : ∀ t ∈ ts, ∀ b, blkQ t.2.2 = some b → lo ≤ b ∧ blkQ L ≠ some b
  apart : ts.Pairwise fun s t => ∀ b, blkQ s.2.2 = some b → blkQ t.2.2 ≠ some b
  emp : ts = [] → L = .lst 0 [] true
  fz : ∀ eb ver el cs f, blkQ L = some eb → hp[eb]? = some (.cells ver el cs f) → f = 0
theorem LB.nil {kc : Bool} {lo : Nat} {hp : AHeap} : LB kc lo hp (.lst 0 [] true) [] := ⟨WBuf.nil, by simp, by simp, List.Pairwise.nil, fun _ => rfl, fun _ _ _ _ _ h => by cases h⟩
theorem WBuf.keep {lo el sz : Nat} {hp hp' : AHeap} {L : AV} {rows : List (List AV)} (b : WBuf lo el sz hp L rows) (e : ∀ k, blkQ L = some k → hp'[k]? = hp[k]?) : WBuf lo el sz hp' L rows := by
  refine ⟨⟨b.1.1, ?_⟩, b.2⟩
  rcases b.1.2 with h | ⟨eb, ver, frz, rfl, h2, h3⟩
  · exact .inl h
  · exact .inr ⟨eb, ver, frz, rfl, by rw [e eb rfl]; exact h2, h3⟩
theorem WBuf.blt {lo el sz : Nat} {hp : AHeap} {L : AV} {rows : List (List AV)} (b : WBuf lo el sz hp L rows) {k : Nat} (hk : blkQ L = some k) : k < hp.length ∧ lo ≤ k := by
  rcases b.1.2 with ⟨rfl, _⟩ | ⟨eb, ver, frz, rfl, h2, _⟩
  · cases hk
  · cases hk; exact ⟨lt_of_get h2, b.2 _ _ rfl⟩
/-- What lies elsewhere may change. -/
theorem LB.keep {kc : Bool} {lo : Nat} {hp hp' : AHeap} {L : AV} {ts : List FQ} (l : LB kc lo hp L ts) (e : ∀ k, blkQ L = some k ∨ (∃ t ∈ ts, blkQ t.2.2 = some k) → hp'[k]? = hp[k]?) : LB kc lo hp' L ts :=
  ⟨l.buf.keep fun k hk => e k (.inl hk), fun t ht => (l.val t ht).stays fun b hb => e b (.inr ⟨t, ht, hb⟩), l.own, l.apart, l.emp, fun eb ver el cs f hb hc => l.fz eb ver el cs f hb (by rw [← e eb (.inl hb)]; exact hc)⟩
theorem LB.lt {kc : Bool} {lo : Nat} {hp : AHeap} {L : AV} {ts : List FQ} (l : LB kc lo hp L ts) {k : Nat} (h : blkQ L = some k ∨ ∃ t ∈ ts, blkQ t.2.2 = some k) : k < hp.length ∧ lo ≤ k := by
  rcases h with h | ⟨t, ht, hb⟩
  · exact l.buf.blt h
  · exact ⟨(l.val t ht).lt hb, (l.own t ht k hb).1⟩
theorem LB.old {kc : Bool} {lo : Nat} {hp hp' : AHeap} {L : AV} {ts : List FQ} (l : LB kc lo hp L ts) (e : ∀ k, lo ≤ k → k < hp.length → hp'[k]? = hp[k]?) : LB kc lo hp' L ts := l.keep fun k hk => e k (l.lt hk).2 (l.lt hk).1
theorem rowQ_ok {kc : Bool} {hp : AHeap} {t : FQ} (q : NQ kc hp t.2.1 t.2.2) : (rowQ t).length = 2 ∧ (rowQ t).all AV.scal = true := ⟨rfl, by simp only [rowQ, List.all_cons, List.all_nil, q.scal.1, Bool.and_true]; rfl⟩
/-- One more. -/
theorem LB.push {kc : Bool} {lo : Nat} {hp : AHeap} {L : AV} {ts : List FQ} (l : LB kc lo hp L ts) (hlo : lo ≤ hp.length) (t : FQ) (q : NQ kc hp t.2.1 t.2.2) (hown : ∀ b, blkQ t.2.2 = some b → lo ≤ b ∧ blkQ L ≠ some b) (hap : ∀ s ∈ ts, ∀ b, blkQ s.2.2 = some b → blkQ t.2.2 ≠ some b) (hl : ts.length + 1 ≤ 1073741824) :
    ∃ v hp', appR hp tFrd 2 L (.lst 2 [.agg (rowQ t)] true) = some (v, some hp') ∧ LB kc lo hp' v (ts ++ [t]) ∧ (∀ k, k < lo → hp'[k]? = hp[k]?) ∧ hp.length ≤ hp'.length ∧ ∀ k, k < hp.length → blkQ L ≠ some k → hp'[k]? = hp[k]? := by
  have hr := rowQ_ok q
  have hc : AV.cells? (.agg (rowQ t)) = some (rowQ t) := by
    show (if (rowQ t).all AV.scal = true then some (rowQ t) else none) = _
    rw [if_pos hr.2]
  obtain ⟨v, hp', ea, b', e0, hle⟩ := wbuf_app (x := .lst 2 [.agg (rowQ t)] true) l.buf hlo rfl (first_agg _ hr.1 hc) hr (by rw [List.length_map]; exact hl)
  -- which blocks it leaves alone
  have hk : ∀ k, k < hp.length → blkQ L ≠ some k → hp'[k]? = hp[k]? := fun k hk hn => by
    unfold appR at ea
    rw [show lenA (.lst 2 [.agg (rowQ t)] true) = some 1 from rfl] at ea
    simp only at ea
    rw [first_agg _ hr.1 hc] at ea
    simp only [hr.2, Bool.not_true, Bool.false_eq_true, if_false] at ea
    rcases l.buf.1.2 with ⟨rfl, e2⟩ | ⟨eb, ver, frz, rfl, g1, g3⟩
    · simp only at ea
      rw [if_neg (by decide)] at ea
      have h3 : firstA hp 2 ([] : List AV).length (.lst 0 [] true) = some [] := by
        unfold firstA
        simp
      rw [h3] at ea
      simp only [List.length_nil, Nat.zero_add] at ea
      rw [if_pos ⟨by decide, rfl⟩] at ea
      cases ea
      rw [List.getElem?_append_left hk]
    · have hf := flatten_len l.buf.1.1
      simp only at ea
      rw [g1] at ea
      simp only at ea
      rw [if_pos ⟨.inl trivial, trivial, trivial, trivial, hf.1.symm, hf.2, by rw [List.length_map]; exact hl, g3⟩, if_neg (by decide)] at ea
      cases ea
      have : eb ≠ k := fun e => hn (by rw [← e]; rfl)
      rw [List.getElem?_set_ne this]
  -- the slice's block: the old one, or a new one
  have hv : ∀ k, blkQ v = some k → blkQ L = some k ∨ hp.length ≤ k := fun k hkv => by
    unfold appR at ea
    rw [show lenA (.lst 2 [.agg (rowQ t)] true) = some 1 from rfl] at ea
    simp only at ea
    rw [first_agg _ hr.1 hc] at ea
    simp only [hr.2, Bool.not_true, Bool.false_eq_true, if_false] at ea
    rcases l.buf.1.2 with ⟨rfl, e2⟩ | ⟨eb, ver, frz, rfl, g1, g3⟩
    · simp only at ea
      rw [if_neg (by decide)] at ea
      have h3 : firstA hp 2 ([] : List AV).length (.lst 0 [] true) = some [] := by
        unfold firstA
        simp
      rw [h3] at ea
      simp only [List.length_nil, Nat.zero_add] at ea
      rw [if_pos ⟨by decide, rfl⟩] at ea
      cases ea
      cases hkv
      exact .inr (Nat.le_refl _)
    · have hf := flatten_len l.buf.1.1
      simp only at ea
      rw [g1] at ea
      simp only at ea
      rw [if_pos ⟨.inl trivial, trivial, trivial, trivial, hf.1.symm, hf.2, by rw [List.length_map]; exact hl, g3⟩, if_neg (by decide)] at ea
      cases ea
      cases hkv
      exact .inl rfl
  have hz : ∀ k ver el cs f, blkQ v = some k → hp'[k]? = some (.cells ver el cs f) → f = 0 := fun k ver el cs f hkv hkc => by
    unfold appR at ea
    rw [show lenA (.lst 2 [.agg (rowQ t)] true) = some 1 from rfl] at ea
    simp only at ea
    rw [first_agg _ hr.1 hc] at ea
    simp only [hr.2, Bool.not_true, Bool.false_eq_true, if_false] at ea
    rcases l.buf.1.2 with ⟨rfl, e2⟩ | ⟨eb, ver, frz, rfl, g1, g3⟩
    · simp only at ea
      rw [if_neg (by decide)] at ea
      have h3 : firstA hp 2 ([] : List AV).length (.lst 0 [] true) = some [] := by
        unfold firstA
        simp
      rw [h3] at ea
      simp only [List.length_nil, Nat.zero_add] at ea
      rw [if_pos ⟨by decide, rfl⟩] at ea
      cases ea
      cases hkv
      simp at hkc
      exact hkc.2.2.2.symm
    · have hf := flatten_len l.buf.1.1
      simp only at ea
      rw [g1] at ea
      simp only at ea
      rw [if_pos ⟨.inl trivial, trivial, trivial, trivial, hf.1.symm, hf.2, by rw [List.length_map]; exact hl, g3⟩, if_neg (by decide)] at ea
      cases ea
      cases hkv
      rw [List.getElem?_set_self (lt_of_get g1)] at hkc
      cases hkc
      exact l.fz _ _ _ _ _ rfl g1
  refine ⟨v, hp', ea, ⟨by rw [List.map_append]; exact b', fun s hs => ?_, fun s hs b hb => ?_, ?_, fun e => by simp at e, hz⟩, e0, hle, hk⟩
  · rw [List.mem_append, List.mem_singleton] at hs
    rcases hs with hs | rfl
    · exact (l.val s hs).stays fun b hb => hk b ((l.val s hs).lt hb) (l.own s hs b hb).2
    · exact q.stays fun b hb => hk b (q.lt hb) (hown b hb).2
  · rw [List.mem_append, List.mem_singleton] at hs
    have h1 : lo ≤ b ∧ blkQ L ≠ some b ∧ b < hp.length := by
      rcases hs with hs | rfl
      · exact ⟨(l.own s hs b hb).1, (l.own s hs b hb).2, (l.val s hs).lt hb⟩
      · exact ⟨(hown b hb).1, (hown b hb).2, q.lt hb⟩
    refine ⟨h1.1, fun e => ?_⟩
    rcases hv b e with h | h
    · exact h1.2.1 h
    · omega
  · rw [List.pairwise_append]
    exact ⟨l.apart, List.pairwise_singleton _ _, fun s hs t' ht' => by rw [List.mem_singleton] at ht'; subst ht'; exact hap s hs⟩
/-- A list of freed pages as a value. -/
def toQ (t : FQ) : Freed := ⟨t.1, match t.2.2 with
  | .sl _ _ _ _ _ => ⟨1, false⟩
  | .lst z _ c => ⟨z, c⟩
  | _ => ⟨0, true⟩, t.2.1⟩
theorem toQ_ok {kc : Bool} {hp : AHeap} {t : FQ} (q : NQ kc hp t.2.1 t.2.2) : (toQ t).Ok := fun hne => by
  obtain ⟨v, ps, P⟩ := t
  rcases q with (⟨_, h⟩ | ⟨b, ver, frz, h, _⟩) | ⟨_, z, c, h, hz⟩
  · exact (hne h).elim
  · simp only at h
    subst h
    rfl
  · simp only at h
    subst h
    exact hz hne
theorem NQ.frz {kc : Bool} {hp : AHeap} {t : FQ} (q : NQ kc hp t.2.1 t.2.2) (n : Nat) : Abs.frz hp (n + 2) t.2.2 = some (.lst (toQ t).sh.sz ((toQ t).pages.map i64) (toQ t).sh.c) := by
  obtain ⟨v, ps, P⟩ := t
  rcases q with (⟨h | h, h2⟩ | ⟨b, ver, frz, h, hb, _⟩) | ⟨_, z, c, h, hz⟩
  · simp only at h h2
    subst h h2
    rfl
  · simp only at h h2
    subst h h2
    rfl
  · simp only at h hb
    subst h
    unfold Abs.frz
    simp only [hb, List.length_map]
    rw [if_pos ⟨trivial, by omega⟩]
    have h1 : ((ps.map i64).drop 0).take (ps.length * 1) = ps.map i64 := by rw [List.drop_zero]; exact List.take_of_length_le (by simp)
    rw [h1, allM_id fun x hm => by obtain ⟨k, _, rfl⟩ := List.mem_map.1 hm; rfl]
    simp only
    rw [if_pos (by rw [List.all_eq_true]; intro x hm; obtain ⟨k, _, rfl⟩ := List.mem_map.1 hm; rfl)]
    rfl
  · simp only at h
    subst h
    exact (frzOk_lst (n := n + 1) fun x hx => by obtain ⟨k, _, rfl⟩ := List.mem_map.1 hx; exact frzOk_int) hp
theorem frzQ {kc : Bool} {lo : Nat} {hp : AHeap} {L : AV} {ts : List FQ} (lbuf : WBuf lo tFrd 2 hp L (ts.map rowQ)) (lval : ∀ t ∈ ts, NQ kc hp t.2.1 t.2.2) (lemp : ts = [] → L = .lst 0 [] true) (n : Nat) : ∃ sh : Sh, Abs.frz hp (n + 3) L = some (.lst sh.sz ((ts.map toQ).map Freed.av) sh.c) ∧ (ts ≠ [] → sh.sz = 2) ∧ sh = (if ts = [] then ⟨0, true⟩ else ⟨2, false⟩) := by
  have ha : ∀ ts : List FQ, (∀ t ∈ ts, NQ kc hp t.2.1 t.2.2) → allM (Abs.frz hp (n + 2)) (ts.map rowQ).flatten = some ((ts.map toQ).map Freed.cells).flatten := fun ts hv => by
    induction ts with
    | nil => rfl
    | cons t r ih =>
      have h1 := (hv t (List.mem_cons_self ..)).frz n
      have h2 := ih fun s hs => hv s (List.mem_cons_of_mem _ hs)
      show allM _ (i64 t.1 :: t.2.2 :: (r.map rowQ).flatten) = _
      unfold allM allM
      rw [h1, h2]
      rfl
  by_cases e : ts = []
  · subst e
    rw [lemp rfl]
    exact ⟨⟨0, true⟩, rfl, fun h => (h rfl).elim, by rw [if_pos rfl]⟩
  · rcases lbuf.1.2 with ⟨_, h⟩ | ⟨eb, ver, frz, rfl, h2, _⟩
    · exact (e (by simpa using h)).elim
    · refine ⟨⟨2, false⟩, ?_, fun _ => rfl, by rw [if_neg e]⟩
      have := frz_sl (n := n + 2) (sz := 2) (by decide) h2 (fun r hm => (lbuf.1.1 r hm).1) (ha ts lval) (fun r hm => by
        obtain ⟨f, hf, rfl⟩ := List.mem_map.1 hm
        exact ⟨rfl, rfl⟩) (by simp)
      rw [this]
      congr 2
      rw [List.map_map]
      rfl
theorem LB.frz {kc : Bool} {lo : Nat} {hp : AHeap} {L : AV} {ts : List FQ} (l : LB kc lo hp L ts) (n : Nat) : ∃ sh : Sh, Abs.frz hp (n + 3) L = some (.lst sh.sz ((ts.map toQ).map Freed.av) sh.c) ∧ (ts ≠ [] → sh.sz = 2) ∧ sh = (if ts = [] then ⟨0, true⟩ else ⟨2, false⟩) := frzQ l.buf l.val l.emp n
end Go.Proofs
