/- The law PageLists: the row. -/
import Derived.Test.YtfddiediieblhaaGreatLis8
import Derived.Test.YtfddiediieblhaaGreatLis6
import Derived.Test.YtfddiediieblhaaGreatLis7
import Derived.Shelf.Sort.Plain
import Derived.Shelf.Slices.CompactI
import Derived.Shelf.Slices.Clone
import Derived.Shelf.Slices.In.SortNone
import Derived.Lib.AppendZeros
import Derived.Test.YtfddiediieblhaaGreatLis10
import Derived.Test.YtfddiediieblhaaGreatRows
import Derived.SizedLaws
/- Arguments as they are read: entries. -/
set_option linter.unusedVariables false
set_option linter.unusedSimpArgs false
namespace Go.Proofs
open Go Go.Abs Go.ChangeShapes Go.WideShapes Go.ChangeAt Go.RowKit

theorem ty3 : Tryz.prog.underlying 3 = some (.int .i64) := by kernel_rfl
theorem ty5 : Tryz.prog.underlying 5 = some (.int .u8) := by kernel_rfl
theorem ty9 : Tryz.prog.underlying 9 = some .string := by kernel_rfl
theorem ty4 : Tryz.prog.underlying 4 = some .bool := by kernel_rfl
theorem ty22 : Tryz.prog.underlying 22 = some (.slice 56) := by kernel_rfl
theorem ty49 : Tryz.prog.underlying 54 = some (.array 16 5) := by kernel_rfl
theorem sz51 : Tryz.prog.cellsOf 56 = 22 := by kernel_rfl
theorem sz49 : Tryz.prog.cellsOf 54 = 16 := by kernel_rfl
theorem sz5 : Tryz.prog.cellsOf 5 = 1 := by kernel_rfl
theorem own : ownKnob Tryz.prog.godebug = none := by kernel_rfl
theorem laid : laidOutB Tryz.prog = true := by kernel_rfl

section
variable {H : Type} {enc : TypeId × Value → H} {W : World} {base : Nat} {sp : Nat → Bool} {held : Bool} {fuel : Nat} {cs : List Value} {x : DataW H × List MemPlace}
theorem take_one {i : Nat} {v : Value} (h : (cs.drop i).take 1 = [v]) : cs[i]? = some v := by
  have : ((cs.drop i).take 1)[0]? = some v := by rw [h]; rfl
  simpa using this
theorem rd_dg (h : DataW.trod enc Tryz.prog W base sp held fuel 54 cs = some x) : ∃ d : Dg, VRs (cellsW W) noBM d.cells cs := by
  obtain ⟨xs, m, _, _, hl, hx, hi⟩ := DataW.trod_array ty49 h
  rw [sz49] at hl
  rw [sz5] at hi
  have hb : ∀ i, i < 16 → ∃ b : UInt8, cs[i]? = some (.int .u8 b.toNat) := fun i hi' => by
    have h1 := hi i hi'
    rw [List.getElem?_eq_getElem (by omega)] at h1
    obtain ⟨b, h2⟩ := rd_u8 ty5 h1
    rw [Nat.mul_one] at h2
    exact ⟨b, take_one h2⟩
  obtain ⟨b0, g0⟩ := hb 0 (by omega)
  obtain ⟨b1, g1⟩ := hb 1 (by omega)
  obtain ⟨b2, g2⟩ := hb 2 (by omega)
  obtain ⟨b3, g3⟩ := hb 3 (by omega)
  obtain ⟨b4, g4⟩ := hb 4 (by omega)
  obtain ⟨b5, g5⟩ := hb 5 (by omega)
  obtain ⟨b6, g6⟩ := hb 6 (by omega)
  obtain ⟨b7, g7⟩ := hb 7 (by omega)
  obtain ⟨b8, g8⟩ := hb 8 (by omega)
  obtain ⟨b9, g9⟩ := hb 9 (by omega)
  obtain ⟨b10, g10⟩ := hb 10 (by omega)
  obtain ⟨b11, g11⟩ := hb 11 (by omega)
  obtain ⟨b12, g12⟩ := hb 12 (by omega)
  obtain ⟨b13, g13⟩ := hb 13 (by omega)
  obtain ⟨b14, g14⟩ := hb 14 (by omega)
  obtain ⟨b15, g15⟩ := hb 15 (by omega)
  refine ⟨⟨b0, b1, b2, b3, b4, b5, b6, b7, b8, b9, b10, b11, b12, b13, b14, b15⟩, VRs_get (by rw [hl]; rfl) fun i a v ha hv => ?_⟩
  have hi16 : i < 16 := by
    rcases Nat.lt_or_ge i 16 with h | h
    · exact h
    · rw [List.getElem?_eq_none (by omega)] at hv; cases hv
  have : i = 0 ∨ i = 1 ∨ i = 2 ∨ i = 3 ∨ i = 4 ∨ i = 5 ∨ i = 6 ∨ i = 7 ∨ i = 8 ∨ i = 9 ∨ i = 10 ∨ i = 11 ∨ i = 12 ∨ i = 13 ∨ i = 14 ∨ i = 15 := by omega
  rcases this with rfl | rfl | rfl | rfl | rfl | rfl | rfl | rfl | rfl | rfl | rfl | rfl | rfl | rfl | rfl | rfl
  all_goals
    first
      | rw [g0] at hv | rw [g1] at hv | rw [g2] at hv | rw [g3] at hv | rw [g4] at hv | rw [g5] at hv | rw [g6] at hv | rw [g7] at hv | rw [g8] at hv | rw [g9] at hv | rw [g10] at hv | rw [g11] at hv | rw [g12] at hv | rw [g13] at hv | rw [g14] at hv | rw [g15] at hv
    cases hv
    cases ha
    unfold VR; rfl

theorem rd_entry (h : DataW.trod enc Tryz.prog W base sp held fuel 56 cs = some x) : ∃ e : Entry, VRs (cellsW W) noBM e.cells cs ∧ True := by
  obtain ⟨fs, hfs, f0, f1, f2, f3, f4, f5, f6, h0, h1, h2, h3, h4, h5, h6, t0, t1, t2, t3, t4, t5, t6, o0, o1, o2, o3, o4, o5, o6⟩ :
      ∃ fs : Array Field, Tryz.prog.underlying 56 = some (.struct fs) ∧ ∃ (f0 f1 f2 f3 f4 f5 f6 : Field), fs[0]? = some f0 ∧ fs[1]? = some f1 ∧ fs[2]? = some f2 ∧ fs[3]? = some f3 ∧ fs[4]? = some f4 ∧ fs[5]? = some f5 ∧ fs[6]? = some f6 ∧
        f0.type = 9 ∧ f1.type = 9 ∧ f2.type = 3 ∧ f3.type = 3 ∧ f4.type = 3 ∧ f5.type = 3 ∧ f6.type = 54 ∧ f0.offset = 0 ∧ f1.offset = 1 ∧ f2.offset = 2 ∧ f3.offset = 3 ∧ f4.offset = 4 ∧ f5.offset = 5 ∧ f6.offset = 6 := by
    refine ⟨_, Tryz.underlying56, _, _, _, _, _, _, _, rfl, rfl, rfl, rfl, rfl, rfl, rfl, rfl, rfl, rfl, rfl, rfl, rfl, rfl, rfl, rfl, rfl, rfl, rfl, rfl, rfl⟩
  obtain ⟨xs, n, _, _, hl, hx, hi⟩ := DataW.trod_struct hfs h
  rw [sz51] at hl
  have hsz : 7 ≤ fs.size := (Array.getElem?_eq_some_iff.1 h6).1
  have get : ∀ (i : Nat) (f : Field), fs[i]? = some f → ∃ y, DataW.trod enc Tryz.prog W base sp held n f.type ((cs.drop f.offset).take (Tryz.prog.cellsOf f.type)) = some y := fun i f hf => by
    have h := hi i f hf
    have : i < fs.size := (Array.getElem?_eq_some_iff.1 hf).1
    rw [List.getElem?_eq_getElem (by omega)] at h
    exact ⟨_, h⟩
  have s9 : Tryz.prog.cellsOf 9 = 1 := by kernel_rfl
  have s3 : Tryz.prog.cellsOf 3 = 1 := by kernel_rfl
  obtain ⟨_, y0⟩ := get 0 f0 h0
  obtain ⟨_, y1⟩ := get 1 f1 h1
  obtain ⟨_, y2⟩ := get 2 f2 h2
  obtain ⟨_, y3⟩ := get 3 f3 h3
  obtain ⟨_, y4⟩ := get 4 f4 h4
  obtain ⟨_, y5⟩ := get 5 f5 h5
  obtain ⟨_, y6⟩ := get 6 f6 h6
  rw [t0, o0, s9] at y0
  rw [t1, o1, s9] at y1
  rw [t2, o2, s3] at y2
  rw [t3, o3, s3] at y3
  rw [t4, o4, s3] at y4
  rw [t5, o5, s3] at y5
  rw [t6, o6, sz49] at y6
  obtain ⟨k, e0⟩ := rd_str ty9 y0
  obtain ⟨v, e1⟩ := rd_str ty9 y1
  obtain ⟨n2, e2, _⟩ := rd_int ty3 y2
  obtain ⟨n3, e3, _⟩ := rd_int ty3 y3
  obtain ⟨n4, e4, _⟩ := rd_int ty3 y4
  obtain ⟨n5, e5, _⟩ := rd_int ty3 y5
  obtain ⟨d, e6⟩ := rd_dg y6
  have hcs : cs = [.string ⟨k.toArray⟩, .string ⟨v.toArray⟩, .int .i64 n2, .int .i64 n3, .int .i64 n4, .int .i64 n5] ++ (cs.drop 6).take 16 := by
    have g0 := take_one e0
    have g1 := take_one e1
    have g2 := take_one e2
    have g3 := take_one e3
    have g4 := take_one e4
    have g5 := take_one e5
    apply List.ext_getElem?
    intro i
    have : i = 0 ∨ i = 1 ∨ i = 2 ∨ i = 3 ∨ i = 4 ∨ i = 5 ∨ 6 ≤ i := by omega
    rcases this with rfl | rfl | rfl | rfl | rfl | rfl | h
    · exact g0
    · exact g1
    · exact g2
    · exact g3
    · exact g4
    · exact g5
    · rw [List.getElem?_append_right (by simpa using h)]
      simp only [List.length_cons, List.length_nil]
      rw [List.getElem?_take]
      by_cases h' : i - 6 < 16
      · rw [if_pos h', List.getElem?_drop]
        show cs[i]? = cs[6 + (i - 6)]?
        rw [show 6 + (i - 6) = i by omega]
      · rw [if_neg h', List.getElem?_eq_none (by omega)]
  refine ⟨⟨k, v, n2, n3, n4, n5, d⟩, ?_, trivial⟩
  rw [hcs]
  show VRs (cellsW W) noBM ([.str k, .str v, i64 n2, i64 n3, i64 n4, i64 n5] ++ d.cells) _
  refine VRs_app ?_ e6
  repeat' (first | exact VRs_one (by unfold VR; rfl) | (refine @VRs_app _ _ [_] _ [_] _ (VRs_one (by unfold VR; rfl)) ?_))

/-- A slice of entries. -/
theorem rd_entries (h : DataW.trod enc Tryz.prog W base sp held fuel 22 cs = some x) : ∃ (l : List Entry) (v : Value), cs = [v] ∧ VR (cellsW W) noBM (.lst 22 (l.map Entry.av) false) v := by
  obtain ⟨l, v, h1, h2, _⟩ := rd_slice (g := Entry.cells) (ok := fun _ => True) ty22 sz51 (by decide) (fun fuel cs x h => rd_entry h) h
  exact ⟨l, v, h1, h2⟩
end
end Go.Proofs
/- Arguments as they are read: pages. -/
set_option linter.unusedVariables false
set_option linter.unusedSimpArgs false
namespace Go.Proofs
open Go Go.Abs Go.ChangeShapes Go.WideShapes Go.ChangeAt Go.RowKit
theorem tyPage : ∃ fs : Array Field, Tryz.prog.underlying 25 = some (.struct fs) ∧ ∃ (f0 f1 f2 f3 f4 f5 f6 f7 f8 f9 : Field), fs[0]? = some f0 ∧ fs[1]? = some f1 ∧ fs[2]? = some f2 ∧ fs[3]? = some f3 ∧ fs[4]? = some f4 ∧ fs[5]? = some f5 ∧ fs[6]? = some f6 ∧ fs[7]? = some f7 ∧ fs[8]? = some f8 ∧ fs[9]? = some f9 ∧
    f0.type = 3 ∧ f1.type = 3 ∧ f2.type = 3 ∧ f3.type = 3 ∧ f4.type = 3 ∧ f5.type = 4 ∧ f6.type = 22 ∧ f7.type = 3 ∧ f8.type = 9 ∧ f9.type = 23 ∧ f0.offset = 0 ∧ f1.offset = 1 ∧ f2.offset = 2 ∧ f3.offset = 3 ∧ f4.offset = 4 ∧ f5.offset = 5 ∧ f6.offset = 6 ∧ f7.offset = 7 ∧ f8.offset = 8 ∧ f9.offset = 9 :=
  ⟨_, Tryz.underlying25, _, _, _, _, _, _, _, _, _, _, rfl, rfl, rfl, rfl, rfl, rfl, rfl, rfl, rfl, rfl, rfl, rfl, rfl, rfl, rfl, rfl, rfl, rfl, rfl, rfl, rfl, rfl, rfl, rfl, rfl, rfl, rfl, rfl, rfl, rfl⟩
theorem tyFreed : ∃ fs : Array Field, Tryz.prog.underlying 165 = some (.struct fs) ∧ ∃ (f0 f1 : Field), fs[0]? = some f0 ∧ fs[1]? = some f1 ∧ f0.type = 3 ∧ f1.type = 70 ∧ f0.offset = 0 ∧ f1.offset = 1 :=
  ⟨_, Tryz.underlying165, _, _, rfl, rfl, rfl, rfl, rfl, rfl⟩
theorem tyInts : Tryz.prog.underlying 70 = some (.slice 3) := by kernel_rfl
theorem tyFreeds : Tryz.prog.underlying 23 = some (.slice 165) := by kernel_rfl
theorem szPage : Tryz.prog.cellsOf 25 = 10 := by kernel_rfl
theorem szFreed : Tryz.prog.cellsOf 165 = 2 := by kernel_rfl
theorem s3 : Tryz.prog.cellsOf 3 = 1 := by kernel_rfl
theorem s4 : Tryz.prog.cellsOf 4 = 1 := by kernel_rfl
theorem s9 : Tryz.prog.cellsOf 9 = 1 := by kernel_rfl
theorem sEs : Tryz.prog.cellsOf 22 = 1 := by kernel_rfl
theorem sFs : Tryz.prog.cellsOf 23 = 1 := by kernel_rfl
theorem sIs : Tryz.prog.cellsOf 70 = 1 := by kernel_rfl
theorem ER_ints {S : SM} {m : BM} {sz : Nat} : ∀ {l : List Int} {B q : Nat}, (∀ i k, l[i]? = some k → S B (q + i * sz) = some (.int .i64 k)) → ER S m sz (l.map i64) B q
  | [], _, _, _ => by unfold ER; trivial
  | k :: l, B, q, h => by
    show ER S m sz (i64 k :: l.map i64) B q
    unfold ER
    refine ⟨⟨_, by simpa using h 0 k rfl, by unfold VR; rfl⟩, ER_ints fun i k' he => ?_⟩
    have := h (i + 1) k' (by simpa using he)
    rwa [show q + (i + 1) * sz = q + sz + i * sz by rw [Nat.add_mul]; omega] at this
section
variable {H : Type} {enc : TypeId × Value → H} {W : World} {base : Nat} {sp : Nat → Bool} {held : Bool} {fuel : Nat} {cs : List Value} {x : DataW H × List MemPlace}
theorem rd_ints (h : DataW.trod enc Tryz.prog W base sp held fuel 70 cs = some x) : ∃ (l : List Int) (v : Value), cs = [v] ∧ VR (cellsW W) noBM (.lst 1 (l.map i64) false) v ∧ l.length < 9223372036854775808 := by
  rcases DataW.trod_slice tyInts h with ⟨rfl, _⟩ | ⟨a, len, cap, elems, rest, n, _, rfl, _, hb, hlc, hcm, hel, hi, _, _⟩
  · exact ⟨[], _, rfl, by unfold VR; exact ⟨none, 0, rfl, Nat.le_refl _, (fun h => by cases h), fun h => (h rfl).elim⟩, by decide⟩
  · rw [s3] at hi
    obtain ⟨l, hl, hg⟩ := list_of (p := fun i (k : Int) => W.cells? base (a.add (i * 1)) 1 = some [.int .i64 k]) len fun i hil => by
      have h1 := hi i hil
      have h2 : elems[i]? = some (elems[i]'(by omega)) := List.getElem?_eq_getElem (by omega)
      rw [h2] at h1
      obtain ⟨cs', h3, h4⟩ := Option.bind_eq_some_iff.1 h1
      obtain ⟨k, rfl, _⟩ := rd_int ty3 h4
      exact ⟨k, h3⟩
    refine ⟨l, _, rfl, ?_, by rw [hl]; unfold maxLen at hcm; omega⟩
    unfold VR
    refine ⟨some a, cap, by simp [hl], by simpa [hl] using hlc, (fun h => by cases h), fun hne => ?_⟩
    have hpos : 0 < len := by
      rcases Nat.eq_zero_or_pos len with h | h
      · subst h
        have : l = [] := List.length_eq_zero_iff.1 hl
        subst this
        exact (hne rfl).elim
      · exact h
    have hspot : a.spot = none := by
      have h1 := hg 0 l[0] (List.getElem?_eq_getElem (by omega))
      obtain ⟨_, h3, h4⟩ := World.cells?_some h1
      have h5 := h4 0 (by decide)
      have := World.cell?_spot h5
      simpa [Addr.add] using this
    obtain ⟨B, q, spot⟩ := a
    simp only at hspot
    subst hspot
    refine ⟨B, q, rfl, ER_ints fun i k hk => ?_⟩
    have h1 := hg i k hk
    obtain ⟨_, h3, h4⟩ := World.cells?_some h1
    have h6 := h4 0 (by decide)
    have e7 : ((⟨B, q, none⟩ : Addr).add (i * 1)).add 0 = ⟨B, q + i * 1, none⟩ := by
      unfold Addr.add
      by_cases e1 : i = 0 <;> simp [e1]
    rw [e7] at h6
    exact h6
theorem two_of {v0 v1 : Value} (hl : cs.length = 2) (g0 : cs[0]? = some v0) (g1 : cs[1]? = some v1) : cs = [v0, v1] := by
  match cs, hl with
  | [a, b], _ => simp at g0 g1; rw [g0, g1]
theorem rd_freed (h : DataW.trod enc Tryz.prog W base sp held fuel 165 cs = some x) : ∃ f : Freed, VRs (cellsW W) noBM f.cells cs ∧ (f.Ok ∧ f.pages.length < 9223372036854775808) := by
  obtain ⟨fs, hfs, f0, f1, h0, h1, t0, t1, o0, o1⟩ := tyFreed
  obtain ⟨xs, n, _, _, hl, hx, hi⟩ := DataW.trod_struct hfs h
  rw [szFreed] at hl
  have get : ∀ (i : Nat) (f : Field), fs[i]? = some f → ∃ y, DataW.trod enc Tryz.prog W base sp held n f.type ((cs.drop f.offset).take (Tryz.prog.cellsOf f.type)) = some y := fun i f hf => by
    have h := hi i f hf
    have : i < fs.size := (Array.getElem?_eq_some_iff.1 hf).1
    rw [List.getElem?_eq_getElem (by omega)] at h
    exact ⟨_, h⟩
  obtain ⟨_, y0⟩ := get 0 f0 h0
  obtain ⟨_, y1⟩ := get 1 f1 h1
  rw [t0, o0, s3] at y0
  rw [t1, o1, sIs] at y1
  obtain ⟨k, e0, _⟩ := rd_int ty3 y0
  obtain ⟨l, v, e1, g1, gl⟩ := rd_ints y1
  have hcs := two_of hl (take_one e0) (take_one e1)
  refine ⟨⟨k, ⟨1, false⟩, l⟩, ?_, fun _ => rfl, gl⟩
  rw [hcs]
  exact @VRs_app _ _ [_] _ [_] _ (VRs_one (a := i64 k) (by unfold VR; rfl)) (VRs_one g1)
theorem rd_freeds (h : DataW.trod enc Tryz.prog W base sp held fuel 23 cs = some x) : ∃ (l : List Freed) (v : Value), cs = [v] ∧ VR (cellsW W) noBM (.lst 2 (l.map Freed.av) false) v ∧ ∀ f ∈ l, f.Ok ∧ f.pages.length < 9223372036854775808 := by
  obtain ⟨l, v, h1, h2, h3⟩ := rd_slice (g := Freed.cells) (ok := fun f => f.Ok ∧ f.pages.length < 9223372036854775808) tyFreeds szFreed (by decide) (fun fuel cs x h => rd_freed h) h
  exact ⟨l, v, h1, h2, h3⟩
theorem ten_of {v0 v1 v2 v3 v4 v5 v6 v7 v8 v9 : Value} (hl : cs.length = 10) (g0 : cs[0]? = some v0) (g1 : cs[1]? = some v1) (g2 : cs[2]? = some v2) (g3 : cs[3]? = some v3) (g4 : cs[4]? = some v4) (g5 : cs[5]? = some v5) (g6 : cs[6]? = some v6) (g7 : cs[7]? = some v7) (g8 : cs[8]? = some v8) (g9 : cs[9]? = some v9) : cs = [v0, v1, v2, v3, v4, v5, v6, v7, v8, v9] := by
  match cs, hl with
  | [a, b, c, d, e, f, g, h, i, j], _ => simp at g0 g1 g2 g3 g4 g5 g6 g7 g8 g9; rw [g0, g1, g2, g3, g4, g5, g6, g7, g8, g9]
end
end Go.Proofs
/- The chapter's examples hold: by runs of the small machine. -/
set_option linter.unusedVariables false
set_option linter.unusedSimpArgs false
namespace Go.Proofs
open Go Go.Abs
def ex : AV := .agg [.int .i64 (1), .int .i64 (2), .int .i64 (1), .int .i64 (0), .int .i64 (0), .bool true, .lst 22 [.agg [.str [97, 98], .str [120], .int .i64 (0), .int .i64 (0), .int .i64 (0), .int .i64 (0), .int .u8 (0), .int .u8 (0), .int .u8 (0), .int .u8 (0), .int .u8 (0), .int .u8 (0), .int .u8 (0), .int .u8 (0), .int .u8 (0), .int .u8 (0), .int .u8 (0), .int .u8 (0), .int .u8 (0), .int .u8 (0), .int .u8 (0), .int .u8 (0)], .agg [.str [97, 99], .str [121, 122], .int .i64 (0), .int .i64 (0), .int .i64 (0), .int .i64 (0), .int .u8 (0), .int .u8 (0), .int .u8 (0), .int .u8 (0), .int .u8 (0), .int .u8 (0), .int .u8 (0), .int .u8 (0), .int .u8 (0), .int .u8 (0), .int .u8 (0), .int .u8 (0), .int .u8 (0), .int .u8 (0), .int .u8 (0), .int .u8 (0)]] true, .int .i64 (0), .str [], .lst 0 [] true]
def st : AV := .str [85, 1, 0, 0, 0, 2, 0, 0, 0, 0, 0, 1, 0, 0, 1, 1, 0, 2, 97, 0, 23, 0, 28, 1, 98, 0, 1, 120, 1, 99, 0, 2, 121, 122, 0, 0, 0, 0, 0, 0, 0, 0, 0, 0, 0, 0, 0, 0, 0, 0, 0, 0, 0, 0, 0, 0, 0, 0, 0, 0, 0, 0, 0, 0, 0, 0, 0, 0, 0, 0, 0, 0, 0, 0, 0, 0, 0, 0, 0, 0, 0, 0, 0, 0, 0, 0, 0, 0, 0, 0, 0, 0, 0, 0, 0, 0, 0, 0, 0, 0, 0, 0, 0, 0, 0, 0, 0, 0, 0, 0, 0, 0, 0, 0, 0, 0, 0, 0, 0, 0, 0, 0, 0, 0, 0, 0, 0, 0, 0, 0, 0, 0, 0, 0, 0, 0, 0, 0, 0, 0, 0, 0, 0, 0, 0, 0, 0, 0, 0, 0, 0, 0, 0, 0, 0, 0, 0, 0, 0, 0, 0, 0, 0, 0, 0, 0, 0, 0, 0, 0, 0, 0, 0, 0, 0, 0, 0, 0, 0, 0, 0, 0, 0, 0, 0, 0, 0, 0, 0, 0, 0, 0, 0, 0, 0, 0, 0, 0, 0, 0, 0, 0, 0, 0, 0, 0, 0, 0, 0, 0, 0, 0, 0, 0, 0, 0, 0, 0, 0, 0, 0, 0, 0, 0, 0, 0, 0, 0, 0, 0, 0, 0, 0, 0, 0, 0, 0, 0, 0, 0, 0, 0, 0, 0, 0, 0, 0, 0, 0, 0, 0, 0, 0, 0, 0, 0, 0, 0, 0, 0, 0, 0, 0, 0, 0, 0, 0, 0, 0, 0, 0, 0, 0, 0, 0, 0, 0, 0, 0, 0, 0, 0, 0, 0, 0, 0, 0, 0, 0, 0, 0, 0, 0, 0, 0, 0, 0, 0, 0, 0, 0, 0, 0, 0, 0, 0, 0, 0, 0, 0, 0, 0, 0, 0, 0, 0, 0, 0, 0, 0, 0, 0, 0, 0, 0, 0, 0, 0, 0, 0, 0, 0, 0, 0, 0, 0, 0, 0, 0, 0, 0, 0, 0, 0, 0, 0, 0, 0, 0, 0, 0, 0, 0, 0, 0, 0, 0, 0, 0, 0, 0, 0, 0, 0, 0, 0, 0, 0, 0, 0, 0, 0, 0, 0, 0, 0, 0, 0, 0, 0, 0, 0, 0, 0, 0, 0, 0, 0, 0, 0, 0, 0, 0, 0, 0, 0, 0, 0, 0, 0, 0, 0, 0, 0, 0, 0, 0, 0, 0, 0, 0, 0, 0, 0, 0, 0, 0, 0, 0, 0, 0, 0, 0, 0, 0, 0, 0, 0, 0, 0, 0, 0, 0, 0, 0, 0, 0, 0, 0, 0, 0, 0, 0, 0, 0, 0, 0, 0, 0, 0, 0, 0, 0, 0, 0, 0, 0, 0, 0, 0, 0, 0, 0, 0, 0, 0, 0, 0, 0, 0, 0, 0, 0, 0, 0, 0, 0, 0, 0, 0, 0, 0, 0, 0, 0, 0, 0, 0, 0, 0, 0, 0, 0, 0, 0, 0, 0, 0, 0, 0, 0, 0, 0, 0, 0, 0, 0, 0, 53, 146, 233, 230]

theorem enc_run : CN Tryz.prog cfg1 20 12 [ex] [] = some (.ret (.tup [st, .int .i64 0]), []) := by kernel_rfl
def sum2 : FuncId → List AV → Option AV := fun f args => cond (Nat.beq f 12) (cond (beqVs args [ex]) (some (.tup [st, .int .i64 0])) none) (sum1 f args)
def cfg2 : Cfg := ⟨inl0, sum2, fun _ _ _ => none, fun _ => false⟩
theorem enc_pure : PureCalls Tryz.prog 12 [ex] (.ret (.tup [st, .int .i64 0])) := pure_of_CN sum1_ok rfl enc_run
theorem sum2_sound : ∀ f args v, cfg2.sum f args = some v → PureCalls Tryz.prog f args (.ret v) := fun f args v h => by
  change sum2 f args = some v at h
  unfold sum2 at h
  cases hf : Nat.beq f 12 with
  | false => rw [hf] at h; exact sum1_sound f args v h
  | true =>
    rw [hf] at h
    have : f = 12 := Nat.eq_of_beq_eq_true hf
    subst this
    simp only [cond] at h
    cases hb : beqVs args [ex] with
    | false => rw [hb] at h; cases h
    | true =>
      rw [hb] at h
      have := beqVs_eq args hb
      subst this
      cases h
      exact enc_pure
theorem sum2_ok : SumOk Tryz.prog cfg2 := ⟨sum2_sound, noMem _⟩
theorem sane_run : CN Tryz.prog cfg2 20 9 [] [] = some (.ret (.bool true), []) := by kernel_rfl
theorem sane_pure : PureCalls Tryz.prog 9 [] (.ret (.bool true)) := pure_of_CN sum2_ok rfl sane_run
end Go.Proofs
/- What the library says of sorting numbers, and of dropping equal neighbours, at this program. -/
set_option linter.unusedVariables false
set_option linter.unusedSimpArgs false
namespace Go.Proofs
open Go.Shelf
def Tryz.lays189_ren : Go.Shelf.Ren := ⟨fun | 189 => 130 | 125 => 163 | 257 => 162 | 128 => 186 | 129 => 187 | 294 => 177 | 295 => 178 | 296 => 179 | 297 => 180 | 298 => 181 | 299 => 182 | 216 => 183 | 300 => 184 | 301 => 185 | 328 => 194 | 329 => 195 | 330 => 196 | 331 => 197 | 332 => 198 | 215 => 199 | 343 => 201 | n => n, fun | 28 => 70 | 3 => 3 | 46 => 179 | 0 => 0 | 51 => 184 | 53 => 224 | 4 => 4 | 183 => 254 | 182 => 253 | 131 => 148 | 5 => 5 | 9 => 9 | 218 => 266 | 222 => 270 | 228 => 272 | 229 => 273 | n => n, fun | n => n⟩
theorem Tryz.lays189 : Go.Proofs.Lays.n189 Tryz.prog Tryz.lays189_ren := {
  mixed := by kernel_rfl
  f125 := Tryz.func163.trans (congrArg some (by kernel_rfl))
  f128 := Tryz.func186.trans (congrArg some (by kernel_rfl))
  f129 := Tryz.func187.trans (congrArg some (by kernel_rfl))
  f189 := Tryz.func130.trans (congrArg some (by kernel_rfl))
  f215 := Tryz.func199.trans (congrArg some (by kernel_rfl))
  f216 := Tryz.func183.trans (congrArg some (by kernel_rfl))
  f257 := Tryz.func162.trans (congrArg some (by kernel_rfl))
  f294 := Tryz.func177.trans (congrArg some (by kernel_rfl))
  f295 := Tryz.func178.trans (congrArg some (by kernel_rfl))
  f296 := Tryz.func179.trans (congrArg some (by kernel_rfl))
  f297 := Tryz.func180.trans (congrArg some (by kernel_rfl))
  f298 := Tryz.func181.trans (congrArg some (by kernel_rfl))
  f299 := Tryz.func182.trans (congrArg some (by kernel_rfl))
  f300 := Tryz.func184.trans (congrArg some (by kernel_rfl))
  f301 := Tryz.func185.trans (congrArg some (by kernel_rfl))
  f328 := Tryz.func194.trans (congrArg some (by kernel_rfl))
  f329 := Tryz.func195.trans (congrArg some (by kernel_rfl))
  f330 := Tryz.func196.trans (congrArg some (by kernel_rfl))
  f331 := Tryz.func197.trans (congrArg some (by kernel_rfl))
  f332 := Tryz.func198.trans (congrArg some (by kernel_rfl))
  f343 := Tryz.func201.trans (congrArg some (by kernel_rfl))
  t0 := Tryz.underlying0
  a0 := Tryz.isAgg0
  z0 := Tryz.sizeOf0
  v0 := Tryz.zeroValue0
  t3 := Tryz.underlying3
  a3 := Tryz.isAgg3
  z3 := Tryz.sizeOf3
  v3 := Tryz.zeroValue3
  t4 := Tryz.underlying4
  a4 := Tryz.isAgg4
  z4 := Tryz.sizeOf4
  v4 := Tryz.zeroValue4
  t5 := Tryz.underlying5
  a5 := Tryz.isAgg5
  z5 := Tryz.sizeOf5
  v5 := Tryz.zeroValue5
  t9 := Tryz.underlying9
  a9 := Tryz.isAgg9
  z9 := Tryz.sizeOf9
  v9 := Tryz.zeroValue9
  t28 := Tryz.underlying70
  a28 := Tryz.isAgg70
  z28 := Tryz.sizeOf70
  v28 := Tryz.zeroValue70
  t46 := Tryz.underlying179
  a46 := Tryz.isAgg179
  z46 := Tryz.sizeOf179
  v46 := Tryz.zeroValue179
  t51 := Tryz.underlying184
  a51 := Tryz.isAgg184
  z51 := Tryz.sizeOf184
  v51 := Tryz.zeroValue184
  t53 := Tryz.underlying224
  a53 := Tryz.isAgg224
  z53 := Tryz.sizeOf224
  v53 := Tryz.zeroValue224
  t131 := Tryz.underlying148
  a131 := Tryz.isAgg148
  z131 := Tryz.sizeOf148
  v131 := Tryz.zeroValue148
  t182 := Tryz.underlying253
  a182 := Tryz.isAgg253
  z182 := Tryz.sizeOf253
  v182 := Tryz.zeroValue253
  t183 := Tryz.underlying254
  a183 := Tryz.isAgg254
  z183 := Tryz.sizeOf254
  v183 := Tryz.zeroValue254
  t218 := Tryz.underlying266
  a218 := Tryz.isAgg266
  z218 := Tryz.sizeOf266
  v218 := Tryz.zeroValue266
  t222 := Tryz.underlying270
  a222 := Tryz.isAgg270
  z222 := Tryz.sizeOf270
  v222 := Tryz.zeroValue270
  t228 := Tryz.underlying272
  a228 := Tryz.isAgg272
  z228 := Tryz.sizeOf272
  v228 := Tryz.zeroValue272
  t229 := Tryz.underlying273
  a229 := Tryz.isAgg273
  z229 := Tryz.sizeOf273
  v229 := Tryz.zeroValue273 }
open Go.Sort Go.RowKit in
theorem Tryz.slices_Sort_int (blk off cap : Nat) (zs : List Int) (w : World) (hH : Holds (Value.int .i64) w blk off zs.toArray) (hblk : blk < w.heap.size) (hsz : zs.length < 4611686018427387904) :
    Calls Tryz.prog 130 #[.slice (some ⟨blk, off, none⟩) zs.length cap] w fun e w' =>
      e = .returned (.tuple #[]) ∧ ∃ n os, w' = grow (putRow (Value.int .i64) (Sort.ahead w n) blk off (zs.mergeSort fun x y => decide (x ≤ y)).toArray) os := Any.slices_Sort_int Tryz.lays189 blk off cap zs w hH hblk hsz
def Tryz.laysNm220_ren : Go.Shelf.Ren := ⟨fun | 20 => 131 | n => n, fun | 22 => 70 | 3 => 3 | 4 => 4 | 0 => 0 | n => n, fun | n => n⟩
theorem Tryz.laysNm220 : Go.Proofs.Lays2.n20 Tryz.prog Tryz.laysNm220_ren := {
  mixed := by kernel_rfl
  f20 := Tryz.func131.trans (congrArg some (by kernel_rfl))
  t0 := Tryz.underlying0
  a0 := Tryz.isAgg0
  z0 := Tryz.sizeOf0
  v0 := Tryz.zeroValue0
  t3 := Tryz.underlying3
  a3 := Tryz.isAgg3
  z3 := Tryz.sizeOf3
  v3 := Tryz.zeroValue3
  t4 := Tryz.underlying4
  a4 := Tryz.isAgg4
  z4 := Tryz.sizeOf4
  v4 := Tryz.zeroValue4
  t22 := Tryz.underlying70
  a22 := Tryz.isAgg70
  z22 := Tryz.sizeOf70
  v22 := Tryz.zeroValue70
  i3 := by kernel_rfl }
open Go.RowKit Go.Lib Go.Sort in
theorem Tryz.slices_Compact_int (blk off cap : Nat) (zs : List Int) (w : World) (hH : Holds (Value.int .i64) w blk off zs.toArray) (hsz : zs.length ≤ 9223372036854775807) (hcap : zs.length ≤ cap) :
    Calls Tryz.prog 131 #[.slice (some ⟨blk, off, none⟩) zs.length cap] w fun e w' => e = .returned (.slice (some ⟨blk, off, none⟩) (Lib.compact zs).length cap) ∧ ∃ q, w' = putRow (Value.int .i64) (Sort.ahead w q) blk off (Lib.compact zs ++ List.replicate (zs.length - (Lib.compact zs).length) 0).toArray := Any.slices_Compact_int Tryz.laysNm220 blk off cap zs w hH hsz hcap
def Tryz.laysNm215_ren : Go.Shelf.Ren := ⟨fun | 15 => 102 | n => n, fun | 22 => 70 | 3 => 3 | 4 => 4 | n => n, fun | n => n⟩
theorem Tryz.laysNm215 : Go.Proofs.Lays2.n15 Tryz.prog Tryz.laysNm215_ren := {
  mixed := by kernel_rfl
  f15 := Tryz.func102.trans (congrArg some (by kernel_rfl))
  t3 := Tryz.underlying3
  a3 := Tryz.isAgg3
  z3 := Tryz.sizeOf3
  v3 := Tryz.zeroValue3
  t4 := Tryz.underlying4
  a4 := Tryz.isAgg4
  z4 := Tryz.sizeOf4
  v4 := Tryz.zeroValue4
  t22 := Tryz.underlying70
  a22 := Tryz.isAgg70
  z22 := Tryz.sizeOf70
  v22 := Tryz.zeroValue70
  i3 := by kernel_rfl }
open Go.RowKit Go.Lib in
theorem Tryz.slices_Clone_int_nil (n c : Nat) (w : World) :
    Calls Tryz.prog 102 #[.slice none n c] w fun e w' => e = .returned (.slice none 0 0) ∧ w' = w := Any.slices_Clone_int_nil Tryz.laysNm215 n c w
open Go.RowKit Go.Sort in
theorem Tryz.slices_Sort_int_none (p : Option Addr) (cap : Nat) (w : World) :
    Calls Tryz.prog 130 #[.slice p 0 cap] w fun e w' => e = .returned (.tuple #[]) ∧ w' = w := Any.slices_Sort_int_none Tryz.lays189 p cap w
open Go.RowKit Go.Lib Go.Sort in
theorem Tryz.slices_Compact_int_empty (a : Option Addr) (cap : Nat) (w : World) :
    Calls Tryz.prog 131 #[.slice a 0 cap] w fun e w' => e = .returned (.slice a 0 cap) ∧ w' = w := Any.slices_Compact_int_empty Tryz.laysNm220 a cap w

open Go.Abs in
theorem clone_run (p : Option Addr) (a : Addr) (c : Nat) (w : World) : (Builtin.append_ #[70, 70] 70 #[.slice p 0 0, .slice (some a) 0 c]).run Tryz.prog w = .ok (.slice p 0 0) w := by
  refine append_room (e := 3) (du := .slice 3) (len := 0) (n := 0) (us := []) Tryz.underlying70 Tryz.underlying70 (fun k q => by cases q) (d := ⟨.int .i64, 1, 8, [.int .i64 0]⟩) (by kernel_rfl) ?_ ?_ (Nat.le_refl _) ?_
  · simp [Builtin.lenOf]
  · simp [Builtin.firstCells, loadCells, loadCellsFrom]
  · cases p <;> simp [storeCells]
open Go.RowKit Go.Lib in
theorem clone_zero (a : Addr) (c : Nat) (w : World) : Calls Tryz.prog 102 #[.slice (some a) 0 c] w fun e w' => ∃ p, e = .returned (.slice p 0 0) ∧ Below w.heap.size w w' := by
  have q22 : ∀ (w : World) (a : Option Addr) (n c n' c' : Nat), (binOp .eql 70 (.slice a n c) (.slice none n' c')).run Tryz.prog w = .ok (.bool a.isNone) w := fun w a n c n' c' => Lib.run_eql_slice_nil w _ _ a n c n' c' Tryz.underlying70
  go_enter Tryz.func102, Tryz.ntmps102
  go_wp2_with (at_builtin; refine Lib.wpList_append_run _ rfl _ _ 70 70 rfl _ _ rfl rfl _ _ (clone_run _ _ _ _) ?_)
  go_wp2
  go_ret
  exact ⟨_, rfl, (Below.refl _ w).alloc (Nat.le_refl _) _⟩
open Go.Abs in
theorem mem0_ok : MemOk Tryz.prog mem0 := memS_ok ⟨fun p cap w => Tryz.slices_Sort_int_none p cap w, fun blk off cap zs w hH hblk hsz => Tryz.slices_Sort_int blk off cap zs w hH hblk hsz⟩ ⟨fun p cap w => Tryz.slices_Compact_int_empty p cap w, fun blk off cap zs w hH hsz hcap => Tryz.slices_Compact_int blk off cap zs w hH hsz hcap⟩ ⟨fun n c w => Tryz.slices_Clone_int_nil n c w, fun a c w => clone_zero a c w⟩
end Go.Proofs
/- What is known holds. -/
set_option linter.unusedVariables false
set_option linter.unusedSimpArgs false
namespace Go.Proofs
open Go Go.Abs
theorem sum0_sound : ∀ f args v, cfg0.sum f args = some v → PureCalls Tryz.prog f args (.ret v) := fun f args v h => by
  change sum0 f args = some v at h
  unfold sum0 at h
  cases hf : Nat.beq f 9 with
  | false => rw [hf] at h; exact sum1_sound f args v h
  | true =>
    rw [hf] at h
    have : f = 9 := Nat.eq_of_beq_eq_true hf
    subst this
    simp only [cond] at h
    split at h
    · cases h; exact sane_pure
    · cases h
theorem sum0_ok : SumOk Tryz.prog cfg0 := ⟨sum0_sound, mem0_ok⟩
end Go.Proofs
/- The law PageLists: for every input it returns true. -/
set_option linter.unusedVariables false
set_option linter.unusedSimpArgs false
namespace Go.Proofs
open Go Go.Abs Go.ChangeShapes Go.WideShapes Go.ChangeAt Go.RowKit
theorem pgIn_ok2 {p : Page} (h : smallB p = true) (i : PgIn p) : p.Ok := by
  unfold smallB shortB at h
  simp only [Bool.and_eq_true, decide_eq_true_eq] at h
  obtain ⟨h1, ⟨_, h2⟩, h3⟩ := h
  obtain ⟨h4, h5⟩ := few_iff.1 h1
  exact ⟨i.o1, i.o2, by omega, by omega, by omega, fun e he => by have := h5 e he; exact ⟨by omega, by omega⟩, i.o3⟩
theorem two_c3 {L : AV} {e : Int} (h : L.scal = true) : (AV.agg [L, i64 e]).cells? = some [L, i64 e] := by
  show (if ([L, i64 e] : List AV).all AV.scal = true then some [L, i64 e] else none) = _
  rw [if_pos (by simp only [List.all_cons, List.all_nil, h, Bool.and_true]; rfl)]
theorem wgt_foldl (ds : List (List FP)) : ∀ ts : List FP, wgt (ds.foldl addP ts) ≤ wgt ts + (ds.map wgt).sum := by
  induction ds with
  | nil => intro ts; simp
  | cons d r ih =>
    intro ts
    have h1 := ih (addP ts d)
    have h2 := wgt_addP ts d
    simp only [List.foldl_cons, List.map_cons, List.sum_cons]
    omega
theorem wgt_allF (l : List Page) : wgt (allF l) ≤ wl l := by
  rw [allF_eq, wl_eq]
  have := wgt_foldl (l.map fun p => p.freed.map Freed.core) []
  simpa [wgt] using this
theorem lists_both {n : Nat} (hn : 9 ≤ n) (l : List Freed) (hs : shortB l = true) (hi : ∀ f ∈ l, f.Ok ∧ f.pages.length < 9223372036854775808) (fz : Nat) (hfz : l ≠ [] → fz = 2) (fc : Bool) (no : List Int) (hno : no.length ≤ 30) (sz : Nat) (hz : no ≠ [] → sz = 1) (c : Bool) (v : Int) :
    ∃ (a b : Int) (L1 L2 : AV) (e : Int), (∀ h, C n 38 [.lst fz (l.map Freed.av) fc] h = some (.ret (.tup [i64 a, i64 b]), h)) ∧ (∀ h, C n 39 [.lst fz (l.map Freed.av) fc] h = some (.ret (.agg [i64 a, i64 b]), h)) ∧ (∀ h, C n 40 [.lst fz (l.map Freed.av) fc, .lst sz (no.map i64) c, i64 v] h = some (.ret (.tup [L1, i64 e]), h)) ∧ (∀ h, C n 41 [.lst fz (l.map Freed.av) fc, .lst sz (no.map i64) c, i64 v] h = some (.ret (.agg [L2, i64 e]), h)) ∧ L2.scal = true ∧ ∀ h, C n 36 [L1, L2] h = some (.ret (.bool true), h) := by
  have hl : l.length ≤ 300 := by
    unfold shortB at hs
    rw [Bool.and_eq_true, decide_eq_true_eq] at hs
    exact hs.2
  have hw : freedOk l = true → wgt (l.map Freed.core) < 1048576 := fun hk => by
    have := (short_wgt hs fun f hf => by
      have := (freed_few hk hi f hf).2
      omega).2
    omega
  obtain ⟨ps, sh, e, cA, sA, zA, oA⟩ := listPages_eq (n := n) (by omega) l (by omega) hi hw fz hfz fc no (by omega) sz hz c v
  obtain ⟨qs, sh', e', cB, sB, zB, oB⟩ := refListPages_eq (n := n) (by omega) l (by omega) hi hw fz hfz fc no (by omega) sz hz c v
  obtain ⟨rfl, hlen, hal⟩ := sA.one sB
  refine ⟨_, _, _, _, e, fun h => listNeeds_eq (by omega) l (by omega) hi hw fz hfz fc, fun h => refListNeeds_eq (by omega) l (by omega) hi hw fz hfz fc, cA, cB, rfl, fun h => ?_⟩
  have hpl : ps.length ≤ no.length := by
    cases sA with
    | form => exact Nat.zero_le _
    | arg => exact Nat.zero_le _
    | ok _ _ _ hl _ => exact Nat.le_of_eq hl
  rw [refSamePs_eq (n := n) (h := h) (by omega) ps qs (by omega) (fun p hp => (sA.bare p hp).entries) oA oB sh.sz sh'.sz zA zB sh.c sh'.c, alikes_R hlen hal]
theorem listOf_both {n : Nat} (hn : 9 ≤ n) (l : List Page) (hl : smallsB l = true) (hi : ∀ p ∈ l, PgIn p ∧ ∀ f ∈ p.freed, f.pages.length < 17592186044416) (sz : Nat) (hz : l ≠ [] → sz = 10) (c : Bool) :
    ∃ (M1 M2 : AV) (e : Int), (∀ h, C n 42 [.lst sz (l.map Page.av) c] h = some (.ret (.tup [M1, i64 e]), h)) ∧ (∀ h, C n 43 [.lst sz (l.map Page.av) c] h = some (.ret (.agg [M2, i64 e]), h)) ∧ M2.scal = true ∧ ∀ h, C n 44 [M1, M2] h = some (.ret (.bool true), h) := by
  obtain ⟨h1, h2⟩ := smalls_iff.1 hl
  have hok : ∀ p ∈ l, p.Ok := fun p hp => pgIn_ok2 (h2 p hp) (hi p hp).1
  have hW : wl l ≤ l.length * 1200 := wl_bound fun p hp => by
    have h3 := h2 p hp
    unfold smallB at h3
    simp only [Bool.and_eq_true] at h3
    exact (short_wgt h3.2.1 (hi p hp).2).2
  have hW2 : wl l < 1048576 := by omega
  obtain ⟨r, cA, ⟨fs, sh, ps, e, rfl, a1, a2, a3, a4⟩⟩ := listOf_eq (n := n) (by omega) l (by omega) hok hW2 sz hz c
  obtain ⟨r', cB, ⟨gs, sh', qs, e', rfl, b1, b2, b3, b4⟩⟩ := refListOf_eq (n := n) (by omega) l (by omega) hok hW2 sz hz c
  have hc : fs.map Freed.core = gs.map Freed.core := a1.trans b1.symm
  have hiff : (l = [] ∨ (e = 0 ∧ samePs l ps = true)) ↔ (l = [] ∨ (e' = 0 ∧ samePs l qs = true)) := by
    by_cases q : l = []
    · simp [q]
    · have a5 := a4.resolve_left q
      have b5 := (b4.resolve_left q).core hc.symm
      obtain ⟨rfl, hlen, hal⟩ := a5.one b5
      rw [alikes_P hlen hal l]
  have hwA := wgt_allF l
  have hfl : ∀ f ∈ fs, f.Ok ∧ f.pages.length < 9223372036854775808 := fun f hf => by
    have := wgt_mem (l := fs.map Freed.core) (x := f.core) (List.mem_map.2 ⟨f, hf, rfl⟩)
    change f.pages.length + 1 ≤ _ at this
    rw [a1] at this
    exact ⟨a2 f hf, by omega⟩
  have hfs : fs.length < 1099511627776 := by
    have := wgt_len (fs.map Freed.core)
    rw [a1, ← a1, List.length_map, a1] at this
    omega
  by_cases q : l = [] ∨ (e = 0 ∧ samePs l ps = true)
  · rw [if_pos q] at cA
    rw [if_pos (hiff.1 q)] at cB
    refine ⟨_, _, _, cA, cB, rfl, fun h => ?_⟩
    rw [refFreeds_eq (n := n) (h := h) (by omega) fs gs hfs hfl b2 sh.sz sh'.sz a3 b3 sh.c sh'.c, decide_eq_true hc]
  · rw [if_neg q] at cA
    rw [if_neg fun x => q (hiff.2 x)] at cB
    exact ⟨_, _, _, cA, cB, rfl, fun h => refFreeds_eq (n := n) (h := h) (by omega) [] [] (by decide) (fun f hf => by cases hf) (fun f hf => by cases hf) 0 0 (fun q => (q rfl).elim) (fun q => (q rfl).elim) true true⟩
theorem pageLists_eq {n : Nat} {h : AHeap} (hn : 10 ≤ n) (l : List Freed) (hi : ∀ f ∈ l, f.Ok ∧ f.pages.length < 9223372036854775808) (fz : Nat) (hfz : l ≠ [] → fz = 2) (fc : Bool) (no : List Int) (nz : Nat) (hnz : no ≠ [] → nz = 1) (nc : Bool) (v : Int) (pl : List Page) (hpi : ∀ p ∈ pl, PgIn p ∧ ∀ f ∈ p.freed, f.pages.length < 17592186044416) (sz : Nat) (hz : pl ≠ [] → sz = 10) (c : Bool) :
    C n 7 [.lst fz (l.map Freed.av) fc, .lst nz (no.map i64) nc, i64 v, .lst sz (pl.map Page.av) c] h = some (.ret (.bool true), h) := by
  obtain ⟨m, rfl⟩ : ∃ m, n = m + 1 := ⟨n - 1, by omega⟩
  have cs : ∀ h, C m 9 [] h = some (.ret (.bool true), h) := fun h => sane_eq (by omega) h
  have csm : ∀ h, C m 10 [.lst sz (pl.map Page.av) c] h = some (.ret (.bool (smallsB pl)), h) := fun h => smalls_eq (by omega) pl (fun p hp => (hpi p hp).1) sz hz c
  have csh : ∀ h, C m 37 [.lst fz (l.map Freed.av) fc] h = some (.ret (.bool (shortB l)), h) := fun h => short_eq (by omega) l fz hfz fc
  have hpure : pureBs [.lst fz (l.map Freed.av) fc, .lst nz (no.map i64) nc, i64 v, .lst sz (pl.map Page.av) c] = true := pure_lst freed_pure l (ints_pure no (show (AV.pureB (i64 v) && pureBs [.lst sz (pl.map Page.av) c]) = true by rw [pure_lst page_pure pl rfl]; rfl))
  refine fun_pure F7 rfl rfl rfl hpure ?_
  conv => whnf
  refine clI (cs _) ?_
  cases hs : shortB l with
  | false =>
    rw [hs] at csh
    conv => whnf
    refine clI (csh _) ?_
    conv => whnf
    exact retP rfl (frz_bool rfl)
  | true =>
    rw [hs] at csh
    conv => whnf
    refine clI (csh _) ?_
    conv => whnf
    refine brd (fun b => ?_) (fun b => ?_)
    · conv => whnf
      exact retP rfl (frz_bool rfl)
    have hno : no.length ≤ 30 := by simp only [List.length_map] at b; omega
    cases hsm : smallsB pl with
    | false =>
      rw [hsm] at csm
      conv => whnf
      refine clI (csm _) ?_
      conv => whnf
      exact retP rfl (frz_bool rfl)
    | true =>
      rw [hsm] at csm
      obtain ⟨a1, b1, L1, L2, e2, cA1, cB1, cA2, cB2, hL2, cT⟩ := lists_both (n := m) (by omega) l hs hi fz hfz fc no hno nz hnz nc v
      obtain ⟨M1, M2, e3, cA3, cB3, hM2, cF⟩ := listOf_both (n := m) (by omega) pl hsm hpi sz hz c
      conv => whnf
      refine clI (csm _) ?_
      conv => whnf
      refine clI (cA1 _) ?_
      conv => whnf
      refine clI (cB1 _) ?_
      conv => whnf
      refine stI (xs := [i64 a1, i64 b1]) (by rfl) (by rfl) (by rfl) (by rfl) (by rfl) ?_
      conv => whnf
      refine clI (cA2 _) ?_
      conv => whnf
      refine clI (cB2 _) ?_
      conv => whnf
      refine stI (xs := [L2, i64 e2]) (by rfl) (two_c3 hL2) (by rfl) (by rfl) (by rfl) ?_
      conv => whnf
      refine clI (cA3 _) ?_
      conv => whnf
      refine clI (cB3 _) ?_
      conv => whnf
      refine stI (xs := [M2, i64 e3]) (by rfl) (two_c3 hM2) (by rfl) (by rfl) (by rfl) ?_
      conv => whnf
      refine ldI (by rfl) ?_
      conv => whnf
      refine bre (fun _ => ?_) (fun a => absurd rfl a)
      conv => whnf
      refine ldI (by rfl) ?_
      conv => whnf
      refine bre (fun _ => ?_) (fun a => absurd rfl a)
      conv => whnf
      refine ldI (by rfl) ?_
      conv => whnf
      refine clI (cT _) ?_
      conv => whnf
      refine ldI (by rfl) ?_
      conv => whnf
      refine bre (fun _ => ?_) (fun a => absurd rfl a)
      conv => whnf
      refine ldI (by rfl) ?_
      conv => whnf
      refine clI (cF _) ?_
      conv => whnf
      refine ldI (by rfl) ?_
      conv => whnf
      exact retP rfl (frz_bool (by simp))
end Go.Proofs
/- Arguments as they are read: pages, none of whose slices is too large. -/
set_option linter.unusedVariables false
set_option linter.unusedSimpArgs false
namespace Go.Proofs
open Go Go.Abs Go.ChangeShapes Go.WideShapes Go.ChangeAt Go.RowKit
theorem b3 : Tryz.prog.bytesOf 3 = 8 := by kernel_rfl
section
variable {H : Type}
/-- What is reached from here is not too large. -/
def Light (t : TypeId) (d : DataW H) : Prop := ∀ w ∈ d.weights Tryz.prog t, w ≤ reachBytes
theorem light_part {t : TypeId} {fs : Array Field} {parts : List (DataW H)} (ht : Tryz.prog.underlying t = some (.struct fs)) (h : Light t (.agg parts)) {i : Nat} {f : Field} {d : DataW H} (hf : fs[i]? = some f) (hd : parts[i]? = some d) : Light f.type d := fun w hw => h w (by
  have h1 : (DataW.agg parts).weights Tryz.prog t = DataW.weightsEach Tryz.prog (fs.toList.map (·.type)) parts := by simp [DataW.weights, ht]
  rw [h1]
  exact DataW.weights_mem_each (j := i) (by rw [List.getElem?_map, Array.getElem?_toList, hf]; rfl) hd w hw)
theorem light_all {e : TypeId} : ∀ {l : List (DataW H)} {i : Nat} {d : DataW H}, l[i]? = some d → ∀ w ∈ d.weights Tryz.prog e, w ∈ DataW.weightsAll Tryz.prog e l
  | [], _, _, h, _, _ => by cases h
  | a :: r, 0, d, h, w, hw => by
    cases h
    simp only [DataW.weightsAll, List.mem_append]
    exact .inl hw
  | a :: r, i + 1, d, h, w, hw => by
    simp only [DataW.weightsAll, List.mem_append]
    exact .inr (light_all (i := i) (by simpa using h) w hw)
theorem light_elem {t e : TypeId} {elems spare : List (DataW H)} (ht : Tryz.prog.underlying t = some (.slice e)) (h : Light t (.slice elems spare)) {i : Nat} {d : DataW H} (hd : elems[i]? = some d) : Light e d := fun w hw => h w (by
  have h1 : (DataW.slice elems spare).weights Tryz.prog t = (elems.length + spare.length) * Tryz.prog.bytesOf e :: (DataW.weightsAll Tryz.prog e elems ++ DataW.weightsAll Tryz.prog e spare) := by simp [DataW.weights, ht]
  rw [h1]
  exact List.mem_cons_of_mem _ (List.mem_append_left _ (light_all hd w hw)))
theorem light_len {t e : TypeId} {elems spare : List (DataW H)} (ht : Tryz.prog.underlying t = some (.slice e)) (h : Light t (.slice elems spare)) : elems.length * Tryz.prog.bytesOf e ≤ reachBytes := by
  have h1 : (DataW.slice elems spare).weights Tryz.prog t = (elems.length + spare.length) * Tryz.prog.bytesOf e :: (DataW.weightsAll Tryz.prog e elems ++ DataW.weightsAll Tryz.prog e spare) := by simp [DataW.weights, ht]
  have h2 := h _ (by rw [h1]; exact List.mem_cons_self ..)
  exact Nat.le_trans (Nat.mul_le_mul (Nat.le_add_right _ _) (Nat.le_refl _)) h2
variable {enc : TypeId × Value → H} {W : World} {base : Nat} {sp : Nat → Bool} {held : Bool} {fuel : Nat} {cs : List Value} {x : DataW H × List MemPlace} {t : TypeId}
/-- A slice of structs, none of which is too large. -/
theorem rd_sliceW {α : Type} {g : α → List AV} {ok : α → Prop} {e : TypeId} {sz : Nat} (ht : Tryz.prog.underlying t = some (.slice e)) (hsz : Tryz.prog.cellsOf e = sz) (h0 : sz ≠ 0)
    (he : ∀ (fuel : Nat) (cs : List Value) (x : DataW H × List MemPlace), DataW.trod enc Tryz.prog W base sp held fuel e cs = some x → Light e x.1 → ∃ a : α, VRs (cellsW W) noBM (g a) cs ∧ ok a)
    (h : DataW.trod enc Tryz.prog W base sp held fuel t cs = some x) (hw : Light t x.1) : ∃ (l : List α) (v : Value), cs = [v] ∧ VR (cellsW W) noBM (.lst sz (l.map fun a => .agg (g a)) false) v ∧ ∀ a ∈ l, ok a := by
  rcases DataW.trod_slice ht h with ⟨rfl, _⟩ | ⟨a, len, cap, elems, rest, n, _, rfl, rfl, hb, hlc, hcm, hel, hi, _, _⟩
  · exact ⟨[], _, rfl, by unfold VR; exact ⟨none, 0, rfl, Nat.le_refl _, (fun h => by cases h), fun h => (h rfl).elim⟩, fun a h => by cases h⟩
  · rw [hsz] at hi
    obtain ⟨l, hl, hg⟩ := list_of (p := fun i (b : α) => (∃ cs', W.cells? base (a.add (i * sz)) sz = some cs' ∧ VRs (cellsW W) noBM (g b) cs') ∧ ok b) len fun i hil => by
      have h1 := hi i hil
      have h2 : elems[i]? = some (elems[i]'(by omega)) := List.getElem?_eq_getElem (by omega)
      rw [h2] at h1
      obtain ⟨cs', h3, h4⟩ := Option.bind_eq_some_iff.1 h1
      obtain ⟨b, h5, h6⟩ := he _ _ _ h4 (light_elem (i := i) ht hw (by rw [List.getElem?_map, h2]; rfl))
      exact ⟨b, ⟨cs', h3, h5⟩, h6⟩
    refine ⟨l, _, rfl, ?_, fun b hb => ?_⟩
    · unfold VR
      refine ⟨some a, cap, by simp [hl], by simpa [hl] using hlc, (fun h => by cases h), fun hne => ?_⟩
      have hpos : 0 < len := by
        rcases Nat.eq_zero_or_pos len with h | h
        · subst h
          have : l = [] := List.length_eq_zero_iff.1 hl
          subst this
          exact (hne rfl).elim
        · exact h
      have hspot : a.spot = none := by
        obtain ⟨b, hb⟩ : ∃ b, l[0]? = some b := ⟨_, List.getElem?_eq_getElem (by omega)⟩
        obtain ⟨⟨cs', h1, h2⟩, _⟩ := hg 0 b hb
        obtain ⟨_, h3, h4⟩ := World.cells?_some h1
        have h5 := h4 0 (by omega)
        rw [List.getElem?_eq_getElem (by omega)] at h5
        have := World.cell?_spot h5
        simpa [Addr.add] using this
      obtain ⟨B, q, spot⟩ := a
      simp only at hspot
      subst hspot
      refine ⟨B, q, rfl, ER_of fun i b hb => ?_⟩
      obtain ⟨⟨cs', h1, h2⟩, _⟩ := hg i b hb
      obtain ⟨_, h3, h4⟩ := World.cells?_some h1
      refine CR_of h2 fun j v hj => ?_
      have hjl : j < sz := by
        rcases Nat.lt_or_ge j sz with h | h
        · exact h
        · rw [List.getElem?_eq_none (by omega)] at hj; cases hj
      have h6 := h4 j hjl
      rw [hj] at h6
      have e7 : ((⟨B, q, none⟩ : Addr).add (i * sz)).add j = ⟨B, q + i * sz + j, none⟩ := by
        unfold Addr.add
        by_cases e1 : i * sz = 0 <;> by_cases e2 : j = 0 <;> simp [e1, e2]
      rw [e7] at h6
      exact h6
    · obtain ⟨i, hi', rfl⟩ := List.getElem_of_mem hb
      exact (hg i _ (List.getElem?_eq_getElem hi')).2
theorem rd_intsW (h : DataW.trod enc Tryz.prog W base sp held fuel 70 cs = some x) (hw : Light 70 x.1) : ∃ (l : List Int) (v : Value), cs = [v] ∧ VR (cellsW W) noBM (.lst 1 (l.map i64) false) v ∧ l.length < 17592186044416 := by
  rcases DataW.trod_slice tyInts h with ⟨rfl, _⟩ | ⟨a, len, cap, elems, rest, n, _, rfl, rfl, hb, hlc, hcm, hel, hi, _, _⟩
  · exact ⟨[], _, rfl, by unfold VR; exact ⟨none, 0, rfl, Nat.le_refl _, (fun h => by cases h), fun h => (h rfl).elim⟩, by decide⟩
  · rw [s3] at hi
    obtain ⟨l, hl, hg⟩ := list_of (p := fun i (k : Int) => W.cells? base (a.add (i * 1)) 1 = some [.int .i64 k]) len fun i hil => by
      have h1 := hi i hil
      have h2 : elems[i]? = some (elems[i]'(by omega)) := List.getElem?_eq_getElem (by omega)
      rw [h2] at h1
      obtain ⟨cs', h3, h4⟩ := Option.bind_eq_some_iff.1 h1
      obtain ⟨k, rfl, _⟩ := rd_int ty3 h4
      exact ⟨k, h3⟩
    refine ⟨l, _, rfl, ?_, by
      have h1 := light_len tyInts hw
      rw [b3, List.length_map, hel] at h1
      unfold reachBytes at h1
      omega⟩
    unfold VR
    refine ⟨some a, cap, by simp [hl], by simpa [hl] using hlc, (fun h => by cases h), fun hne => ?_⟩
    have hpos : 0 < len := by
      rcases Nat.eq_zero_or_pos len with h | h
      · subst h
        have : l = [] := List.length_eq_zero_iff.1 hl
        subst this
        exact (hne rfl).elim
      · exact h
    have hspot : a.spot = none := by
      have h1 := hg 0 l[0] (List.getElem?_eq_getElem (by omega))
      obtain ⟨_, h3, h4⟩ := World.cells?_some h1
      have h5 := h4 0 (by decide)
      have := World.cell?_spot h5
      simpa [Addr.add] using this
    obtain ⟨B, q, spot⟩ := a
    simp only at hspot
    subst hspot
    refine ⟨B, q, rfl, ER_ints fun i k hk => ?_⟩
    have h1 := hg i k hk
    obtain ⟨_, h3, h4⟩ := World.cells?_some h1
    have h6 := h4 0 (by decide)
    have e7 : ((⟨B, q, none⟩ : Addr).add (i * 1)).add 0 = ⟨B, q + i * 1, none⟩ := by
      unfold Addr.add
      by_cases e1 : i = 0 <;> simp [e1]
    rw [e7] at h6
    exact h6
theorem rd_freedW (h : DataW.trod enc Tryz.prog W base sp held fuel 165 cs = some x) (hw : Light 165 x.1) : ∃ f : Freed, VRs (cellsW W) noBM f.cells cs ∧ (f.Ok ∧ f.pages.length < 17592186044416) := by
  obtain ⟨fs, hfs, f0, f1, h0, h1, t0, t1, o0, o1⟩ := tyFreed
  obtain ⟨xs, n, _, rfl, hl, hx, hi⟩ := DataW.trod_struct hfs h
  rw [szFreed] at hl
  have get : ∀ (i : Nat) (f : Field), fs[i]? = some f → ∃ y, DataW.trod enc Tryz.prog W base sp held n f.type ((cs.drop f.offset).take (Tryz.prog.cellsOf f.type)) = some y ∧ Light f.type y.1 := fun i f hf => by
    have h := hi i f hf
    have : i < fs.size := (Array.getElem?_eq_some_iff.1 hf).1
    rw [List.getElem?_eq_getElem (by omega)] at h
    exact ⟨_, h, light_part hfs hw hf (by rw [List.getElem?_map, List.getElem?_eq_getElem (by omega)]; rfl)⟩
  obtain ⟨_, y0, z0⟩ := get 0 f0 h0
  obtain ⟨_, y1, z1⟩ := get 1 f1 h1
  rw [t0, o0, s3] at y0
  rw [t1, o1, sIs] at y1
  rw [t1] at z1
  obtain ⟨k, e0, _⟩ := rd_int ty3 y0
  obtain ⟨l, v, e1, g1, gl⟩ := rd_intsW y1 z1
  have hcs := two_of hl (take_one e0) (take_one e1)
  refine ⟨⟨k, ⟨1, false⟩, l⟩, ?_, fun _ => rfl, gl⟩
  rw [hcs]
  exact @VRs_app _ _ [_] _ [_] _ (VRs_one (a := i64 k) (by unfold VR; rfl)) (VRs_one g1)
theorem rd_freedsW (h : DataW.trod enc Tryz.prog W base sp held fuel 23 cs = some x) (hw : Light 23 x.1) : ∃ (l : List Freed) (v : Value), cs = [v] ∧ VR (cellsW W) noBM (.lst 2 (l.map Freed.av) false) v ∧ ∀ f ∈ l, f.Ok ∧ f.pages.length < 17592186044416 := by
  obtain ⟨l, v, h1, h2, h3⟩ := rd_sliceW (g := Freed.cells) (ok := fun f => f.Ok ∧ f.pages.length < 17592186044416) tyFreeds szFreed (by decide) (fun fuel cs x h hw => rd_freedW h hw) h hw
  exact ⟨l, v, h1, h2, h3⟩
/-- A page. -/
theorem rd_pageW (h : DataW.trod enc Tryz.prog W base sp held fuel 25 cs = some x) (hw : Light 25 x.1) : ∃ p : Page, VRs (cellsW W) noBM p.cells cs ∧ (p.entries ≠ [] → p.esh.sz = 22) ∧ (p.freed ≠ [] → p.fsh.sz = 2) ∧ ∀ f ∈ p.freed, f.Ok ∧ f.pages.length < 17592186044416 := by
  obtain ⟨fs, hfs, f0, f1, f2, f3, f4, f5, f6, f7, f8, f9, h0, h1, h2, h3, h4, h5, h6, h7, h8, h9, t0, t1, t2, t3, t4, t5, t6, t7, t8, t9, o0, o1, o2, o3, o4, o5, o6, o7, o8, o9⟩ := tyPage
  obtain ⟨xs, n, _, rfl, hl, hx, hi⟩ := DataW.trod_struct hfs h
  rw [szPage] at hl
  have get : ∀ (i : Nat) (f : Field), fs[i]? = some f → ∃ y, DataW.trod enc Tryz.prog W base sp held n f.type ((cs.drop f.offset).take (Tryz.prog.cellsOf f.type)) = some y ∧ Light f.type y.1 := fun i f hf => by
    have h := hi i f hf
    have : i < fs.size := (Array.getElem?_eq_some_iff.1 hf).1
    rw [List.getElem?_eq_getElem (by omega)] at h
    exact ⟨_, h, light_part hfs hw hf (by rw [List.getElem?_map, List.getElem?_eq_getElem (by omega)]; rfl)⟩
  obtain ⟨_, y0, z0⟩ := get 0 f0 h0
  obtain ⟨_, y1, z1⟩ := get 1 f1 h1
  obtain ⟨_, y2, z2⟩ := get 2 f2 h2
  obtain ⟨_, y3, z3⟩ := get 3 f3 h3
  obtain ⟨_, y4, z4⟩ := get 4 f4 h4
  obtain ⟨_, y5, z5⟩ := get 5 f5 h5
  obtain ⟨_, y6, z6⟩ := get 6 f6 h6
  obtain ⟨_, y7, z7⟩ := get 7 f7 h7
  obtain ⟨_, y8, z8⟩ := get 8 f8 h8
  obtain ⟨_, y9, z9⟩ := get 9 f9 h9
  rw [t0, o0, s3] at y0
  rw [t1, o1, s3] at y1
  rw [t2, o2, s3] at y2
  rw [t3, o3, s3] at y3
  rw [t4, o4, s3] at y4
  rw [t5, o5, s4] at y5
  rw [t6, o6, sEs] at y6
  rw [t7, o7, s3] at y7
  rw [t8, o8, s9] at y8
  rw [t9, o9, sFs] at y9
  rw [t9] at z9
  obtain ⟨n0, e0, _⟩ := rd_int ty3 y0
  obtain ⟨n1, e1, _⟩ := rd_int ty3 y1
  obtain ⟨n2, e2, _⟩ := rd_int ty3 y2
  obtain ⟨n3, e3, _⟩ := rd_int ty3 y3
  obtain ⟨n4, e4, _⟩ := rd_int ty3 y4
  obtain ⟨b5, e5⟩ := rd_bool ty4 y5
  obtain ⟨es, v6, e6, g6⟩ := rd_entries y6
  obtain ⟨n7, e7, _⟩ := rd_int ty3 y7
  obtain ⟨s8, e8⟩ := rd_str ty9 y8
  obtain ⟨fr, v9, e9, g9, ok9⟩ := rd_freedsW y9 z9
  have hcs := ten_of hl (take_one e0) (take_one e1) (take_one e2) (take_one e3) (take_one e4) (take_one e5) (take_one e6) (take_one e7) (take_one e8) (take_one e9)
  refine ⟨⟨n0, n1, n2, n3, n4, b5, ⟨22, false⟩, es, n7, s8, ⟨2, false⟩, fr⟩, ?_, fun _ => rfl, fun _ => rfl, ok9⟩
  rw [hcs]
  show VRs (cellsW W) noBM [i64 n0, i64 n1, i64 n2, i64 n3, i64 n4, .bool b5, .lst 22 (es.map Entry.av) false, i64 n7, .str s8, .lst 2 (fr.map Freed.av) false] _
  have fi : ∀ k : Int, VR (cellsW W) noBM (i64 k) (.int .i64 k) := fun k => by unfold VR; rfl
  have fb : VR (cellsW W) noBM (.bool b5) (.bool b5) := by unfold VR; rfl
  have fs : VR (cellsW W) noBM (.str s8) (.string ⟨s8.toArray⟩) := by unfold VR; rfl
  exact @VRs_app _ _ [_] _ [_] _ (VRs_one (fi n0)) (@VRs_app _ _ [_] _ [_] _ (VRs_one (fi n1)) (@VRs_app _ _ [_] _ [_] _ (VRs_one (fi n2)) (@VRs_app _ _ [_] _ [_] _ (VRs_one (fi n3)) (@VRs_app _ _ [_] _ [_] _ (VRs_one (fi n4)) (@VRs_app _ _ [_] _ [_] _ (VRs_one fb) (@VRs_app _ _ [_] _ [_] _ (VRs_one g6) (@VRs_app _ _ [_] _ [_] _ (VRs_one (fi n7)) (@VRs_app _ _ [_] _ [_] _ (VRs_one fs) (VRs_one g9)))))))))
end
end Go.Proofs
/- The law PageLists: the row. -/
set_option linter.unusedVariables false
set_option linter.unusedSimpArgs false
namespace Go.Proofs
open Go Go.Abs Go.ChangeShapes Go.WideShapes Go.ChangeAt Go.RowKit
theorem tyPages : Tryz.prog.underlying 71 = some (.slice 25) := by kernel_rfl
section
variable {H : Type} {enc : TypeId × Value → H} {W : World} {base : Nat} {sp : Nat → Bool} {held : Bool} {fuel : Nat} {cs : List Value} {x : DataW H × List MemPlace}
theorem rd_pagesW (h : DataW.trod enc Tryz.prog W base sp held fuel 71 cs = some x) (hw : Light 71 x.1) : ∃ (l : List Page) (v : Value), cs = [v] ∧ VR (cellsW W) noBM (.lst 10 (l.map Page.av) false) v ∧ ∀ p ∈ l, PgIn p ∧ ∀ f ∈ p.freed, f.pages.length < 17592186044416 := by
  obtain ⟨l, v, h1, h2, h3⟩ := rd_sliceW (g := Page.cells) (ok := fun p => PgIn p ∧ ∀ f ∈ p.freed, f.pages.length < 17592186044416) tyPages szPage (by decide) (fun fuel cs x h hw => by
    obtain ⟨p, g, o1, o2, o3⟩ := rd_pageW h hw
    exact ⟨p, g, ⟨o1, o2, fun f hf => ⟨(o3 f hf).1, by have := (o3 f hf).2; omega⟩⟩, fun f hf => (o3 f hf).2⟩) h hw
  exact ⟨l, v, h1, h2, h3⟩
end
set_option maxRecDepth 100000 in
theorem pageLists_calls {H : Type} {enc : TypeId × Value → H} {W : World} {base : Nat} {args : Array Value} {ds gs : List (DataW H)} {before : List MemPlace}
    (hval : ∀ (j : Nat) t v, Tryz.f7.params[j]? = some t → args[j]? = some v → Value.okWide Tryz.prog W .any base t v)
    (hW : DataW.Whole enc Tryz.prog Tryz.f7.params.toList [] false W args.toList ds gs before)
    (hz : (DataW.weightsEach Tryz.prog (Tryz.f7.params.toList ++ (ChangeSpec.plain YtfddiediieblhaaGreat.Rows.pageListsSpec).varTypes Tryz.prog) (ds ++ gs)).all (· ≤ reachBytes) = true) : ∃ xs : List AV, VRs (cellsW W) noBM xs args.toList ∧ PureCalls Tryz.prog 7 xs (.ret (.bool true)) := by
  obtain ⟨p, q, hA0, _⟩ := hW
  have hA : DataW.TrodAll enc Tryz.prog W 0 (fun _ => true) true [23, 70, 3, 71] args.toList ds p := hA0
  rw [show Tryz.f7.params = #[23, 70, 3, 71] by kernel_rfl] at hval
  rw [show Tryz.f7.params = #[23, 70, 3, 71] by kernel_rfl] at hz
  obtain ⟨args⟩ := args
  simp only at hA
  obtain ⟨v0, vs0, d0, ds0, p0, q0, rfl, rfl, rfl, ⟨_, h0⟩, r0⟩ := trodAll_cons hA
  obtain ⟨v1, vs1, d1, ds1, p1, q1, rfl, rfl, rfl, ⟨_, h1⟩, r1⟩ := trodAll_cons r0
  obtain ⟨v2, vs2, d2, ds2, p2, q2, rfl, rfl, rfl, ⟨_, h2⟩, r2⟩ := trodAll_cons r1
  obtain ⟨v3, vs3, d3, ds3, p3, q3, rfl, rfl, rfl, ⟨_, h3⟩, r3⟩ := trodAll_cons r2
  obtain ⟨rfl, rfl, rfl⟩ := trodAll_nil r3
  obtain ⟨a0, len0, cap0, rfl⟩ := okWide_slice tyFreeds (hval 0 _ v0 rfl rfl)
  obtain ⟨l0, w0, e0, f0, i0⟩ := rd_freeds h0
  cases e0
  obtain ⟨a1, len1, cap1, rfl⟩ := okWide_slice tyInts (hval 1 _ v1 rfl rfl)
  obtain ⟨l1, w1, e1, f1, _⟩ := rd_ints h1
  cases e1
  obtain ⟨k2, rfl⟩ := okWide_int ty3 (hval 2 3 v2 rfl rfl)
  obtain ⟨a3, len3, cap3, rfl⟩ := okWide_slice tyPages (hval 3 _ v3 rfl rfl)
  have hw3 : Light 71 d3 := fun w hw => of_decide_eq_true (List.all_eq_true.1 hz w (DataW.weights_mem_each (j := 3) rfl rfl w hw))
  obtain ⟨l3, w3, e3, f3, i3⟩ := rd_pagesW h3 hw3
  cases e3
  have f2 : VR (cellsW W) noBM (i64 k2) (.int .i64 k2) := by unfold VR; rfl
  refine ⟨[.lst 2 (l0.map Freed.av) false, .lst 1 (l1.map i64) false, i64 k2, .lst 10 (l3.map Page.av) false], @VRs_app _ _ [_] _ [_] _ (VRs_one f0) (@VRs_app _ _ [_] _ [_] _ (VRs_one f1) (@VRs_app _ _ [_] _ [_] _ (VRs_one f2) (VRs_one f3))), ?_⟩
  exact pure_of_CN (n := 12) sum0_ok rfl (pageLists_eq (by omega) l0 i0 2 (fun _ => rfl) false l1 1 (fun _ => rfl) false k2 l3 i3 10 (fun _ => rfl) false)

set_option maxRecDepth 100000 in
theorem pageLists_lifted (os : Os) (started : os.Started) (H : Type) (enc : TypeId × Value → H) :
    ReturnsInHanded {} Tryz.checked os 7 .any (YtfddiediieblhaaGreat.Rows.pageListsSpec.pre6 enc Tryz.prog Tryz.f7 YtfddiediieblhaaGreat.Rows.pageListsRow.domain false) (YtfddiediieblhaaGreat.Rows.pageListsSpec.post enc Tryz.prog Tryz.f7 false true false false) := by
  refine returnsInHanded_of_change_sized (C := Tryz.checked) own started (by kernel_rfl) Tryz.func7
    (ChangeSpec.witness6 (enc := enc) (C := Tryz.checked) false ⟨#[], #[.slice none 0 0, .slice none 0 0, .int .i64 0, .slice none 0 0], []⟩ 8 (by kernel_rfl) (by kernel_rfl) (by kernel_rfl) (by kernel_rfl)) ?_
  intro W base args ds gs before hval hW _ hz _
  obtain ⟨xs, hv, hp⟩ := pageLists_calls hval hW hz
  refine law_call laid (by kernel_rfl) (tb := 4) (by kernel_rfl) ty4 rfl (fun ds hd => ?_) hW hv hp
  match ds, hd with
  | [_, _, _, _], _ => rfl
end Go.Proofs
namespace Go.Proofs.YtfddiediieblhaaGreat
open Go Go.Abs
/-- The law PageLists, for every input. -/
theorem pageLists_holds : Rows.PageListsSaid :=
  OpenClaim.holds_of_wide 7 Tryz.f7 rfl rfl rfl rfl rfl rfl rfl ⟨rfl, rfl, rfl, rfl, rfl⟩ rfl rfl rfl rfl rfl (by kernel_rfl) Tryz.func7 (by kernel_rfl)
    (of_decide_eq_true (by kernel_rfl)) (by unfold Func.isWrapper; first | (rw [if_pos (by decide +kernel)]; kernel_rfl) | (rw [if_neg (by decide +kernel)]; exact ⟨rfl, rfl⟩))
    (fun os started H enc _ => pageLists_lifted os started H enc)
#print axioms pageLists_holds
end Go.Proofs.YtfddiediieblhaaGreat
