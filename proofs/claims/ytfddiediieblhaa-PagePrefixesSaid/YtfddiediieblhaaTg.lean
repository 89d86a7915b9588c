/- Arguments as they are read: entries. -/
import Derived.Test.YtfddiediieblhaaTf
import Derived.Test.YtfddiediieblhaaAbsU
set_option linter.unusedVariables false
set_option linter.unusedSimpArgs false
namespace Go.Proofs
open Go Go.Abs Go.ChangeShapes Go.WideShapes Go.ChangeAt Go.RowKit

theorem ty3 : Try.prog.underlying 3 = some (.int .i64) := by kernel_rfl
theorem ty5 : Try.prog.underlying 5 = some (.int .u8) := by kernel_rfl
theorem ty9 : Try.prog.underlying 9 = some .string := by kernel_rfl
theorem ty4 : Try.prog.underlying 4 = some .bool := by kernel_rfl
theorem ty22 : Try.prog.underlying 22 = some (.slice 51) := by kernel_rfl
theorem ty49 : Try.prog.underlying 49 = some (.array 16 5) := by kernel_rfl
theorem sz51 : Try.prog.cellsOf 51 = 22 := by kernel_rfl
theorem sz49 : Try.prog.cellsOf 49 = 16 := by kernel_rfl
theorem sz5 : Try.prog.cellsOf 5 = 1 := by kernel_rfl
theorem own : ownKnob Try.prog.godebug = none := by kernel_rfl
theorem laid : laidOutB Try.prog = true := by kernel_rfl

section
variable {H : Type} {enc : TypeId × Value → H} {W : World} {base : Nat} {sp : Nat → Bool} {held : Bool} {fuel : Nat} {cs : List Value} {x : DataW H × List MemPlace}
theorem take_one {i : Nat} {v : Value} (h : (cs.drop i).take 1 = [v]) : cs[i]? = some v := by
  have : ((cs.drop i).take 1)[0]? = some v := by rw [h]; rfl
  simpa using this
theorem rd_dg (h : DataW.trod enc Try.prog W base sp held fuel 49 cs = some x) : ∃ d : Dg, VRs (cellsW W) noBM d.cells cs := by
  obtain ⟨xs, m, _, _, hl, hx, hi⟩ := DataW.trod_array ty49 h
  rw [sz49] at hl
  rw [sz5] at hi
  have hb : ∀ i, i < 16 → ∃ b : UInt8, cs[i]? = some (.int .u8 b.toNat) := fun i hi' => by
    have h1 := hi i hi'
    rw [List.getElem?_eq_getElem (by omega)] at h1
    obtain ⟨b, h2⟩ := rd_u8 ty5 h1
    rw [Nat.mul_one] at h2
    exact ⟨b, take_one h2⟩
  obtain ⟨b0, g0⟩ := hb 0 (by omega)
  obtain ⟨b1, g1⟩ := hb 1 (by omega)
  obtain ⟨b2, g2⟩ := hb 2 (by omega)
  obtain ⟨b3, g3⟩ := hb 3 (by omega)
  obtain ⟨b4, g4⟩ := hb 4 (by omega)
  obtain ⟨b5, g5⟩ := hb 5 (by omega)
  obtain ⟨b6, g6⟩ := hb 6 (by omega)
  obtain ⟨b7, g7⟩ := hb 7 (by omega)
  obtain ⟨b8, g8⟩ := hb 8 (by omega)
  obtain ⟨b9, g9⟩ := hb 9 (by omega)
  obtain ⟨b10, g10⟩ := hb 10 (by omega)
  obtain ⟨b11, g11⟩ := hb 11 (by omega)
  obtain ⟨b12, g12⟩ := hb 12 (by omega)
  obtain ⟨b13, g13⟩ := hb 13 (by omega)
  obtain ⟨b14, g14⟩ := hb 14 (by omega)
  obtain ⟨b15, g15⟩ := hb 15 (by omega)
  refine ⟨⟨b0, b1, b2, b3, b4, b5, b6, b7, b8, b9, b10, b11, b12, b13, b14, b15⟩, VRs_get (by rw [hl]; rfl) fun i a v ha hv => ?_⟩
  have hi16 : i < 16 := by
    rcases Nat.lt_or_ge i 16 with h | h
    · exact h
    · rw [List.getElem?_eq_none (by omega)] at hv; cases hv
  have : i = 0 ∨ i = 1 ∨ i = 2 ∨ i = 3 ∨ i = 4 ∨ i = 5 ∨ i = 6 ∨ i = 7 ∨ i = 8 ∨ i = 9 ∨ i = 10 ∨ i = 11 ∨ i = 12 ∨ i = 13 ∨ i = 14 ∨ i = 15 := by omega
  rcases this with rfl | rfl | rfl | rfl | rfl | rfl | rfl | rfl | rfl | rfl | rfl | rfl | rfl | rfl | rfl | rfl
  all_goals
    first
      | rw [g0] at hv | rw [g1] at hv | rw [g2] at hv | rw [g3] at hv | rw [g4] at hv | rw [g5] at hv | rw [g6] at hv | rw [g7] at hv | rw [g8] at hv | rw [g9] at hv | rw [g10] at hv | rw [g11] at hv | rw [g12] at hv | rw [g13] at hv | rw [g14] at hv | rw [g15] at hv
    cases hv
    cases ha
    unfold VR; rfl

theorem rd_entry (h : DataW.trod enc Try.prog W base sp held fuel 51 cs = some x) : ∃ e : Entry, VRs (cellsW W) noBM e.cells cs ∧ True := by
  obtain ⟨fs, hfs, f0, f1, f2, f3, f4, f5, f6, h0, h1, h2, h3, h4, h5, h6, t0, t1, t2, t3, t4, t5, t6, o0, o1, o2, o3, o4, o5, o6⟩ :
      ∃ fs : Array Field, Try.prog.underlying 51 = some (.struct fs) ∧ ∃ (f0 f1 f2 f3 f4 f5 f6 : Field), fs[0]? = some f0 ∧ fs[1]? = some f1 ∧ fs[2]? = some f2 ∧ fs[3]? = some f3 ∧ fs[4]? = some f4 ∧ fs[5]? = some f5 ∧ fs[6]? = some f6 ∧
        f0.type = 9 ∧ f1.type = 9 ∧ f2.type = 3 ∧ f3.type = 3 ∧ f4.type = 3 ∧ f5.type = 3 ∧ f6.type = 49 ∧ f0.offset = 0 ∧ f1.offset = 1 ∧ f2.offset = 2 ∧ f3.offset = 3 ∧ f4.offset = 4 ∧ f5.offset = 5 ∧ f6.offset = 6 := by
    refine ⟨_, Try.underlying51, _, _, _, _, _, _, _, rfl, rfl, rfl, rfl, rfl, rfl, rfl, rfl, rfl, rfl, rfl, rfl, rfl, rfl, rfl, rfl, rfl, rfl, rfl, rfl, rfl⟩
  obtain ⟨xs, n, _, _, hl, hx, hi⟩ := DataW.trod_struct hfs h
  rw [sz51] at hl
  have hsz : 7 ≤ fs.size := (Array.getElem?_eq_some_iff.1 h6).1
  have get : ∀ (i : Nat) (f : Field), fs[i]? = some f → ∃ y, DataW.trod enc Try.prog W base sp held n f.type ((cs.drop f.offset).take (Try.prog.cellsOf f.type)) = some y := fun i f hf => by
    have h := hi i f hf
    have : i < fs.size := (Array.getElem?_eq_some_iff.1 hf).1
    rw [List.getElem?_eq_getElem (by omega)] at h
    exact ⟨_, h⟩
  have s9 : Try.prog.cellsOf 9 = 1 := by kernel_rfl
  have s3 : Try.prog.cellsOf 3 = 1 := by kernel_rfl
  obtain ⟨_, y0⟩ := get 0 f0 h0
  obtain ⟨_, y1⟩ := get 1 f1 h1
  obtain ⟨_, y2⟩ := get 2 f2 h2
  obtain ⟨_, y3⟩ := get 3 f3 h3
  obtain ⟨_, y4⟩ := get 4 f4 h4
  obtain ⟨_, y5⟩ := get 5 f5 h5
  obtain ⟨_, y6⟩ := get 6 f6 h6
  rw [t0, o0, s9] at y0
  rw [t1, o1, s9] at y1
  rw [t2, o2, s3] at y2
  rw [t3, o3, s3] at y3
  rw [t4, o4, s3] at y4
  rw [t5, o5, s3] at y5
  rw [t6, o6, sz49] at y6
  obtain ⟨k, e0⟩ := rd_str ty9 y0
  obtain ⟨v, e1⟩ := rd_str ty9 y1
  obtain ⟨n2, e2, _⟩ := rd_int ty3 y2
  obtain ⟨n3, e3, _⟩ := rd_int ty3 y3
  obtain ⟨n4, e4, _⟩ := rd_int ty3 y4
  obtain ⟨n5, e5, _⟩ := rd_int ty3 y5
  obtain ⟨d, e6⟩ := rd_dg y6
  have hcs : cs = [.string ⟨k.toArray⟩, .string ⟨v.toArray⟩, .int .i64 n2, .int .i64 n3, .int .i64 n4, .int .i64 n5] ++ (cs.drop 6).take 16 := by
    have g0 := take_one e0
    have g1 := take_one e1
    have g2 := take_one e2
    have g3 := take_one e3
    have g4 := take_one e4
    have g5 := take_one e5
    apply List.ext_getElem?
    intro i
    have : i = 0 ∨ i = 1 ∨ i = 2 ∨ i = 3 ∨ i = 4 ∨ i = 5 ∨ 6 ≤ i := by omega
    rcases this with rfl | rfl | rfl | rfl | rfl | rfl | h
    · exact g0
    · exact g1
    · exact g2
    · exact g3
    · exact g4
    · exact g5
    · rw [List.getElem?_append_right (by simpa using h)]
      simp only [List.length_cons, List.length_nil]
      rw [List.getElem?_take]
      by_cases h' : i - 6 < 16
      · rw [if_pos h', List.getElem?_drop]
        show cs[i]? = cs[6 + (i - 6)]?
        rw [show 6 + (i - 6) = i by omega]
      · rw [if_neg h', List.getElem?_eq_none (by omega)]
  refine ⟨⟨k, v, n2, n3, n4, n5, d⟩, ?_, trivial⟩
  rw [hcs]
  show VRs (cellsW W) noBM ([.str k, .str v, i64 n2, i64 n3, i64 n4, i64 n5] ++ d.cells) _
  refine VRs_app ?_ e6
  repeat' (first | exact VRs_one (by unfold VR; rfl) | (refine @VRs_app _ _ [_] _ [_] _ (VRs_one (by unfold VR; rfl)) ?_))

/-- A slice of entries. -/
theorem rd_entries (h : DataW.trod enc Try.prog W base sp held fuel 22 cs = some x) : ∃ (l : List Entry) (v : Value), cs = [v] ∧ VR (cellsW W) noBM (.lst 22 (l.map Entry.av) false) v := by
  obtain ⟨l, v, h1, h2, _⟩ := rd_slice (g := Entry.cells) (ok := fun _ => True) ty22 sz51 (by decide) (fun fuel cs x h => rd_entry h) h
  exact ⟨l, v, h1, h2⟩
end
end Go.Proofs
