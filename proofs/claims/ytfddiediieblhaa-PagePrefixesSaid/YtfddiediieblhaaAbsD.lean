/- What the small machine's reads, writes and values stand for. -/
import Derived.Test.YtfddiediieblhaaAbsC
import Derived.Laws.Build
set_option linter.unusedVariables false
set_option linter.unusedSimpArgs false
namespace Go.Abs

section
variable {P : Program} {S : SM} {m : BM}

theorem ofV1_sound {v : Value} {x : AV} (h : ofV1 v = some x) : VR S m x v := by
  unfold ofV1 at h
  split at h <;> first | (cases h; done) | (cases h; unfold VR; first | rfl | exact ⟨none, 0, rfl, Nat.le_refl _, fun _ => ⟨rfl, fun _ => rfl⟩, fun h => absurd rfl h⟩)

theorem ofVs_sound : ∀ {vs : List Value} {xs : List AV}, ofVs vs = some xs → VRs S m xs vs
  | [], _, h => by unfold ofVs at h; cases h; unfold VRs; rfl
  | v :: vs, _, h => by
    unfold ofVs at h
    split at h
    · rename_i x xs h1 h2
      cases h
      unfold VRs
      exact ⟨v, vs, rfl, ofV1_sound h1, ofVs_sound h2⟩
    · cases h

theorem ofV_sound {v : Value} {x : AV} (h : ofV v = some x) : VR S m x v := by
  unfold ofV at h
  split at h
  · rename_i cs
    cases hx : ofVs cs.toList with
    | none => simp [hx] at h
    | some xs =>
      simp [hx] at h; subst h
      unfold VR
      exact ⟨cs, rfl, ofVs_sound hx⟩
  · exact ofV1_sound h

theorem ti_spec {t : TypeId} {d : TI} (h : ti P t = some d) : P.underlying t = some d.desc ∧ ∃ i z, P.info? t = some i ∧ i.size = d.size ∧ i.bytes = d.bytes ∧ i.zero = some z ∧ ofVs z.cells.toList = some d.zero := by
  unfold ti at h
  split at h
  · rename_i i d' h1 h2
    split at h
    · rename_i z h3
      split at h
      · rename_i zs h4
        cases h
        exact ⟨h2, i, z, h1, rfl, rfl, h3, h4⟩
      · cases h
    · cases h
  · cases h

theorem run_underlying' {t : TypeId} {d : TypeDesc} (h : P.underlying t = some d) (w : World) : (underlying t).run P w = .ok d w := by simp [underlying, h]
theorem run_sizeOf' {t : TypeId} {d : TI} (h : ti P t = some d) (w : World) : (sizeOf t).run P w = .ok d.size w := by
  obtain ⟨_, i, z, h1, h2, _⟩ := ti_spec h
  simp [sizeOf, typeInfo, h1, h2]
theorem run_isAgg' {t : TypeId} {d : TI} (h : ti P t = some d) (w : World) : (isAgg t).run P w = .ok (isAggD d.desc) w := by
  have := (ti_spec h).1
  simp only [isAgg, Sem.run_bind, run_underlying' this, Result.andThen_ok]
  cases d.desc <;> simp [isAggD]
theorem run_zero' {t : TypeId} {d : TI} (h : ti P t = some d) (w : World) : ∃ z, (zeroValue t).run P w = .ok z w ∧ ∀ S m, VRs S m d.zero z.cells.toList := by
  obtain ⟨_, i, z, h1, h2, _, h3, h4⟩ := ti_spec h
  exact ⟨z, by simp [zeroValue, typeInfo, h1, h3], fun S m => ofVs_sound h4⟩

/-- Cells that stand in memory from an offset on. -/
def At (S : SM) (m : BM) (w : World) (cs : List AV) (B q : Nat) : Prop := ∀ (i : Nat) (x : AV), cs[i]? = some x → ∃ v, w.cell? ⟨B, q + i, none⟩ = some v ∧ VR S m x v

theorem CR.get : ∀ (cs : List AV) {B q : Nat}, CR S m cs B q → ∀ (i : Nat) (x : AV), cs[i]? = some x → ∃ v, S B (q + i) = some v ∧ VR S m x v
  | [], _, _, _, i, x, hx => by simp at hx
  | y :: ys, B, q, h, i, x, hx => by
    unfold CR at h
    obtain ⟨⟨v, h1, h2⟩, h3⟩ := h
    cases i with
    | zero => simp at hx; subst hx; exact ⟨v, h1, h2⟩
    | succ i =>
      obtain ⟨u, h4, h5⟩ := CR.get ys h3 i x (by simpa using hx)
      exact ⟨u, by rw [show q + (i + 1) = q + 1 + i by omega]; exact h4, h5⟩

theorem CR.of_get : ∀ (cs : List AV) (B q : Nat), (∀ (i : Nat) (x : AV), cs[i]? = some x → ∃ v, S B (q + i) = some v ∧ VR S m x v) → CR S m cs B q
  | [], _, _, _ => by unfold CR; trivial
  | y :: ys, B, q, h => by
    unfold CR
    refine ⟨by simpa using h 0 y rfl, CR.of_get ys B (q + 1) fun i x hx => ?_⟩
    have := h (i + 1) x (by simpa using hx)
    rwa [show q + (i + 1) = q + 1 + i by omega] at this

variable {n₀ : Nat} {w₀ : World} {S₀ : SM} {h : AHeap} {w : World}

theorem CR.at (s : Sim n₀ w₀ S₀ S m h w) {cs : List AV} {B q : Nat} (hc : CR S m cs B q) : At S m w cs B q := fun i x hx =>
  let ⟨v, h1, h2⟩ := hc.get _ i x hx
  ⟨v, s.stable _ _ _ h1, h2⟩

theorem blk_at (s : Sim n₀ w₀ S₀ S m h w) {b ver frz : Nat} {el' : Option TypeId} {cs : List AV} (hb : h[b]? = some (.cells ver el' cs frz)) :
    ∃ B K el vs fz, m b ver = some (B, K) ∧ w.heap[B]? = some (.cells vs el fz) ∧ vs.size = K ∧ cs.length ≤ K ∧ VRs S m cs (vs.toList.take cs.length) ∧ At S m w cs B 0 ∧ (∀ o, frz ≤ o → o < K → w.frozen? ⟨B, o, none⟩ = false) := by
  obtain ⟨B, K, el, vs, fz, h1, h2, h3, h4, h5, h6, h7, h8⟩ := s.blk b _ hb
  refine ⟨B, K, el, vs, fz, h1, h3, h4, ?_, h5, fun i x hx => ?_, h7⟩
  · have := h5.length; simp at this; omega
  · obtain ⟨v, g1, g2⟩ := h5.get _ i x hx
    refine ⟨v, ?_, g2⟩
    rw [List.getElem?_take] at g1
    split at g1
    · simp only [World.cell?, h3, Nat.zero_add, Option.isSome_none, Bool.false_eq_true, if_false]; simpa using g1
    · cases g1

theorem At.drop {cs : List AV} {B q : Nat} (ha : At S m w cs B q) (o : Nat) : At S m w (cs.drop o) B (q + o) := fun i x hx => by
  rw [List.getElem?_drop] at hx
  have := ha (o + i) x hx
  rwa [show q + (o + i) = q + o + i by omega] at this

theorem At.take {cs : List AV} {B q : Nat} (ha : At S m w cs B q) (n : Nat) : At S m w (cs.take n) B q := fun i x hx => by
  rw [List.getElem?_take] at hx
  split at hx
  · exact ha i x hx
  · cases hx

/-- Cells, loaded. -/
theorem At.load {cs : List AV} {B q : Nat} (ha : At S m w cs B q) : ∃ vs : List Value, (loadCells ⟨B, q, none⟩ cs.length).run P w = .ok vs.toArray w ∧ VRs S m cs vs := by
  have hex : ∃ vs : List Value, vs.length = cs.length ∧ (∀ (j : Nat) (v : Value), vs[j]? = some v → w.cell? ⟨B, q + j, none⟩ = some v) ∧ VRs S m cs vs := by
    induction cs generalizing q with
    | nil => exact ⟨[], rfl, fun j v hv => by simp at hv, by unfold VRs; rfl⟩
    | cons c cs ih =>
      obtain ⟨v, h1, h2⟩ := ha 0 c rfl
      obtain ⟨vs, g1, g2, g3⟩ := ih (q := q + 1) (fun i x hx => by have := ha (i + 1) x (by simpa using hx); rwa [show q + (i + 1) = q + 1 + i by omega] at this)
      refine ⟨v :: vs, by simp [g1], fun j u hu => ?_, by unfold VRs; exact ⟨v, vs, rfl, h2, g3⟩⟩
      cases j with
      | zero => simp at hu; subst hu; exact h1
      | succ j => have := g2 j u (by simpa using hu); rwa [show q + 1 + j = q + (j + 1) by omega] at this
  obtain ⟨vs, g1, g2, g3⟩ := hex
  refine ⟨vs, ?_, g3⟩
  rw [← g1]
  refine run_loadCells_list w _ vs fun j v hv => ?_
  have hadd : (⟨B, q, none⟩ : Addr).add j = ⟨B, q + j, none⟩ := by unfold Addr.add; split <;> simp_all
  rw [hadd]; exact g2 j v hv

/-- A value of a type, loaded. -/
theorem loadVar_sound {t : TypeId} {d : TI} (ht : ti P t = some d) {cs : List AV} {B q o : Nat} {x : AV} (ha : At S m w cs B q) (hx : partA d cs o = some x) :
    ∃ v, (loadVar t ⟨B, q + o, none⟩).run P w = .ok v w ∧ VR S m x v := by
  unfold partA at hx
  cases hd : isAggD d.desc with
  | true =>
    simp only [hd, if_true] at hx
    split at hx
    · rename_i hlen
      cases hx
      obtain ⟨vs, g1, g2⟩ := ((ha.drop o).take d.size).load (P := P)
      have hl : ((cs.drop o).take d.size).length = d.size := by simp; omega
      rw [hl] at g1
      refine ⟨.agg vs.toArray, by simp [loadVar, run_isAgg' ht, hd, run_sizeOf' ht, g1], ?_⟩
      unfold VR
      exact ⟨_, rfl, by simpa using g2⟩
    · cases hx
  | false =>
    simp only [hd, Bool.false_eq_true, if_false] at hx
    obtain ⟨v, h1, h2⟩ := ha o x hx
    exact ⟨v, by simp [loadVar, run_isAgg' ht, hd, h1], h2⟩

theorem part_sound {t : TypeId} {d : TI} (ht : ti P t = some d) {cs : List AV} {vs : Array Value} {o : Nat} {x : AV} (hv : VRs S m cs vs.toList) (hx : partA d cs o = some x) :
    ∃ v, (part t vs o).run P w = .ok v w ∧ VR S m x v := by
  unfold partA at hx
  cases hd : isAggD d.desc with
  | true =>
    simp only [hd, if_true] at hx
    split at hx
    · cases hx
      refine ⟨.agg (vs.extract o (o + d.size)), by simp [part, run_isAgg' ht, hd, run_sizeOf' ht], ?_⟩
      unfold VR
      refine ⟨_, rfl, ?_⟩
      have := (hv.drop o).take d.size
      rw [Array.toList_extract]
      simpa [List.extract_eq_take_drop] using this
    · cases hx
  | false =>
    simp only [hd, Bool.false_eq_true, if_false] at hx
    obtain ⟨v, h1, h2⟩ := hv.get _ o x hx
    refine ⟨v, ?_, h2⟩
    have h1' : vs[o]? = some v := by simpa using h1
    simp [part, run_isAgg' ht, hd, h1']

theorem scal_one {x : AV} {v : Value} (hs : x.scal = true) (h : VR S m x v) : v.oneCell' = true := by
  cases x <;> simp [AV.scal] at hs <;> unfold VR at h
  all_goals first
    | (subst h; rfl)
    | (obtain ⟨_, _, _, rfl⟩ := h; rfl)
    | (obtain ⟨_, _, rfl, _⟩ := h; rfl)
    | (obtain ⟨_, _, _, _, rfl, _⟩ := h; rfl)
    | (obtain ⟨_, rfl, _⟩ := h; rfl)
    | (obtain ⟨_, _, ⟨_, rfl, _⟩, _⟩ := h; rfl)

theorem scals_one : ∀ {cs : List AV} {vs : List Value}, cs.all AV.scal = true → VRs S m cs vs → ∀ v ∈ vs, v.oneCell' = true
  | [], _, _, h, v, hv => by unfold VRs at h; subst h; cases hv
  | c :: cs, _, hs, h, v, hv => by
    unfold VRs at h
    obtain ⟨u, us, rfl, h1, h2⟩ := h
    simp at hs
    cases hv with
    | head => exact scal_one hs.1 h1
    | tail _ hv => exact scals_one (by simpa using hs.2) h2 v hv

theorem one_cells {v : Value} (h : v.oneCell' = true) : v.cells = #[v] := by cases v <;> first | rfl | (simp [Value.oneCell'] at h)

theorem cells_sound {x : AV} {v : Value} {cs : List AV} (hx : x.cells? = some cs) (h : VR S m x v) : VRs S m cs v.cells.toList ∧ cs.all AV.scal = true := by
  have one : ∀ y : AV, y.scal = true → VR S m y v → y.cells? = some [y] → x = y → VRs S m cs v.cells.toList ∧ cs.all AV.scal = true := fun y hy hv he e => by
    subst e
    rw [hx] at he; cases he
    rw [one_cells (scal_one hy hv)]
    exact ⟨by unfold VRs; exact ⟨v, [], rfl, hv, by unfold VRs; rfl⟩, by simp [hy]⟩
  cases x with
  | undef => simp [AV.cells?] at hx
  | tup _ => simp [AV.cells?] at hx
  | agg l =>
    simp only [AV.cells?] at hx
    split at hx
    · rename_i hl
      cases hx
      unfold VR at h
      obtain ⟨vs, rfl, hv⟩ := h
      exact ⟨hv, hl⟩
    · cases hx
  | _ => exact one _ rfl h rfl rfl

/-- Cells, stored: the whole row. -/
theorem storeCells_sound (P : Program) (g o : Nat) (t : TypeId) (fz : Nat × Nat) : ∀ (vs : List Value) (i : Nat) (cur : Array Value) (w : World), w.heap[g]? = some (.cells cur t fz) → (∀ j, j < vs.length → w.frozen? ⟨g, o + i + j, none⟩ = false) → o + i + vs.length ≤ cur.size → (∀ v ∈ vs, v.oneCell' = true) →
    (storeCells ⟨g, o, none⟩ vs i).run P w = .ok () (w.setRow g (cur.toList.take (o + i) ++ vs ++ cur.toList.drop (o + i + vs.length)).toArray)
  | [], i, cur, w, hg, _, _, _ => by
    simp only [storeCells, List.append_nil, List.length_nil, Nat.add_zero, List.take_append_drop, Array.toArray_toList]
    rw [setRow_self w g cur t fz hg]
    rfl
  | v :: rest, i, cur, w, hg, hfz, hl, h1 => by
    have hi : o + i < cur.size := by simp at hl; omega
    have hadd : (⟨g, o, none⟩ : Addr).add i = ⟨g, o + i, none⟩ := by unfold Addr.add; split <;> simp_all
    have hcell : w.cell? ⟨g, o + i, none⟩ = some cur[o + i] := by simp [World.cell?, hg, hi]
    have hfro : w.frozen? ⟨g, o + i, none⟩ = false := by simpa using hfz 0 (by simp)
    have hst : (store ((⟨g, o, none⟩ : Addr).add i) v).run P w = .ok () (w.setRow g (cur.setIfInBounds (o + i) v)) := by
      rw [hadd, run_store P w _ v _ (h1 v (by simp)), hcell]
      simp [hfro, setCell_eq_setRow w g (o + i) cur t fz v hg]
    have ih := storeCells_sound P g o t fz rest (i + 1) (cur.setIfInBounds (o + i) v) (w.setRow g (cur.setIfInBounds (o + i) v)) (setRow_heap w g cur _ t _ hg) (fun j hj => by
        have := hfz (j + 1) (by simp; omega)
        rw [show o + (i + 1) + j = o + i + (j + 1) by omega]
        unfold World.frozen? at *
        simp only [setRow_heap w g cur _ t _ hg]
        simpa [hg] using this) (by simp at hl ⊢; omega) (fun x hx => h1 x (by simp [hx]))
    simp only [storeCells, Sem.run_bind, hst, Result.andThen_ok, ih, setRow_setRow]
    congr 3
    have e := list_seg_step cur.toList (o + i) v rest (by simp at hl ⊢; omega)
    simpa [Array.toList_setIfInBounds, Nat.add_assoc] using e

/-- Cells of a block of the machine's own, stored. -/
theorem store_blk (s : Sim n₀ w₀ S₀ S m h w) {b ver frz o : Nat} {el' : Option TypeId} {cs xs : List AV} {us : List Value} (hb : h[b]? = some (.cells ver el' cs frz)) (hx : VRs S m xs us) (hs : xs.all AV.scal = true) (hl : o + xs.length ≤ cs.length) (hf : frz ≤ o) :
    ∃ B K, m b ver = some (B, K) ∧ ∃ w' m', (storeCells ⟨B, o, none⟩ us).run P w = .ok () w' ∧ m.le m' ∧ Sim n₀ w₀ S₀ S m' (h.set b (.cells ver el' (putAt cs o xs) frz)) w' := by
  obtain ⟨B, K, el, vs, fz, h1, h2, h3, h4, h5, h6, h7⟩ := blk_at s hb
  have hlx := hx.length
  have hrun := storeCells_sound P B o el fz us 0 vs w h2 (fun j hj => h7 _ (by omega) (by omega)) (by omega) (scals_one hs hx)
  refine ⟨B, K, h1, _, _, hrun, s.write hb h1 h2 (vs' := (vs.toList.take (o + 0) ++ us ++ vs.toList.drop (o + 0 + us.length)).toArray) (ver' := ver) (by simp; omega) ?_ (Nat.le_refl _)⟩
  have hlen : (putAt cs o xs).length = cs.length := by unfold putAt; simp; omega
  rw [hlen]
  have := h5.putAt hx o
  simp only [Nat.add_zero]
  refine VRs.of_get _ _ (by simp [hlen]; omega) fun i x v hxi hvi => ?_
  obtain ⟨v', g1, g2⟩ := this.get _ i x hxi
  have hic : i < cs.length := by rw [← hlen]; exact (List.getElem?_eq_some_iff.1 hxi).1
  have : v' = v := by
    have e1 : ((vs.toList.take cs.length).take o ++ us ++ (vs.toList.take cs.length).drop (o + us.length))[i]? = (vs.toList.take o ++ us ++ vs.toList.drop (o + us.length))[i]? := by
      rw [List.take_take, show min o cs.length = o by omega]
      by_cases hi : i < (vs.toList.take o ++ us).length
      · rw [List.getElem?_append_left hi, List.getElem?_append_left hi]
      · rw [List.getElem?_append_right (by omega), List.getElem?_append_right (by omega), List.getElem?_drop, List.getElem?_drop, List.getElem?_take]
        simp at hi
        rw [if_pos (by simp; omega)]
    rw [e1] at g1
    have hvi' : (vs.toList.take o ++ us ++ vs.toList.drop (o + us.length))[i]? = some v := by
      have := hvi
      rw [List.getElem?_take, if_pos hic] at this
      simpa using this
    rw [g1] at hvi'; cases hvi'; rfl
  subst this; exact g2
end
end Go.Abs
