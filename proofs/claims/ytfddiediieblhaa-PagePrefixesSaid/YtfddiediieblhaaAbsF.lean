/- Slices of the small machine stand for the program's. -/
import Derived.Test.YtfddiediieblhaaAbsE
set_option linter.unusedVariables false
set_option linter.unusedSimpArgs false
namespace Go.Abs

section
variable {P : Program} {n₀ : Nat} {w₀ : World} {S₀ S : SM} {m : BM} {h : AHeap} {w : World}

theorem ER.tail {sz : Nat} {x : AV} {xs : List AV} {B q : Nat} (he : ER S m sz (x :: xs) B q) : ER S m sz xs B (q + sz) := by
  cases x <;> unfold ER at he <;> exact he.2
theorem ER.head {sz : Nat} {x : AV} {xs ys : List AV} {B q : Nat} (he : ER S m sz (x :: xs) B q) (hy : ER S m sz ys B (q + sz)) : ER S m sz (x :: ys) B q := by
  cases x <;> unfold ER at he ⊢ <;> exact ⟨he.1, hy⟩
theorem ER.drop {sz : Nat} : ∀ (n : Nat) {xs : List AV} {B q : Nat}, ER S m sz xs B q → ER S m sz (xs.drop n) B (q + n * sz)
  | 0, _, _, _, he => by simpa using he
  | n + 1, [], _, _, _ => by simp; unfold ER; trivial
  | n + 1, x :: xs, B, q, he => by
    have := ER.drop n he.tail
    rw [show q + (n + 1) * sz = q + sz + n * sz by rw [Nat.add_mul]; omega]
    simpa using this
theorem ER.take {sz : Nat} : ∀ (n : Nat) {xs : List AV} {B q : Nat}, ER S m sz xs B q → ER S m sz (xs.take n) B q
  | 0, _, _, _, _ => by simp; unfold ER; trivial
  | n + 1, [], _, _, _ => by simp; unfold ER; trivial
  | n + 1, x :: xs, B, q, he => he.head (ER.take n he.tail)
theorem ER.cells {sz : Nat} {x : AV} {xs cs : List AV} {B q : Nat} (he : ER S m sz (x :: xs) B q) (hc : x.cells? = some cs) : CR S m cs B q := by
  have one : (∃ v, S B q = some v ∧ VR S m x v) → CR S m [x] B q := fun ⟨v, h1, h2⟩ => by unfold CR; exact ⟨⟨v, h1, h2⟩, by unfold CR; trivial⟩
  cases x <;> unfold ER at he <;> simp only [AV.cells?] at hc <;> first
    | (cases hc; done)
    | (cases hc; exact one he.1)
    | (split at hc
       · cases hc; exact he.1
       · cases hc)
theorem ER.get {sz : Nat} {xs : List AV} {B q : Nat} (he : ER S m sz xs B q) {i : Nat} {x : AV} {cs : List AV} (hx : xs[i]? = some x) (hc : x.cells? = some cs) : CR S m cs B (q + i * sz) := by
  have := he.drop i
  rw [List.drop_eq_getElem_cons (List.getElem?_eq_some_iff.1 hx).1, (List.getElem?_eq_some_iff.1 hx).2] at this
  exact this.cells hc
theorem CR.append : ∀ {cs ds : List AV} {B q : Nat}, CR S m cs B q → CR S m ds B (q + cs.length) → CR S m (cs ++ ds) B q
  | [], _, _, _, _, h2 => by simpa using h2
  | c :: cs, ds, B, q, h1, h2 => by
    unfold CR at h1
    show CR S m (c :: (cs ++ ds)) B q
    unfold CR
    exact ⟨h1.1, CR.append h1.2 (by simp only [List.length_cons] at h2; rwa [show q + (cs.length + 1) = q + 1 + cs.length by omega] at h2)⟩
theorem ER.flat {sz : Nat} : ∀ {xs : List AV} {B q : Nat}, ER S m sz xs B q → (∀ x ∈ xs, ∃ cs, x.cells? = some cs ∧ cs.length = sz) → CR S m (xs.flatMap fun x => x.cells?.getD []) B q
  | [], _, _, _, _ => by simp; unfold CR; trivial
  | x :: xs, B, q, he, hc => by
    obtain ⟨cs, h1, h2⟩ := hc x (by simp)
    simp only [List.flatMap_cons, h1, Option.getD_some]
    exact CR.append (he.cells h1) (by rw [h2]; exact ER.flat he.tail fun y hy => hc y (by simp [hy]))
/-- Elements out of cells that nobody will write to. -/
theorem ER.of_cells {sz : Nat} {d : TI} (hd : d.size = sz) : ∀ (n : Nat) {cs : List AV} {B q : Nat}, CR S m cs B q → cs.length = n * sz → cs.all AV.scal = true → (isAggD d.desc = false → sz = 1) → ER S m sz (elemsA d n cs) B q := by
  intro n cs B q hc hl hs h1
  unfold elemsA
  cases hag : isAggD d.desc with
  | false =>
    have := h1 hag; subst this
    simp only [hag, Bool.false_eq_true, if_false]
    clear hl h1 hd hag
    induction cs generalizing q with
    | nil => unfold ER; trivial
    | cons c cs ih =>
      unfold CR at hc
      simp at hs
      have hr := ih hc.2 (by simpa using hs.2)
      cases c <;> simp [AV.scal] at hs <;> unfold ER <;> exact ⟨hc.1, hr⟩
  | true =>
    simp only [hag, if_true]
    rw [hd]
    clear h1 hd hag
    induction n generalizing cs q with
    | zero => simp [chunk]; unfold ER; trivial
    | succ n ih =>
      simp only [chunk, List.map_cons]
      unfold ER
      have hspl : cs = cs.take sz ++ cs.drop sz := (List.take_append_drop _ _).symm
      have hlt : (cs.take sz).length = sz := by simp; rw [hl, Nat.add_mul]; omega
      refine ⟨CR.of_get _ _ _ fun i x hx => ?_, ih (CR.of_get _ _ _ fun i x hx => ?_) (by simp [hl, Nat.add_mul]) (by
        rw [List.all_eq_true] at hs ⊢; exact fun x hx => hs x (List.mem_of_mem_drop hx))⟩
      · rw [List.getElem?_take] at hx
        split at hx
        · exact hc.get _ i x hx
        · cases hx
      · rw [List.getElem?_drop] at hx
        have := hc.get _ _ x hx
        rwa [show q + (sz + i) = q + sz + i by omega] at this

def VO : Option Int → Option Value → Prop
  | none, v => v = none
  | some n, v => ∃ k, v = some (.int k n)

theorem bound_ok {k : IntKind} {i : Int} {y : Nat} {c : BoundsCode} (h0 : 0 ≤ i) (h1 : i ≤ y) : (Instr.sliceBound (.int k i) y c).run P w = .ok i.toNat w := by
  simp [Instr.sliceBound, asIntOf, h0, h1]

theorem bounds_ok {is : Bool} {len cap : Nat} {lo hi mx : Option Int} {lv hv mv : Option Value} (hl : VO lo lv) (hh : VO hi hv) (hm : VO mx mv) (hmh : mx.isSome = true → hi.isSome = true)
    (h0 : 0 ≤ lo.getD 0) (h1 : lo.getD 0 ≤ hi.getD len) (h2 : hi.getD len ≤ mx.getD cap) (h3 : mx.getD cap ≤ cap) :
    (Instr.sliceBounds is len cap lv hv mv).run P w = .ok ((lo.getD 0).toNat, (hi.getD len).toNat, (mx.getD cap).toNat) w := by
  have e : ∀ (a : Int), 0 ≤ a → (a.toNat : Int) = a := fun a ha => by omega
  cases mx with
  | none =>
    unfold VO at hm; subst hm
    simp only [Option.getD_none] at h2 h3 ⊢
    cases hi with
    | none =>
      unfold VO at hh; subst hh
      simp only [Option.getD_none] at h1 h2 ⊢
      cases lo with
      | none => unfold VO at hl; subst hl; simp [Instr.sliceBounds]
      | some l =>
        unfold VO at hl; obtain ⟨k, rfl⟩ := hl
        simp only [Option.getD_some] at h0 h1 ⊢
        simp [Instr.sliceBounds, bound_ok h0 h1]
    | some x =>
      unfold VO at hh; obtain ⟨k', rfl⟩ := hh
      simp only [Option.getD_some] at h1 h2 ⊢
      have hx0 : 0 ≤ x := by omega
      cases lo with
      | none => unfold VO at hl; subst hl; simp [Instr.sliceBounds, bound_ok hx0 h2]
      | some l =>
        unfold VO at hl; obtain ⟨k, rfl⟩ := hl
        simp only [Option.getD_some] at h0 h1 ⊢
        simp [Instr.sliceBounds, bound_ok hx0 h2, bound_ok (y := x.toNat) h0 (by omega)]
  | some y =>
    unfold VO at hm; obtain ⟨k'', rfl⟩ := hm
    simp only [Option.getD_some] at h2 h3 ⊢
    have hsome := hmh rfl
    cases hi with
    | none => cases hsome
    | some x =>
      unfold VO at hh; obtain ⟨k', rfl⟩ := hh
      simp only [Option.getD_some] at h1 h2 ⊢
      have hx0 : 0 ≤ x := by omega
      have hy0 : 0 ≤ y := by omega
      cases lo with
      | none => unfold VO at hl; subst hl; simp [Instr.sliceBounds, bound_ok hy0 h3, bound_ok (y := y.toNat) hx0 (by omega)]
      | some l =>
        unfold VO at hl; obtain ⟨k, rfl⟩ := hl
        simp only [Option.getD_some] at h0 h1 ⊢
        simp [Instr.sliceBounds, bound_ok hy0 h3, bound_ok (y := y.toNat) hx0 (by omega), bound_ok (y := x.toNat) h0 (by omega)]

theorem add_off (B q n : Nat) : (⟨B, q, none⟩ : Addr).add n = ⟨B, q + n, none⟩ := by unfold Addr.add; split <;> simp_all

theorem extract_mk (l : List UInt8) (a b : Nat) : (⟨l.toArray⟩ : ByteArray).extract a b = ⟨((l.take b).drop a).toArray⟩ := by
  apply ByteArray.ext
  apply Array.ext'
  rw [Lib.extract_data]
  simp [List.drop_take]

/-- A string, cut. -/
theorem slice_str {t : TypeId} (ht : P.underlying t = some .string) {s : List UInt8} {lo hi mx : Option Int} {lv hv mv : Option Value} (hl : VO lo lv) (hh : VO hi hv) (hm : VO mx mv) {r : AV} {v : Value}
    (hr : sliceA 1 (.str s) lo hi mx = some r) (hv' : VR S m (.str s) v) : ∃ u, (Instr.sliceAt t v lv hv mv).run P w = .ok u w ∧ VR S m r u := by
  unfold sliceA at hr
  simp only at hr
  split at hr
  · rename_i hc
    obtain ⟨c0, c1, c2, c3⟩ := hc
    cases hr
    cases mx with
    | some _ => simp at c0
    | none =>
      unfold VO at hm; subst hm
      unfold VR at hv'; subst hv'
      have hb := bounds_ok (P := P) (w := w) (is := false) (len := s.length) (cap := s.length) hl hh (mx := none) (mv := none) rfl (by simp) c1 c2 (by simpa using c3) (by simp)
      refine ⟨_, ?_, by unfold VR; rfl⟩
      simp [Instr.sliceAt, run_underlying' ht, Instr.slice, str_size, hb, extract_mk]
  · cases hr

/-- A slice, cut. -/
theorem slice_lst {t e : TypeId} {de : TI} (ht : P.underlying t = some (.slice e)) (he : ti P e = some de) {sz : Nat} {xs : List AV} {c0 : Bool} {lo hi mx : Option Int} {lv hv mv : Option Value} (hl : VO lo lv) (hh : VO hi hv) (hm : VO mx mv) {r : AV} {v : Value}
    (hr : sliceA de.size (.lst sz xs c0) lo hi mx = some r) (hv' : VR S m (.lst sz xs c0) v) : ∃ u, (Instr.sliceAt t v lv hv mv).run P w = .ok u w ∧ VR S m r u := by
  unfold VR at hv'
  obtain ⟨a, cap, rfl, g1, g2, g3⟩ := hv'
  have core : ∀ (M : Int), 0 ≤ lo.getD 0 → lo.getD 0 ≤ hi.getD xs.length → hi.getD xs.length ≤ M → M ≤ cap → M = mx.getD cap → (mx.isSome = true → hi.isSome = true) → hi.getD xs.length ≤ xs.length → (sz = de.size ∨ xs.length = 0) → ∀ c, (c = true → de.size ≠ 0 ∧ M = hi.getD xs.length) →
      ∃ u, (Instr.sliceAt t (.slice a xs.length cap) lv hv mv).run P w = .ok u w ∧ VR S m (.lst de.size ((xs.take (hi.getD xs.length).toNat).drop (lo.getD 0).toNat) c) u := by
    intro M k0 k1 k2 k3 k4 k5 k6 k7 c hcc
    subst k4
    have hb := bounds_ok (P := P) (w := w) (is := true) (len := xs.length) (cap := cap) hl hh hm k5 k0 k1 k2 k3
    refine ⟨_, by simp [Instr.sliceAt, run_underlying' ht, Instr.slice, hb, run_sizeOf' he]; rfl, ?_⟩
    unfold VR
    have hlen : ((xs.take (hi.getD xs.length).toNat).drop (lo.getD 0).toNat).length = (hi.getD xs.length).toNat - (lo.getD 0).toNat := by simp; omega
    rw [hlen]
    refine ⟨_, _, rfl, by omega, fun hc => by have := hcc hc; exact ⟨by omega, fun h0 => absurd h0 this.1⟩, fun hne => ?_⟩
    have hlt : (lo.getD 0).toNat < (hi.getD xs.length).toNat := by
      have : ((xs.take (hi.getD xs.length).toNat).drop (lo.getD 0).toNat).length ≠ 0 := fun h0 => hne (List.eq_nil_of_length_eq_zero h0)
      omega
    have hxs : xs ≠ [] := fun e => by subst e; simp at hne
    obtain ⟨B, q, rfl, her⟩ := g3 hxs
    have hsz : sz = de.size := k7.resolve_right (by have : xs.length ≠ 0 := by simpa using hxs
                                                    exact this)
    subst hsz
    rw [if_neg (by omega)]
    refine ⟨B, q + (lo.getD 0).toNat * de.size, by simp [add_off], (her.take _).drop _⟩
  unfold sliceA at hr
  simp only at hr
  cases mx with
  | some y =>
    simp only at hr
    split at hr
    · rename_i hc
      obtain ⟨d0, d1, d2, d3, d4, d5⟩ := hc
      cases hr
      exact core y d1 d2 d3 (by omega) rfl (fun _ => d0) (by omega) d5 _ (fun hc => by simp at hc; exact ⟨hc.1, hc.2⟩)
    · cases hr
  | none =>
    simp only at hr
    split at hr
    · rename_i hc
      obtain ⟨d1, d2, d3, d5⟩ := hc
      cases hr
      refine core cap d1 d2 (by omega) (Int.le_refl _) rfl (fun h => by cases h) d3 d5 _ (fun hc => ?_)
      simp at hc
      have := (g2 hc.2.1).1
      exact ⟨hc.1, by omega⟩
    · cases hr

theorem slice_sl {t e : TypeId} {de : TI} (ht : P.underlying t = some (.slice e)) (he : ti P e = some de) {sz b ver o len : Nat} {lo hi mx : Option Int} {lv hv mv : Option Value} (hl : VO lo lv) (hh : VO hi hv) (hm : VO mx mv) {r : AV} {v : Value}
    (hr : sliceA de.size (.sl sz b ver o len) lo hi mx = some r) (hv' : VR S m (.sl sz b ver o len) v) : ∃ u, (Instr.sliceAt t v lv hv mv).run P w = .ok u w ∧ VR S m r u := by
  unfold VR at hv'
  obtain ⟨B, K, cap, g1, rfl, g2, g3⟩ := hv'
  unfold sliceA at hr
  simp only at hr
  cases mx with
  | some y =>
    simp only at hr
    split at hr
    · rename_i hc
      obtain ⟨d0, d1, d2, d3, d4, rfl⟩ := hc
      have hb := bounds_ok (P := P) (w := w) (is := true) (len := len) (cap := cap) hl hh hm (fun _ => d0) d1 d2 d3 (by simp; omega)
      split at hr
      · rename_i e'
        cases hr
        refine ⟨_, by simp [Instr.sliceAt, run_underlying' ht, Instr.slice, hb, run_sizeOf' he]; rfl, ?_⟩
        unfold VR
        simp only [Option.getD_some] at *
        have h1 : (hi.getD len).toNat - (lo.getD 0).toNat = 0 := by omega
        have h2 : y.toNat - (lo.getD 0).toNat = 0 := by omega
        rw [h1, h2]
        exact ⟨_, 0, rfl, Nat.le_refl _, fun hs => ⟨rfl, fun h0 => by simp [h0] at hs⟩, fun hne => absurd rfl hne⟩
      · rename_i e'
        cases hr
        refine ⟨_, by simp [Instr.sliceAt, run_underlying' ht, Instr.slice, hb, run_sizeOf' he]; rfl, ?_⟩
        unfold VR
        simp only [Option.getD_some] at *
        rw [if_neg (by omega)]
        refine ⟨B, K, y.toNat - (lo.getD 0).toNat, g1, by simp [add_off]; omega, by omega, ?_⟩
        have : (lo.getD 0).toNat * de.size + (y.toNat - (lo.getD 0).toNat) * de.size ≤ cap * de.size := by
          rw [← Nat.add_mul]; exact Nat.mul_le_mul_right _ (by omega)
        omega
    · cases hr
  | none =>
    simp only at hr
    split at hr
    · rename_i hc
      obtain ⟨d1, d2, d3, rfl⟩ := hc
      have hb := bounds_ok (P := P) (w := w) (is := true) (len := len) (cap := cap) hl hh hm (fun h => by cases h) d1 d2 (by simp; omega) (by simp)
      split at hr
      · rename_i e'
        cases hr
        refine ⟨_, by simp [Instr.sliceAt, run_underlying' ht, Instr.slice, hb, run_sizeOf' he]; rfl, ?_⟩
        unfold VR
        have h1 : (hi.getD len).toNat - (lo.getD 0).toNat = 0 := by omega
        rw [h1]
        exact ⟨_, _, rfl, by simp, (fun h => by cases h), fun hne => absurd rfl hne⟩
      · rename_i e'
        cases hr
        refine ⟨_, by simp [Instr.sliceAt, run_underlying' ht, Instr.slice, hb, run_sizeOf' he]; rfl, ?_⟩
        unfold VR
        try simp only [Option.getD_none, Int.toNat_natCast]
        rw [if_neg (by omega)]
        refine ⟨B, K, cap - (lo.getD 0).toNat, g1, by simp [add_off]; omega, by omega, ?_⟩
        have : (lo.getD 0).toNat * de.size + (cap - (lo.getD 0).toNat) * de.size ≤ cap * de.size := by
          rw [← Nat.add_mul]; exact Nat.mul_le_mul_right _ (by omega)
        omega
    · cases hr
end
end Go.Abs
