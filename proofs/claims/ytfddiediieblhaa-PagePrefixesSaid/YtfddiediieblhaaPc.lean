/- Contracts: entries whose keys are put behind a string. -/
import Derived.Test.YtfddiediieblhaaPb
set_option linter.unusedVariables false
set_option linter.unusedSimpArgs false
namespace Go.Proofs
open Go Go.Abs
theorem appI {h : AHeap} {e : TypeId} {sz : Nat} {a b v : AV} {h' : AHeap} {K : AV → AHeap → Prop} (h1 : appR h e sz a b = some (v, some h')) (h2 : K v h') : ∃ r, appR h e sz a b = r ∧ WpA K h r := ⟨_, h1, h2⟩
def flat (l : List Entry) : List AV := l.flatMap Entry.cells
theorem cells_len (e : Entry) : e.cells.length = 22 := rfl
theorem cells_scal (e : Entry) : e.cells.all AV.scal = true := rfl
theorem flat_len (l : List Entry) : (flat l).length = l.length * 22 := by
  induction l with
  | nil => rfl
  | cons e r ih => simp only [flat, List.flatMap_cons, List.length_append, cells_len, List.length_cons] at *; omega
theorem flat_scal (l : List Entry) : (flat l).all AV.scal = true := by
  rw [List.all_eq_true]
  intro x hx
  obtain ⟨e, _, h2⟩ := List.mem_flatMap.1 hx
  exact List.all_eq_true.1 (cells_scal e) x h2
theorem flat_cons (e : Entry) (r : List Entry) : flat (e :: r) = e.cells ++ flat r := rfl
theorem first_entries (h : AHeap) (l : List Entry) (c : Bool) : firstA h 22 l.length (.lst 22 (l.map Entry.av) c) = some (flat l) := by
  unfold firstA
  simp only [List.length_map]
  rw [if_pos ⟨Nat.le_refl _, .inl trivial⟩]
  have h1 : (l.map Entry.av).take l.length = l.map Entry.av := List.take_of_length_le (by simp)
  rw [h1]
  have h2 : (l.map Entry.av).map AV.cells? = l.map fun e => some e.cells := by rw [List.map_map]; rfl
  rw [h2]
  rw [if_pos (by rw [List.all_eq_true]; intro x hx; obtain ⟨e, _, rfl⟩ := List.mem_map.1 hx; rfl)]
  congr 1
  rw [List.flatMap_map]; rfl
theorem app_entries (h : AHeap) (l : List Entry) (c : Bool) (hne : l ≠ []) (hl : l.length ≤ 1073741824) : appR h 51 22 (.lst 22 [] true) (.lst 22 (l.map Entry.av) c) = some (.sl 22 h.length 0 0 l.length, some (h ++ [.cells 0 (some 51) (flat l) 0])) := by
  have hn : l.length ≠ 0 := fun e => hne (List.length_eq_zero_iff.1 e)
  unfold appR
  have h1 : lenA (.lst 22 (l.map Entry.av) c) = some l.length := by simp [lenA]
  rw [h1]
  simp only
  rw [first_entries]
  simp only
  rw [if_neg (by simp [flat_scal l]), if_neg hn]
  have h2 : firstA h 22 ([] : List AV).length (.lst 22 [] true) = some [] := rfl
  rw [h2]
  simp only
  rw [if_pos ⟨by simpa using hl, rfl⟩]
  simp
theorem chunk_flat (l : List Entry) : chunk 22 l.length (flat l) = l.map Entry.cells := by
  induction l with
  | nil => rfl
  | cons e r ih =>
    show (flat (e :: r)).take 22 :: chunk 22 r.length ((flat (e :: r)).drop 22) = _
    rw [flat_cons, List.take_append_of_le_length (by rw [cells_len]; exact Nat.le_refl _), List.drop_append_of_le_length (by rw [cells_len]; exact Nat.le_refl _)]
    rw [List.take_of_length_le (by rw [cells_len]; exact Nat.le_refl _), List.drop_of_length_le (by rw [cells_len]; exact Nat.le_refl _), List.nil_append, ih]
    rfl
theorem cell_frz {n : Nat} (e : Entry) : ∀ x ∈ e.cells, FrzOk (n + 1) x := fun x hx => by
  simp only [Entry.cells, Dg.cells, List.mem_cons, List.not_mem_nil, or_false] at hx
  rcases hx with rfl | rfl | rfl | rfl | rfl | rfl | rfl | rfl | rfl | rfl | rfl | rfl | rfl | rfl | rfl | rfl | rfl | rfl | rfl | rfl | rfl | rfl <;> intro h <;> rfl
theorem entry_frz {n : Nat} (e : Entry) : FrzOk (n + 2) e.av := frzOk_agg (cell_frz e)
theorem frz_entries (h : AHeap) (l : List Entry) {b ver : Nat} {el : Option TypeId} {f : Nat} (hb : h[b]? = some (.cells ver el (flat l) f)) : frz h 64 (.sl 22 b ver 0 l.length) = some (.lst 22 (l.map Entry.av) false) := by
  unfold frz
  simp only [hb]
  rw [if_pos ⟨trivial, by rw [flat_len]; omega⟩]
  have h1 : ((flat l).drop 0).take (l.length * 22) = flat l := by rw [List.drop_zero]; exact List.take_of_length_le (by rw [flat_len]; exact Nat.le_refl _)
  rw [h1]
  have h2 : allM (frz h 63) (flat l) = some (flat l) := allM_id fun x hx => by
    obtain ⟨e, _, h2⟩ := List.mem_flatMap.1 hx
    exact cell_frz e x h2 h
  rw [h2]
  simp only
  rw [if_pos (flat_scal l)]
  show some (AV.lst 22 ((chunk 22 l.length (flat l)).map .agg) false) = _
  rw [chunk_flat, List.map_map]
  rfl
theorem flat_at : ∀ (l : List Entry) (j : Nat) (hj : j < l.length), (flat l)[j * 22]? = some (.str l[j].key)
  | [], j, hj => by simp at hj
  | e :: r, 0, _ => rfl
  | e :: r, j + 1, hj => by
    rw [flat_cons, List.getElem?_append_right (by rw [cells_len]; omega), cells_len]
    rw [show (j + 1) * 22 - 22 = j * 22 by omega]
    exact flat_at r j (by simpa using hj)
theorem flat_put : ∀ (l : List Entry) (j : Nat) (hj : j < l.length) (k : Str), putAt (flat l) (j * 22) [.str k] = flat (l.set j { l[j] with key := k })
  | [], j, hj, _ => by simp at hj
  | e :: r, 0, _, k => by
    show putAt (flat (e :: r)) 0 [.str k] = flat ({ e with key := k } :: r)
    rw [flat_cons, flat_cons]
    rfl
  | e :: r, j + 1, hj, k => by
    have ih := flat_put r j (by simpa using hj) k
    show putAt (flat (e :: r)) ((j + 1) * 22) [.str k] = flat (e :: r.set j { r[j]'(by simpa using hj) with key := k })
    rw [flat_cons, flat_cons, ← ih]
    unfold putAt
    rw [show (j + 1) * 22 = e.cells.length + j * 22 by rw [cells_len]; omega, List.take_length_add_append]
    rw [show e.cells.length + j * 22 + [AV.str k].length = e.cells.length + (j * 22 + [AV.str k].length) by omega, List.drop_length_add_append]
    simp
/-- Entries whose keys (but the first one of a branch) are put behind a string. -/
def behE (lv : Int) (s : Str) (j : Nat) (e : Entry) : Entry := if lv = 0 ∨ 0 < j then { e with key := s ++ e.key } else e
def beh (l : List Entry) (lv : Int) (s : Str) : List Entry := l.mapIdx (behE lv s)
section
variable {n : Nat} {h : AHeap}
theorem behind_eq (hn : 1 ≤ n) (l : List Entry) (hne : l ≠ []) (hl : l.length ≤ 1073741824) (he : ∀ e ∈ l, e.Ok) (lv : Int) (s : Str) (hs : s.length < 1099511627776) (sz : Nat) (hz : l ≠ [] → sz = 22) (c : Bool) :
    C n 16 [.lst sz (l.map Entry.av) c, i64 lv, .str s] h = some (.ret (.lst 22 ((beh l lv s).map Entry.av) false), h) := by
  obtain ⟨m, rfl⟩ : ∃ m, n = m + 1 := ⟨n - 1, by omega⟩
  have hsz := hz hne
  subst hsz
  refine fun_pure F16 rfl rfl rfl (pure_lst entry_pure l rfl) ?_
  conv => whnf
  refine ⟨rfl, ?_⟩
  conv => whnf
  refine appI (app_entries [] l c hne hl) ?_
  conv => whnf
  refine loopI (by decide) rfl (α := Nat × List Entry) (fun x => ⟨[(1, i64 lv), (2, .str s), (7, .sl 22 0 0 0 l.length), (8, i64 x.1)], [.cells 0 (some 51) (flat x.2) 0], []⟩)
    (fun x => x.1 ≤ l.length ∧ x.2.length = l.length ∧ ∀ k (hk : k < l.length), x.2[k]? = some (if k < x.1 then behE lv s k l[k] else l[k])) (fun x => l.length - x.1) (0, l) ⟨⟨rfl, rfl, rfl, rfl⟩, rfl, rfl⟩ ⟨Nat.zero_le _, rfl, fun k hk => by simp [hk]⟩ (by show l.length - 0 < KK; simp only [KK]; omega) ?_
  rintro ⟨j, t⟩ ⟨g1, g2, g3⟩
  simp only at g1 g2 g3
  conv => whnf
  refine brd (fun b => ?_) (fun b => ?_)
  · simp only at b
    have hj : j < l.length := by omega
    have hjt : j < t.length := by omega
    have htj : t[j] = l[j] := by
      have := g3 j hj
      rw [List.getElem?_eq_getElem hjt] at this
      simpa using this
    have hk := he _ (List.getElem_mem hj)
    have same : lv ≠ 0 → ¬ 0 < j → ∀ k (hk : k < l.length), t[k]? = some (if k < j + 1 then behE lv s k l[k] else l[k]) := fun h1 h2 k hk => by
      rw [g3 k hk]
      by_cases e : k = 0
      · subst e
        have : j = 0 := by omega
        subst this
        simp [behE, h1]
      · rw [if_neg (by omega), if_neg (by omega)]
    have turned : (lv = 0 ∨ 0 < j) → ∀ k (hk : k < l.length), (t.set j { t[j] with key := s ++ t[j].key })[k]? = some (if k < j + 1 then behE lv s k l[k] else l[k]) := fun h1 k hk => by
      rw [List.getElem?_set]
      by_cases e : j = k
      · subst e
        rw [if_pos rfl, if_pos hjt, if_pos (by omega), htj]
        simp [behE, h1]
      · rw [if_neg e, g3 k hk]
        by_cases e2 : k < j
        · rw [if_pos e2, if_pos (by omega)]
        · rw [if_neg e2, if_neg (by omega)]
    have hc := flat_len t
    have write : ∀ {K : AHeap → Prop}, K [AB.cells 0 (some 51) (flat (t.set j { t[j] with key := s ++ t[j].key })) 0] → K (List.set [AB.cells 0 (some 51) (flat t) 0] 0 (AB.cells 0 (some 51) (putAt (flat t) (0 + (j : Int).toNat * 22 + 0) [.str (s ++ t[j].key)]) 0)) := fun {K} hK => by
      rw [← flat_put t j hjt] at hK
      simpa using hK
    have store : ∀ {Q : Ex → LS → Prop} {st : LS}, (lv = 0 ∨ 0 < j) → LS.sub ⟨[(1, i64 lv), (2, .str s), (7, .sl 22 0 0 0 l.length), (8, i64 j)], [.cells 0 (some 51) (flat t) 0], []⟩ st →
        (∀ L, subL [(1, i64 lv), (2, .str s), (7, .sl 22 0 0 0 l.length), (8, i64 j)] L → Q .norm ⟨L, [.cells 0 (some 51) (flat (t.set j { t[j] with key := s ++ t[j].key })) 0], []⟩) → OkR Try.prog (C m) cfg0.inl KK 36 6 (cutOf c16) st Q := fun {Q st} h1 h2 h3 => by
      refine cutI (by decide) rfl h2 ?_
      conv => whnf
      refine ⟨by omega, by omega, rfl, ?_⟩
      conv => whnf
      refine ldI (by rfl) ?_
      refine wpartI (v := .str t[j].key) (by show (flat t)[0 + (j : Int).toNat * 22 + 0]? = _; rw [Int.toNat_natCast, Nat.zero_add, Nat.add_zero]; exact flat_at t j hjt) ?_
      conv => whnf
      refine ⟨by rw [htj]; have := hk.1; omega, ?_⟩
      conv => whnf
      refine ⟨by omega, by omega, rfl, ?_⟩
      conv => whnf
      refine stI (by rfl) (by rfl) (by rfl) (by rw [flat_len]; show Nat.ble (0 + (j : Int).toNat * 22 + 0 + 1) (t.length * 22) = true; exact Nat.ble_eq_true_of_le (by omega)) (by exact Nat.ble_eq_true_of_le (Nat.zero_le _)) ?_
      exact @write (fun hp => Q .norm ⟨_, hp, []⟩) (h3 _ ⟨rfl, rfl, rfl, rfl⟩)
    conv => whnf
    refine bre (fun d => ?_) (fun d => ?_)
    · conv => whnf
      refine store (.inl d) ⟨⟨rfl, rfl, rfl, rfl⟩, rfl, rfl⟩ (fun L hL => ?_)
      refine cutI (by decide) rfl (t := ⟨[(1, i64 lv), (2, .str s), (7, .sl 22 0 0 0 l.length), (8, i64 j)], [.cells 0 (some 51) (flat (t.set j { t[j] with key := s ++ t[j].key })) 0], []⟩) ⟨hL, rfl, rfl⟩ ?_
      conv => whnf
      refine zI (z := ((j + 1 : Nat) : Int)) (by rw [wrap_i64 (by omega) (by omega)]; rfl) ?_
      exact nxI (j + 1, t.set j { t[j] with key := s ++ t[j].key }) ⟨hj, by simpa using g2, turned (.inl d)⟩ (by simp only; omega) ⟨⟨rfl, rfl, rfl, rfl⟩, rfl, rfl⟩
    · conv => whnf
      refine brd (fun f => ?_) (fun f => ?_)
      · simp only at f
        conv => whnf
        refine store (.inr (by omega)) ⟨⟨rfl, rfl, rfl, rfl⟩, rfl, rfl⟩ (fun L hL => ?_)
        refine cutI (by decide) rfl (t := ⟨[(1, i64 lv), (2, .str s), (7, .sl 22 0 0 0 l.length), (8, i64 j)], [.cells 0 (some 51) (flat (t.set j { t[j] with key := s ++ t[j].key })) 0], []⟩) ⟨hL, rfl, rfl⟩ ?_
        conv => whnf
        refine zI (z := ((j + 1 : Nat) : Int)) (by rw [wrap_i64 (by omega) (by omega)]; rfl) ?_
        exact nxI (j + 1, t.set j { t[j] with key := s ++ t[j].key }) ⟨hj, by simpa using g2, turned (.inr (by omega))⟩ (by simp only; omega) ⟨⟨rfl, rfl, rfl, rfl⟩, rfl, rfl⟩
      · simp only at f
        conv => whnf
        refine cutI (by decide) rfl (t := ⟨[(1, i64 lv), (2, .str s), (7, .sl 22 0 0 0 l.length), (8, i64 j)], [.cells 0 (some 51) (flat t) 0], []⟩) ⟨⟨rfl, rfl, rfl, rfl⟩, rfl, rfl⟩ ?_
        conv => whnf
        refine zI (z := ((j + 1 : Nat) : Int)) (by rw [wrap_i64 (by omega) (by omega)]; rfl) ?_
        exact nxI (j + 1, t) ⟨hj, g2, same d (by omega)⟩ (by simp only; omega) ⟨⟨rfl, rfl, rfl, rfl⟩, rfl, rfl⟩
  · simp only at b
    have : j = l.length := by omega
    subst this
    have ht : t = beh l lv s := by
      apply List.ext_getElem?
      intro k
      by_cases hk : k < l.length
      · rw [g3 k hk, if_pos hk]
        unfold beh
        rw [List.getElem?_mapIdx, List.getElem?_eq_getElem hk]
        rfl
      · rw [List.getElem?_eq_none (by omega), List.getElem?_eq_none (by simp [beh]; omega)]
    conv => whnf
    refine cutI (by decide) rfl (t := ⟨[(7, .sl 22 0 0 0 l.length)], [.cells 0 (some 51) (flat t) 0], []⟩) ⟨rfl, rfl, rfl⟩ ?_
    conv => whnf
    refine retP rfl ?_
    rw [← ht]
    have := frz_entries [.cells 0 (some 51) (flat t) 0] t (b := 0) (ver := 0) (el := some 51) (f := 0) rfl
    rw [g2] at this
    exact this
end
end Go.Proofs
