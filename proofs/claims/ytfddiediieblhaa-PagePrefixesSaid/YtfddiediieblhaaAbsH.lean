/- Copying, converting, making, indexing. -/
import Derived.Test.YtfddiediieblhaaAbsG
import Derived.Laws.BytesArg
import Derived.Laws.StructEq
set_option linter.unusedVariables false
set_option linter.unusedSimpArgs false
namespace Go.Abs

section
variable {P : Program} {n₀ : Nat} {w₀ : World} {S₀ S : SM} {m : BM} {h : AHeap} {w : World}

theorem slLen_sound {x : AV} {a : Value} {la : Nat} (hla : slLen x = some la) (hx : VR S m x a) : ∃ base cap, a = .slice base la cap := by
  cases x <;> simp only [slLen] at hla <;> first | (cases hla; done) | skip
  · cases hla; unfold VR at hx; obtain ⟨a, cap, rfl, _⟩ := hx; exact ⟨_, _, rfl⟩
  · cases hla; unfold VR at hx; obtain ⟨B, K, cap, _, rfl, _⟩ := hx; exact ⟨_, _, rfl⟩

theorem copy_sound (s : Sim n₀ w₀ S₀ S m h w) {t e ty : TypeId} {ts : Array TypeId} (ht0 : ts[0]? = some t) (ht : P.underlying t = some (.slice e)) {x y r : AV} {a b : Value} {oh : Option AHeap}
    (hr : copyA P h e x y = some (r, oh)) (hx : VR S m x a) (hy : VR S m y b) :
    ∃ v w' m', (Builtin.copy_ ts ty #[a, b]).run P w = .ok v w' ∧ m.le m' ∧ VR S m' r v ∧ Sim n₀ w₀ S₀ S m' (oh.getD h) w' := by
  unfold copyA at hr
  split at hr
  · rename_i d la lb hd hla hlb
    simp only at hr
    split at hr
    · cases hr
    · rename_i ys hys
      obtain ⟨us, f1, f2⟩ := first_sound (P := P) s hys hy
      have hl := len_sound (P := P) (w := w) hlb hy
      obtain ⟨base, cap, rfl⟩ := slLen_sound hla hx
      have hmin : Nat.min lb la = min lb la := rfl
      have hrun : ∀ w', (match base with | some p => storeCells p us | none => pure ()).run P w = .ok () w' → (Builtin.copy_ ts ty #[.slice base la cap, b]).run P w = .ok (.int .i64 (min lb la : Nat)) w' := fun w' hst => by
        cases base with
        | none => simp at hst; subst hst; simp [Builtin.copy_, ht0, run_underlying' ht, hl, run_sizeOf' hd, hmin, f1, goInt]
        | some p => simp at hst; simp [Builtin.copy_, ht0, run_underlying' ht, hl, run_sizeOf' hd, hmin, f1, goInt, hst]
      split at hr
      · rename_i hn0
        cases hr
        have hus : us = [] := by
          have := first_length hys hlb (Nat.min_le_left _ _)
          rw [hn0, Nat.zero_mul] at this
          have h2 := f2.length
          exact List.eq_nil_of_length_eq_zero (by omega)
        subst hus
        refine ⟨_, w, m, hrun w (by cases base <;> simp [storeCells]), BM.le_refl _, ?_, s⟩
        unfold VR
        rw [hn0]; rfl
      · rename_i hn0
        split at hr
        · rename_i sz b' ver o len
          split at hr
          · rename_i ver' cs frz hb
            split at hr
            · rename_i hc
              obtain ⟨rfl, rfl, c1, c2, c3⟩ := hc
              cases hr
              unfold VR at hx
              obtain ⟨B, K, cap', g1, g2, _⟩ := hx
              cases g2
              obtain ⟨B', K', e1, w', m', e2, e3, e4⟩ := store_blk (P := P) s hb f2 c3 c2 c1
              rw [g1] at e1; cases e1
              exact ⟨_, w', m', hrun w' e2, e3, by unfold VR; rfl, e4⟩
            · cases hr
          · cases hr
        · cases hr
  · cases hr

theorem toBytes_sound : ∀ {cs : List AV} {l : List UInt8} {vs : List Value}, toBytes cs = some l → VRs S m cs vs → ∃ ns : List Int, vs = ns.map (Value.int .u8) ∧ l = ns.map fun n => UInt8.ofNat n.toNat
  | [], _, _, h, hv => by unfold toBytes at h; cases h; unfold VRs at hv; exact ⟨[], hv, rfl⟩
  | c :: cs, l, vs, h, hv => by
    unfold VRs at hv
    obtain ⟨v, vs', rfl, h1, h2⟩ := hv
    unfold toBytes at h
    split at h
    · rename_i e; cases e
    · rename_i n r e
      cases e
      cases ht : toBytes cs with
      | none => simp [ht] at h
      | some l' =>
        simp [ht] at h; subst h
        obtain ⟨ns, e1, e2⟩ := toBytes_sound ht h2
        unfold VR at h1
        exact ⟨n :: ns, by simp [h1, e1], by simp [e2]⟩
    · cases h

theorem push_modify (a : Array Obj) (o : Obj) (f : Obj → Obj) : (a.push o).modify a.size f = a.push (f o) := by
  apply Array.ext_getElem?
  intro i
  simp only [Array.getElem?_modify, Array.getElem?_push]
  by_cases e : a.size = i
  · subst e; simp
  · simp only [e, if_false, show ¬ i = a.size by omega]

theorem conv_sound (s : Sim n₀ w₀ S₀ S m h w) {src dst : TypeId} {x r : AV} {a : Value} {oh : Option AHeap}
    (hr : convA P h src dst x = some (r, oh)) (hx : VR S m x a) :
    ∃ v w' m', (convert src dst a).run P w = .ok v w' ∧ m.le m' ∧ VR S m' r v ∧ Sim n₀ w₀ S₀ S m' (oh.getD h) w' := by
  have sd : Sim n₀ w₀ S₀ S m h w.drew := s.heap rfl ⟨rfl, rfl, rfl⟩
  unfold convA at hr
  split at hr
  · rename_i sd' dd hs hd
    split at hr
    · rename_i k k' n
      cases hr
      unfold VR at hx; subst hx
      exact ⟨_, w, m, by simp [convert, run_underlying' hs, run_underlying' hd, Conv.intToInt]; rfl, BM.le_refl _, by unfold VR; rfl, s⟩
    · rename_i l
      cases hr
      unfold VR at hx; subst hx
      exact ⟨_, w, m, by simp [convert, run_underlying' hs, run_underlying' hd]; rfl, BM.le_refl _, by unfold VR; rfl, s⟩
    · rename_i e l
      split at hr
      · rename_i he
        cases hr
        unfold VR at hx; subst hx
        have hq : (Question.appendCap l.length 0 e).forced = false := rfl
        obtain ⟨cap, hcap, hle⟩ : ∃ cap, (Question.appendCap l.length 0 e).cut (w.tape w.drawn (Question.appendCap l.length 0 e)) = cap ∧ l.length ≤ cap := ⟨_, rfl, by simp [Question.cut]⟩
        obtain ⟨vs, hvd⟩ : ∃ vs : Array Value, (l.map fun b => Value.int .u8 b.toNat).toArray ++ Array.replicate (cap - l.length) (.int .u8 0) = vs := ⟨_, rfl⟩
        have hvs : vs.size = cap := by rw [← hvd]; simp; omega
        have hsh : (w.drew.alloc (.cells vs e (0, 0))).shape? w.heap.size = some (e, cap) := by
          unfold World.shape? World.alloc World.drew
          simp [hvs]
        have hrun : (convert src dst (.string ⟨l.toArray⟩)).run P w = .ok (.slice (some ⟨w.heap.size, 0, none⟩) l.length cap) ((w.drew.alloc (.cells vs e (0, 0))).freeze ⟨w.heap.size, cap, none⟩ 1) := by
          simp only [convert, Sem.run_bind, run_underlying' hs, run_underlying' hd, run_underlying' he, Result.andThen_ok, Conv.stringToBytes, run_choose, str_size, hq, hcap]
          simp [newRow, markStringish]
          simp only [hvd, hsh]
          simp
        obtain ⟨k1, k2⟩ := sd.alloc vs e (cap, cap + 1) (l.map fun b => .int .u8 b.toNat) (el' := Option.none) (fun _ he => by cases he) (by
          have := bytes_rel S m l
          have e1 : vs.toList.take (l.map fun b => AV.int .u8 b.toNat).length = l.map fun b => Value.int .u8 b.toNat := by rw [← hvd]; simp [List.take_append]
          rw [e1]; exact this) (fun o ho => by omega)
        refine ⟨_, _, _, hrun, k1, ?_, Sim.heap k2 ?_ (by unfold World.freeze; rw [if_neg (by decide)]; exact ⟨rfl, rfl, rfl⟩)⟩
        · unfold VR
          exact ⟨_, _, cap, BM.put_eq _ _ _ _, by simp, hle, by rw [hvs]; simp⟩
        · unfold World.freeze
          rw [if_neg (by decide)]
          simp only [World.alloc, World.drew]
          rw [push_modify]
          simp
      · cases hr
    · rename_i e _
      split at hr
      · rename_i he
        split at hr
        · rename_i n hn
          split at hr
          · cases hr
          · rename_i hns
            split at hr
            · rename_i cs hcs
              cases hb : toBytes cs with
              | none => simp [hb] at hr
              | some l =>
                simp [hb] at hr
                obtain ⟨rfl, rfl⟩ := hr
                have hsl : slLen x = some n := by
                  cases x <;> simp only [lenA] at hn <;> first | (cases hn; done) | (exact absurd rfl (hns _)) | (simpa [slLen] using hn)
                obtain ⟨us, f1, f2⟩ := first_sound (P := P) s hcs hx
                obtain ⟨ns, e1, e2⟩ := toBytes_sound hb f2
                subst e1 e2
                obtain ⟨base, cap, rfl⟩ := slLen_sound hsl hx
                refine ⟨.string ⟨(ns.map fun n => UInt8.ofNat n.toNat).toArray⟩, w, m, ?_, BM.le_refl _, by unfold VR; rfl, s⟩
                rw [run_convert_bytes_string w src dst e _ _ _ hs he hd]
                cases base with
                | none =>
                  simp [Builtin.firstCells] at f1
                  subst f1
                  simp [Conv.bytesToString]; rfl
                | some p =>
                  have f1' : (loadCells p n).run P w = .ok (ns.map (Value.int .u8)).toArray w := by simpa [Builtin.firstCells] using f1
                  rw [run_bytesToString w p n cap ns f1', foldl_push_bytes]
                  simp
            · cases hr
        · cases hr
      · cases hr
    · cases hr
  · cases hr
end
end Go.Abs
