/- More operations: unsafe pointers, functions without a body, methods, type assertions. -/
import Derived.Test.YtfddiediieblhaaAbsI
import Derived.Lib.Builder
import Derived.Lib.UnsafeStr
import Derived.Lib.MakeNoZero
import Derived.Laws.Externs
import Derived.KernelRfl
set_option linter.unusedVariables false
set_option linter.unusedSimpArgs false
namespace Go.Abs

section
variable {P : Program} {n₀ : Nat} {w₀ : World} {S₀ S : SM} {m : BM} {h : AHeap} {w : World}

theorem rowAt_mono {fits : TypeId → Bool} {e off n c c' : Nat} (hc : c ≤ c') : ∀ {d : Nat}, rowAt P fits d e c off n = true → rowAt P fits d e c' off n = true
  | 0, h => by unfold rowAt at h; cases h
  | d + 1, h => by
    unfold rowAt at h ⊢
    simp only at h ⊢
    split at h
    · cases h
    · rename_i hs
      rw [if_neg hs]
      simp only [Bool.or_eq_true, Bool.and_eq_true, decide_eq_true_eq] at h ⊢
      rcases h with ⟨⟨h1, h2⟩, h3⟩ | ⟨h1, h2⟩
      · exact .inl ⟨⟨h1, by omega⟩, h3⟩
      · exact .inr ⟨by omega, h2⟩

theorem liesAt_mono {e off c c' : Nat} (hc : c ≤ c') : ∀ {d u n : Nat}, liesAt P d e c off u n = true → liesAt P d e c' off u n = true
  | 0, _, _, h => by unfold liesAt at h; cases h
  | d + 1, u, n, h => by
    unfold liesAt at h ⊢
    simp only [Bool.or_eq_true] at h ⊢
    rcases h with h | h
    · exact .inl (rowAt_mono hc h)
    · right
      split at h
      · exact liesAt_mono hc h
      · cases h

theorem blk_el (s : Sim n₀ w₀ S₀ S m h w) {b ver frz el : Nat} {cs : List AV} (hb : h[b]? = some (.cells ver (some el) cs frz)) :
    ∃ B K vs fz, m b ver = some (B, K) ∧ w.heap[B]? = some (.cells vs el fz) ∧ vs.size = K ∧ cs.length ≤ K ∧ VRs S m cs (vs.toList.take cs.length) ∧ At S m w cs B 0 ∧ (∀ o, frz ≤ o → o < K → w.frozen? ⟨B, o, none⟩ = false) ∧ (fz.1 = 0 ∨ fz.1 = fz.2) := by
  obtain ⟨B, K, el', vs, fz, h1, h2, h3, h4, h5, h6, h7⟩ := blk_at s hb
  obtain ⟨B', K', el₁, vs', fz', a1, ⟨a2, a2'⟩, a3, _⟩ := s.blk b _ hb
  rw [h1] at a1; cases a1
  rw [h2] at a3; cases a3
  obtain ⟨rfl, q⟩ := a2' _ rfl
  exact ⟨B, K, vs, fz, h1, h2, h3, h4, h5, h6, h7, q⟩

theorem convP_sound (s : Sim n₀ w₀ S₀ S m h w) {src dst : TypeId} {x r : AV} {a : Value} (hr : convP P h src dst x = some r) (hx : VR S m x a) :
    ∃ v, (convert src dst a).run P w = .ok v w ∧ VR S m r v := by
  unfold convP at hr
  split at hr
  · rename_i t hs hd
    split at hr
    · cases hr
      unfold VR at hx; subst hx
      exact ⟨_, by simp [convert, run_underlying' hs, run_underlying' hd, Conv.unsafePointer]; rfl, by unfold VR; rfl⟩
    · rename_i b ver o
      split at hr
      · rename_i ver' el cs frz d hb hti
        split at hr
        · rename_i hc
          obtain ⟨rfl, c1, c2⟩ := hc
          cases hr
          have hx0 := hx
          unfold VR at hx
          obtain ⟨B, K, g1, rfl⟩ := hx
          obtain ⟨B', K', el₀, vs, fz, e1, e2, e3, e4, e5, e6, e7⟩ := blk_at s hb
          rw [g1] at e1; cases e1
          obtain ⟨_, i, z, hi, hi2, _⟩ := ti_spec hti
          exact ⟨_, Lib.run_to_unsafe w _ hs hd hi (by omega) (e := el₀) (cells := vs.size) (by simp [World.shape?, e2]) (by show o < vs.size; omega), hx0⟩
        · cases hr
      · cases hr
    · cases hr
  · rename_i u hs hd
    split at hr
    · cases hr
      unfold VR at hx; subst hx
      exact ⟨_, by simp [convert, run_underlying' hs, run_underlying' hd, Conv.unsafePointer]; rfl, by unfold VR; rfl⟩
    · rename_i b ver o
      split at hr
      · rename_i ver' el cs frz d hb hti
        split at hr
        · rename_i hc
          obtain ⟨rfl, c1⟩ := hc
          cases hr
          have hx0 := hx
          unfold VR at hx
          obtain ⟨B, K, g1, rfl⟩ := hx
          obtain ⟨B', K', vs, fz, e1, e2, e3, e4, e5, e6, e7, e8⟩ := blk_el s hb
          rw [g1] at e1; cases e1
          obtain ⟨_, i, z, hi, hi2, _⟩ := ti_spec hti
          exact ⟨_, Lib.run_from_unsafe w _ hs hd hi (e := el) (cells := vs.size) (by simp [World.shape?, e2]) (liesAt_mono (Nat.div_le_div_right (by omega)) c1), hx0⟩
        · cases hr
      · cases hr
    · cases hr
  · cases hr

theorem foldI_min : ∀ {l : List AV} {vs : List Value} {k : IntKind} {a n : Int}, foldI (fun x y => if y < x then y else x) a l = some n → VRs S m l vs → (vs.foldlM Builtin.min2 (.int k a)).run P w = .ok (.int k n) w
  | [], vs, k, a, n, hf, hv => by
    unfold foldI at hf; cases hf
    unfold VRs at hv; subst hv
    simp
  | x :: l, vs, k, a, n, hf, hv => by
    unfold foldI at hf
    split at hf
    · rename_i h1; cases h1
    · rename_i h1; cases h1
      unfold VRs at hv
      obtain ⟨v, vs', rfl, h2, h3⟩ := hv
      unfold VR at h2; subst h2
      simp only [List.foldlM_cons, Builtin.min2, Sem.run_bind, Sem.run_pure, Result.andThen_ok]
      exact foldI_min hf h3
    · cases hf
theorem foldI_max : ∀ {l : List AV} {vs : List Value} {k : IntKind} {a n : Int}, foldI (fun x y => if y > x then y else x) a l = some n → VRs S m l vs → (vs.foldlM Builtin.max2 (.int k a)).run P w = .ok (.int k n) w
  | [], vs, k, a, n, hf, hv => by
    unfold foldI at hf; cases hf
    unfold VRs at hv; subst hv
    simp
  | x :: l, vs, k, a, n, hf, hv => by
    unfold foldI at hf
    split at hf
    · rename_i h1; cases h1
    · rename_i h1; cases h1
      unfold VRs at hv
      obtain ⟨v, vs', rfl, h2, h3⟩ := hv
      unfold VR at h2; subst h2
      simp only [List.foldlM_cons, Builtin.max2, Sem.run_bind, Sem.run_pure, Result.andThen_ok]
      exact foldI_max hf h3
    · cases hf

theorem bytes_cells : ∀ {cs : List AV} {l : List UInt8}, toBytes cs = some l → ∀ (i : Nat) (x : UInt8), l[i]? = some x → ∃ n : Int, cs[i]? = some (.int .u8 n) ∧ x = UInt8.ofNat n.toNat
  | [], l, h, i, x, hx => by unfold toBytes at h; cases h; simp at hx
  | c :: cs, l, h, i, x, hx => by
    unfold toBytes at h
    split at h
    · rename_i e; cases e
    · rename_i n r e
      cases e
      cases ht : toBytes cs with
      | none => simp [ht] at h
      | some l' =>
        simp [ht] at h; subst h
        cases i with
        | zero => simp at hx; exact ⟨n, rfl, hx.symm⟩
        | succ i => simpa using bytes_cells ht i x (by simpa using hx)
    · cases h

theorem bytes_length : ∀ {cs : List AV} {l : List UInt8}, toBytes cs = some l → l.length = cs.length
  | [], l, h => by unfold toBytes at h; cases h; rfl
  | c :: cs, l, h => by
    unfold toBytes at h
    split at h
    · rename_i e; cases e
    · rename_i n r e
      cases e
      cases ht : toBytes cs with
      | none => simp [ht] at h
      | some l' => simp [ht] at h; subst h; simp [bytes_length ht]
    · cases h

/-- A row, frozen from its start on. -/
theorem sim_freeze (s : Sim n₀ w₀ S₀ S m h w) {b ver el frz n B K : Nat} {cs : List AV} (hb : h[b]? = some (.cells ver (some el) cs frz)) (hm : m b ver = some (B, K)) :
    Sim n₀ w₀ S₀ S m (h.set b (.cells ver (some el) cs (max frz n))) (w.freeze ⟨B, 0, none⟩ n) := by
  obtain ⟨B', K', vs, fz, e1, e2, e3, e4, e5, e6, e7, e8⟩ := blk_el s hb
  rw [hm] at e1; cases e1
  have hBlt : B < w.heap.size := (Array.getElem?_eq_some_iff.1 e2).1
  obtain ⟨hn0, _, _⟩ := s.img hb rfl hm
  by_cases hn : n = 0
  · subst hn
    have e : h.set b (.cells ver (some el) cs (max frz 0)) = h := by
      apply List.ext_getElem?
      intro i
      rw [List.getElem?_set]
      split
      · rename_i e; subst e
        split
        · rw [hb]; simp
        · rename_i h'; rw [List.getElem?_eq_none (by omega)]
      · rfl
    rw [e]
    unfold World.freeze
    simpa using s
  have hheap : ∀ i, (w.freeze ⟨B, 0, none⟩ n).heap[i]? = if i = B then some (.cells vs el (if fz.1 == fz.2 then (0, 0 + n) else (min fz.1 0, max fz.2 (0 + n)))) else w.heap[i]? := fun i => by
    unfold World.freeze
    rw [if_neg hn]
    simp only [Array.getElem?_modify]
    by_cases e : B = i
    · subst e; simp [e2]
    · simp [e, Ne.symm e]
  have hcell : ∀ a, (w.freeze ⟨B, 0, none⟩ n).cell? a = w.cell? a := fun a => by
    unfold World.cell?
    rw [hheap]
    by_cases e : a.block = B
    · rw [if_pos e, e, e2]
    · rw [if_neg e]
  have hfz : ∀ o, n ≤ o → w.frozen? ⟨B, o, none⟩ = false → (w.freeze ⟨B, 0, none⟩ n).frozen? ⟨B, o, none⟩ = false := fun o ho hf => by
    unfold World.frozen? at hf ⊢
    simp only [hheap, if_true]
    simp only [e2] at hf
    obtain ⟨lo, hi⟩ := fz
    by_cases e : lo = hi
    · simp only [e, beq_self_eq_true, if_true, Bool.and_eq_false_iff, decide_eq_false_iff_not]; omega
    · simp only [beq_iff_eq, e, if_false, Bool.and_eq_false_iff, decide_eq_false_iff_not] at hf ⊢
      have e9 : lo = 0 ∨ lo = hi := e8
      omega
  have hfz' : ∀ C o, C ≠ B → (w.freeze ⟨B, 0, none⟩ n).frozen? ⟨C, o, none⟩ = w.frozen? ⟨C, o, none⟩ := fun C o hC => by
    unfold World.frozen?
    simp only [hheap, if_neg hC]
  have hsz : (w.freeze ⟨B, 0, none⟩ n).heap.size = w.heap.size := by unfold World.freeze; rw [if_neg hn]; simp
  refine ⟨fun c o v hv => by rw [hcell]; exact s.stable c o v hv, by rw [hsz]; exact s.size, fun c hc => ?_, s.new, fun c x hx => ?_, ?_, fun c v x hx => by rw [List.length_set]; exact s.lt c v x hx, s.env.trans (by unfold World.freeze; split <;> exact ⟨rfl, rfl, rfl⟩)⟩
  · rw [hheap, if_neg (by omega)]; exact s.old c hc
  · rcases heap_set_get hx with ⟨rfl, rfl⟩ | ⟨hne, hx⟩
    · obtain ⟨B₁, K₁, el₁, vs₁, fz₁, a1, a2, a3, a4, a5, a6, a7, a8⟩ := s.blk c _ hb
      rw [hm] at a1; cases a1
      rw [e2] at a3; cases a3
      refine ⟨B, vs.size, el, vs, (if fz.1 == fz.2 then (0, 0 + n) else (min fz.1 0, max fz.2 (0 + n))), by rw [hm, e3], ⟨a2.1, fun e he => by cases he; exact ⟨rfl, by split <;> simp⟩⟩, by rw [hheap, if_pos rfl], rfl, a5, a6, fun o ho hk => hfz o (by omega) (a7 o (by omega) (by omega)), a8⟩
    · cases x with
      | dead => trivial
      | cells v2 el2 cs2 frz2 =>
        obtain ⟨C, L, el₁, vs₁, fz₁, a1, a2, a3, a4, a5, a6, a7, a8⟩ := s.blk c _ hx
        have hC : C ≠ B := fun e => by
          subst e
          exact s.inj c b _ _ v2 ver C L K hne hx hb rfl rfl a1 hm
        exact ⟨C, L, el₁, vs₁, fz₁, a1, a2, by rw [hheap, if_neg hC]; exact a3, a4, a5, a6, fun o ho hk => by rw [hfz' _ _ hC]; exact a7 o ho hk, a8⟩
      | map es =>
        obtain ⟨C, L, en, cl, a1, a2, a3, a4, a5, a6⟩ := s.blk c _ hx
        have hC : C ≠ B := fun e => by
          subst e
          exact s.inj c b _ _ 0 ver C L K hne hx hb rfl rfl a1 hm
        exact ⟨C, L, en, cl, a1, a2, by rw [hheap, if_neg hC]; exact a3, a4, a5, a6⟩
      | dfd =>
        obtain ⟨C, L, a1, a2, a3, a5, a6⟩ := s.blk c _ hx
        have hC : C ≠ B := fun e => by
          subst e
          exact s.inj c b _ _ 0 ver C L K hne hx hb rfl rfl a1 hm
        exact ⟨C, L, a1, a2, by rw [hheap, if_neg hC]; exact a3, a5, a6⟩
      | loop busy tms ps asg body db =>
        obtain ⟨C, L, D, fn, ts, a1, a2, a3, a4, a5, a6⟩ := s.blk c _ hx
        have hC : C ≠ B := fun e => by
          subst e
          exact s.inj c b _ _ 0 ver C L K hne hx hb rfl rfl a1 hm
        exact ⟨C, L, D, fn, ts, a1, a2, by rw [hheap, if_neg hC]; exact a3, a4, a5, a6⟩
  · intro c c' x x' v v' C L L' hne hx hx' hv1 hv2 h1 h2
    rcases heap_set_get hx with ⟨rfl, rfl⟩ | ⟨hc, gx⟩ <;> rcases heap_set_get hx' with ⟨rfl, rfl⟩ | ⟨hc', gx'⟩
    · exact hne rfl
    · cases hv1; exact s.inj c c' _ x' ver v' C L L' hne hb gx' rfl hv2 h1 h2
    · cases hv2; exact s.inj c c' x _ v ver C L L' hne gx hb hv1 rfl h1 h2
    · exact s.inj c c' x x' v v' C L L' hne gx gx' hv1 hv2 h1 h2

theorem vrs1 {x : AV} {vs : Array Value} (hv : VRs S m [x] vs.toList) : ∃ v, vs = #[v] ∧ VR S m x v := by
  obtain ⟨vs⟩ := vs
  unfold VRs at hv
  obtain ⟨v, vs', e, hx, hv⟩ := hv
  unfold VRs at hv
  simp only at e hv; subst hv; subst e
  exact ⟨v, rfl, hx⟩
theorem vrs2 {x y : AV} {vs : Array Value} (hv : VRs S m [x, y] vs.toList) : ∃ v u, vs = #[v, u] ∧ VR S m x v ∧ VR S m y u := by
  obtain ⟨vs⟩ := vs
  unfold VRs at hv
  obtain ⟨v, vs', e, hx, hv⟩ := hv
  unfold VRs at hv
  obtain ⟨v', vs'', e', hy, hv⟩ := hv
  unfold VRs at hv
  simp only at e e' hv; subst hv; subst e'; subst e
  exact ⟨v, v', rfl, hx, hy⟩
theorem arr1 {α : Type} {ts : Array α} {t : α} (h : ts.toList = [t]) : ts = #[t] := by cases ts; simp at h; simp [h]
theorem arr2 {α : Type} {ts : Array α} {t u : α} (h : ts.toList = [t, u]) : ts = #[t, u] := by cases ts; simp at h; simp [h]

theorem Fits.val' (s : Sim n₀ w₀ S₀ S m h w) {q : Sem Value} {x : AV} {v : Value} (hr : q.run P w = .ok v w) (hv : VR S m x v) : Fits P n₀ w₀ S₀ S m h w ((do pure (.value (← q)) : Sem Next).run P w) (.val x) :=
  .same s (by simp [hr]) hv

theorem extraB_sound (s : Sim n₀ w₀ S₀ S m h w) {b : Builtin} {ts : Array TypeId} {ty : TypeId} {cs : Array Bool} {args : List AV} {vs : Array Value} {r : R} (hr : extraB P h b ts.toList args = some r) (hv : VRs S m args vs.toList) :
    Fits P n₀ w₀ S₀ S m h w ((builtin b ts ty cs vs).run P w) r := by
  unfold extraB at hr
  split at hr
  · split at hr
    · rename_i k a l
      cases hf : foldI (fun x y => if y < x then y else x) a l with
      | none => simp [hf] at hr
      | some n =>
        simp [hf] at hr; subst hr
        obtain ⟨vs⟩ := vs
        unfold VRs at hv
        obtain ⟨v, vs', e, hx, hv⟩ := hv
        simp only at e; subst e
        unfold VR at hx; subst hx
        exact .val' s (q := Builtin.min_ ts ty _) (v := .int k n) (by simp only [Builtin.min_]; exact foldI_min hf hv) (by unfold VR; rfl)
    · cases hr
  · split at hr
    · rename_i k a l
      cases hf : foldI (fun x y => if y > x then y else x) a l with
      | none => simp [hf] at hr
      | some n =>
        simp [hf] at hr; subst hr
        obtain ⟨vs⟩ := vs
        unfold VRs at hv
        obtain ⟨v, vs', e, hx, hv⟩ := hv
        simp only at e; subst e
        unfold VR at hx; subst hx
        exact .val' s (q := Builtin.max_ ts ty _) (v := .int k n) (by simp only [Builtin.max_]; exact foldI_max hf hv) (by unfold VR; rfl)
    · cases hr
  · split at hr
    · rename_i t sz xs hts
      have ht0 := arr1 hts; subst ht0
      split at hr
      · rename_i e ht
        cases hr
        obtain ⟨v, rfl, hx⟩ := vrs1 hv
        unfold VR at hx
        obtain ⟨a, cap, rfl, g1, g2, g3⟩ := hx
        exact .val' s (q := Builtin.cap_ #[t] ty _) (v := .int .i64 xs.length) (by simp [Builtin.cap_, run_underlying' ht, goInt, (g2 rfl).1]) (by unfold VR; rfl)
      · cases hr
    · cases hr
  · split at hr
    · cases hr
      obtain ⟨v, rfl, hx⟩ := vrs1 hv
      unfold VR at hx
      obtain ⟨a, cap, rfl, g1, g2, g3⟩ := hx
      obtain ⟨g4, g5⟩ := g2 rfl
      have g6 := g5 rfl; subst g6
      exact .val' s (q := Builtin.unsafeSliceData_ ts ty _) (v := .pointer none) (Lib.run_unsafeSliceData_nil _ ts ty _ _) (by unfold VR; rfl)
    · rename_i sz b ver o len
      split at hr
      · rename_i hl
        cases hr
        obtain ⟨v, rfl, hx⟩ := vrs1 hv
        unfold VR at hx
        obtain ⟨B, K, cap, g1, rfl, g2, g3⟩ := hx
        exact .val' s (q := Builtin.unsafeSliceData_ ts ty _) (v := .pointer (some ⟨B, o, none⟩)) (Lib.run_unsafeSliceData_row _ ts ty _ _ _ (by omega)) (by unfold VR; exact ⟨B, K, g1, rfl⟩)
      · cases hr
    · cases hr
  · split at hr
    · rename_i pt it p n hts
      have ht0 := arr2 hts; subst ht0
      obtain ⟨v, u, rfl, hx, hy⟩ := vrs2 hv
      unfold VR at hy; subst hy
      split at hr
      · rename_i hn
        subst hn
        split at hr
        · cases hr
          unfold VR at hx; subst hx
          exact .val' s (q := Builtin.unsafeString_ #[pt, it] ty _) (v := .string .empty) (Lib.run_unsafeString_none _ pt it ty _) (by unfold VR; rfl)
        · cases hr
          unfold VR at hx
          obtain ⟨B, K, g1, rfl⟩ := hx
          exact .val' s (q := Builtin.unsafeString_ #[pt, it] ty _) (v := .string .empty) (Lib.run_unsafeString_none _ pt it ty _) (by unfold VR; rfl)
        · cases hr
      · rename_i hn
        split at hr
        · rename_i b ver e hpt
          split at hr
          · rename_i ver' el cs frz d hb hti
            split at hr
            · rename_i hc
              obtain ⟨rfl, rfl, c1, c2, c3, c4, c5⟩ := hc
              cases hl : toBytes (cs.take n.toNat) with
              | none => simp [hl] at hr
              | some l =>
                simp [hl] at hr; subst hr
                unfold VR at hx
                obtain ⟨B, K, g1, rfl⟩ := hx
                obtain ⟨B', K', vs, fz, e1, e2, e3, e4, e5, e6, e7, e8⟩ := blk_el s hb
                rw [g1] at e1; cases e1
                have hll := bytes_length hl
                have hlen : l.length = n.toNat := by rw [hll, List.length_take]; omega
                have hne : l ≠ [] := fun e => by subst e; simp at hlen; omega
                have hnn : (n : Int) = (l.length : Int) := by omega
                have hrun := Lib.run_unsafeString_row (P := P) w pt it ty el hpt (by rw [cellsOf' hti]; exact c1) B vs.size (by simp [World.shape?, e2]) l hne (by omega) (by omega) (fun j x hx => by
                  obtain ⟨k, h1, h2⟩ := bytes_cells hl j x hx
                  have hj : cs[j]? = some (.int .u8 k) := by
                    rw [List.getElem?_take] at h1
                    split at h1
                    · exact h1
                    · cases h1
                  obtain ⟨v, q1, q2⟩ := e6 j _ hj
                  unfold VR at q2; subst q2
                  rw [add_off]
                  rw [q1]
                  have hin : AV.byteB (.int .u8 k) = true := List.all_eq_true.1 c5 _ (List.mem_of_getElem? h1)
                  simp only [AV.byteB, Bool.and_eq_true, decide_eq_true_eq] at hin
                  rw [h2]
                  congr 2
                  rw [UInt8.toNat_ofNat_of_lt' (by show k.toNat < 256; omega)]
                  omega)
                rw [← hnn] at hrun
                refine ⟨_, _, _, S, m, by simp only [builtin, Sem.run_bind, hrun, Result.andThen_ok]; rfl, .inl rfl, SM.le_refl _, BM.le_refl _, by unfold VR; rfl, ?_⟩
                rw [hlen]
                exact sim_freeze s hb g1
            · cases hr
          · cases hr
        · cases hr
    · cases hr
  · cases hr


theorem ext_noEscape {fn : Func} (hn : fn.name = "internal/abi.NoEscape") (ho : fn.origin = "") : Extern.findNext fn = Option.none ∧ Extern.find fn = some Extern.AbiNoEscape.same := by
  have h1 : Extern.allNextRows.lookup "internal/abi.NoEscape" = Option.none := by kernel_rfl
  have h2 : Extern.allNextRows.lookup "" = Option.none := by kernel_rfl
  have h3 : Extern.allGenericRows.lookup "internal/abi.NoEscape" = Option.none := by kernel_rfl
  have h4 : Extern.allTypedRows.lookup "internal/abi.NoEscape" = Option.none := by kernel_rfl
  have h5 : Extern.allRows.lookup "internal/abi.NoEscape" = some Extern.AbiNoEscape.same := by kernel_rfl
  constructor
  · simp only [Extern.findNext, hn, ho, h1, h2]; rfl
  · simp only [Extern.find, hn, h3, h4, h5]; rfl
theorem ext_makeNoZero {fn : Func} (hn : fn.name = "internal/bytealg.MakeNoZero") (ho : fn.origin = "") : Extern.findNext fn = Option.none ∧ Extern.find fn = some (Extern.BytealgMakeNoZero.makeNoZero fn.params fn.resultTypes) := by
  have h1 : Extern.allNextRows.lookup "internal/bytealg.MakeNoZero" = Option.none := by kernel_rfl
  have h2 : Extern.allNextRows.lookup "" = Option.none := by kernel_rfl
  have h3 : Extern.allGenericRows.lookup "internal/bytealg.MakeNoZero" = Option.none := by kernel_rfl
  have h4 : Extern.allTypedRows.lookup "internal/bytealg.MakeNoZero" = some Extern.BytealgMakeNoZero.makeNoZero := by kernel_rfl
  constructor
  · simp only [Extern.findNext, hn, ho, h1, h2]; rfl
  · simp only [Extern.find, hn, h3, h4]; rfl

theorem extA_sound (s : Sim n₀ w₀ S₀ S m h w) {f : FuncId} {args : List AV} {vs : Array Value} {r : R} (hr : extA P h f args = some r) (hv : VRs S m args vs.toList) : Fits P n₀ w₀ S₀ S m h w ((callFunc f vs).run P w) r := by
  unfold extA at hr
  split at hr
  · cases hr
  · rename_i fn hfn
    split at hr
    · rename_i hb
      obtain ⟨hb, ho⟩ := hb
      split at hr
      · rename_i hn
        split at hr
        · rename_i x
          cases hr
          obtain ⟨v, rfl, hx⟩ := vrs1 hv
          obtain ⟨k1, k2⟩ := ext_noEscape hn ho
          refine .same s (v := v) ?_ hx
          rw [run_callFunc_extern hfn (by rw [hn]; rfl) hb k1 k2]
          rfl
        · cases hr
      · split at hr
        · rename_i hn
          split at hr
          · rename_i t n hts
            split at hr
            · rename_i e ht
              split at hr
              · rename_i hc
                obtain ⟨c1, c2⟩ := hc
                cases hr
                obtain ⟨v, rfl, hx⟩ := vrs1 hv
                unfold VR at hx; subst hx
                obtain ⟨k1, k2⟩ := ext_makeNoZero hn ho
                obtain ⟨N, rfl⟩ : ∃ N : Nat, n = N := ⟨n.toNat, by omega⟩
                have hts' := arr1 hts
                obtain ⟨cs, q1, q2, q3⟩ := Lib.run_makeNoZero (P := P) w fn.params t e ht N (by omega)
                have sd : Sim n₀ w₀ S₀ S m h w.drew.drew := s.heap rfl ⟨rfl, rfl, rfl⟩
                obtain ⟨j1, j2⟩ := sd.alloc cs e (0, 0) [] (el' := some e) (fun _ he => by cases he; exact ⟨rfl, .inl rfl⟩) (by unfold VRs; simp) (by simp)
                refine ⟨_, .slice (some ⟨w.heap.size, 0, none⟩) N cs.size, _, S, _, ?_, .inl rfl, SM.le_refl _, j1, ?_, j2⟩
                · rw [run_callFunc_extern hfn (by rw [hn]; rfl) hb k1 k2, hts', q1]
                  rfl
                · unfold VR
                  exact ⟨w.heap.size, cs.size, cs.size, BM.put_eq _ _ _ _, by simp, by simpa using q2, by simp⟩
              · cases hr
            · cases hr
          · cases hr
        · cases hr
    · cases hr

theorem meth_sound {t : TypeId} {name : String} {f : FuncId} (hm : methA P t name = some f) (v : Value) : ∀ n, (method (n + 1) t v name).run P w = .ok (f, v) w := by
  intro n
  unfold methA at hm
  split at hm
  · cases hm
  · rename_i i hi
    split at hm
    · rename_i mm d hf hu
      split at hm
      · rename_i g pr hfn
        rw [Option.ite_none_right_eq_some] at hm
        obtain ⟨hc, e⟩ := hm
        cases e
        simp only [Bool.and_eq_true] at hc
        obtain ⟨hp, hd⟩ := hc
        have hpl : mm.path.toList = [] := by simpa using hp
        simp only [method, typeInfo, hi, hf, hpl, follow, hfn, hp, Sem.run_bind, run_program, Sem.run_pure, Result.andThen_ok, if_true]
        cases d <;> simp only [Bool.not_eq_true'] at hd <;> subst hd <;> simp [receiverAt, run_underlying' hu, Place.get]
      · cases hm
    · cases hm

theorem assert_sound {x r : AV} {xt t : TypeId} {ok : Bool} {a : Value} (hr : assertA P x t ok = some r) (hx : VR S m x a) : ∃ v, (Instr.typeAssert a xt t ok).run P w = .ok v w ∧ VR S m r v := by
  unfold assertA at hr
  simp only at hr
  have hf : ∀ {r : AV} (st dy : Option TypeId) (ms : String), (if ok = true ∧ (ti P t).isSome = true then some (AV.tup [.undef, .bool false]) else none) = some r →
      ∃ v, ((do if ok then pure (.tuple #[← zeroValue t, .bool false]) else runtimePanic (.typeAssertion st dy t ms)) : Sem Value).run P w = .ok v w ∧ VR S m r v := fun st dy ms e => by
    split at e
    · rename_i hc
      cases e
      obtain ⟨rfl, hti⟩ := hc
      obtain ⟨d, hd⟩ := Option.isSome_iff_exists.1 hti
      obtain ⟨z, z1, z2⟩ := run_zero' hd w
      refine ⟨_, by simp [z1]; rfl, ?_⟩
      unfold VR
      exact ⟨_, rfl, by simp only; unfold VRs; exact ⟨_, _, rfl, by unfold VR; trivial, by unfold VRs; exact ⟨_, _, rfl, by unfold VR; rfl, by unfold VRs; rfl⟩⟩⟩
    · cases e
  have hh : ∀ {y r : AV} {u : Value}, (some (if ok = true then AV.tup [y, .bool true] else y)) = some r → VR S m y u → ∃ v, ((pure (if ok then .tuple #[u, .bool true] else u)) : Sem Value).run P w = .ok v w ∧ VR S m r v := fun e hu => by
    cases e
    refine ⟨_, by simp; rfl, ?_⟩
    cases ok
    · exact hu
    · simp only [if_true]
      unfold VR
      exact ⟨_, rfl, by simp only; unfold VRs; exact ⟨_, _, rfl, hu, by unfold VRs; exact ⟨_, _, rfl, by unfold VR; rfl, by unfold VRs; rfl⟩⟩⟩
  unfold Instr.typeAssert
  split at hr
  · rename_i want ht
    split at hr
    · unfold VR at hx; subst hx
      simp only [Sem.run_bind, run_underlying' ht, Result.andThen_ok]
      exact hf _ _ _ hr
    · rename_i t' y
      have hx0 := hx
      unfold VR at hx; obtain ⟨u, rfl, hu⟩ := hx
      split at hr
      · rename_i i hi
        simp only [Sem.run_bind, run_underlying' ht, Result.andThen_ok, typeInfo, run_program, hi, Sem.run_pure]
        split at hr
        · rename_i hmm
          simp only [hmm]
          exact hh hr hx0
        · rename_i mm hmm
          simp only [hmm]
          exact hf _ _ _ hr
      · cases hr
    · cases hr
  · rename_i dd hni ht
    split at hr
    · unfold VR at hx; subst hx
      simp only [Sem.run_bind, run_underlying' ht, Result.andThen_ok]
      have := hf (some xt) Option.none "" hr
      cases dd <;> first | exact this | exact (hni _ rfl).elim
    · rename_i t' y
      unfold VR at hx; obtain ⟨u, rfl, hu⟩ := hx
      simp only [Sem.run_bind, run_underlying' ht, Result.andThen_ok]
      split at hr
      · rename_i e
        have := hh hr hu
        cases dd <;> first | (simpa only [e, if_true] using this) | exact (hni _ rfl).elim
      · rename_i e
        have := hf (some xt) (some t') "" hr
        cases dd <;> first | (simpa only [e, if_false] using this) | exact (hni _ rfl).elim
    · cases hr
  · cases hr
end
end Go.Abs
