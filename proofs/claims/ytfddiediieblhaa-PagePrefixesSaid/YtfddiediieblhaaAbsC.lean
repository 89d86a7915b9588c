/- The small machine's memory beside the program's: what is kept by each kind of change. -/
import Derived.Test.YtfddiediieblhaaAbsB
import Derived.Lib.FrozenHead
import Derived.RangeFuncRecord
set_option linter.unusedVariables false
set_option linter.unusedSimpArgs false
namespace Go.Abs

def AB.ver? : AB → Option Nat
  | .dead => none
  | .cells v _ _ _ => some v
  | .map _ => some 0
  | .dfd => some 0
  | .loop _ _ _ _ _ _ => some 0

def MR (S : SM) (m : BM) : List (AV × AV) → List MapEntry → Prop
  | [], es => es = []
  | (k, v) :: r, es => ∃ e es', es = e :: es' ∧ VR S m k e.key ∧ VR S m v e.val ∧ MR S m r es'

def BlkOk (n₀ : Nat) (S : SM) (m : BM) (w : World) (b : Nat) : AB → Prop
  | .dead => True
  | .cells ver el' cs frz => ∃ B K el vs fz, m b ver = some (B, K) ∧ (n₀ ≤ B ∧ ∀ e, el' = some e → el = e ∧ (fz.1 = 0 ∨ fz.1 = fz.2)) ∧ w.heap[B]? = some (.cells vs el fz) ∧ vs.size = K ∧ VRs S m cs (vs.toList.take cs.length) ∧
      (∀ o, S B o = none) ∧ (∀ o, frz ≤ o → o < K → w.frozen? ⟨B, o, none⟩ = false) ∧ (∀ v, ver < v → m b v = none)
  | .map es => ∃ B K ents clock, m b 0 = some (B, K) ∧ n₀ ≤ B ∧ w.heap[B]? = some (.map ents clock) ∧ MR S m es ents.toList ∧ (∀ o, S B o = none) ∧ (∀ v, 0 < v → m b v = none)
  | .dfd => ∃ B K, m b 0 = some (B, K) ∧ n₀ ≤ B ∧ w.heap[B]? = some (.deferred (some [])) ∧ (∀ o, S B o = none) ∧ (∀ v, 0 < v → m b v = none)
  | .loop busy tms ps asg body db => ∃ B K D fn ts, m b 0 = some (B, K) ∧ n₀ ≤ B ∧ w.heap[B]? = some (.loop { state := if busy then .busy else .ready, pending := none, fn, tmps := ts, params := ps, assign := asg, body, defers := D }) ∧
      TR S m tms ts ∧ (∀ o, S B o = none) ∧ (∀ v, 0 < v → m b v = none)

/-- What a machine's own memory does not touch. -/
def Env (w w' : World) : Prop := w'.os = w.os ∧ w'.output = w.output ∧ w'.tape = w.tape
theorem Env.refl (w : World) : Env w w := ⟨rfl, rfl, rfl⟩
theorem Env.trans {a b c : World} (h : Env a b) (k : Env b c) : Env a c := ⟨k.1.trans h.1, k.2.1.trans h.2.1, k.2.2.trans h.2.2⟩

structure Sim (n₀ : Nat) (w₀ : World) (S₀ S : SM) (m : BM) (h : AHeap) (w : World) : Prop where
  stable : ∀ b o v, S b o = some v → w.cell? ⟨b, o, none⟩ = some v
  size : n₀ ≤ w.heap.size
  old : ∀ b, b < n₀ → w.heap[b]? = w₀.heap[b]?
  new : ∀ b o v, S b o = some v → S₀ b o = some v ∨ n₀ ≤ b
  blk : ∀ b x, h[b]? = some x → BlkOk n₀ S m w b x
  inj : ∀ b b' x x' ver ver' B K K', b ≠ b' → h[b]? = some x → h[b']? = some x' → x.ver? = some ver → x'.ver? = some ver' → m b ver = some (B, K) → m b' ver' = some (B, K') → False
  lt : ∀ b ver x, m b ver = some x → b < h.length
  env : Env w₀ w

theorem MR.mono {S S' : SM} {m m' : BM} (hS : S.le S') (hm : m.le m') : ∀ (l : List (AV × AV)) {es : List MapEntry}, MR S m l es → MR S' m' l es
  | [], _, h => h
  | (k, v) :: r, _, h => by
    obtain ⟨e, es', h1, h2, h3, h4⟩ := h
    exact ⟨e, es', h1, h2.mono hS hm, h3.mono hS hm, MR.mono hS hm r h4⟩

theorem VRs.length {S : SM} {m : BM} : ∀ (xs : List AV) {vs : List Value}, VRs S m xs vs → xs.length = vs.length
  | [], _, h => by unfold VRs at h; subst h; rfl
  | x :: xs, _, h => by unfold VRs at h; obtain ⟨v, vs', rfl, _, h3⟩ := h; simp [VRs.length xs h3]

theorem VRs.get {S : SM} {m : BM} : ∀ (xs : List AV) {vs : List Value}, VRs S m xs vs → ∀ (i : Nat) (x : AV), xs[i]? = some x → ∃ v, vs[i]? = some v ∧ VR S m x v
  | [], _, h, i, x, hx => by simp at hx
  | y :: ys, _, h, i, x, hx => by
    unfold VRs at h
    obtain ⟨v, vs', rfl, h2, h3⟩ := h
    cases i with
    | zero => simp at hx; subst hx; exact ⟨v, rfl, h2⟩
    | succ i => simpa using VRs.get ys h3 i x (by simpa using hx)

theorem VRs.of_get {S : SM} {m : BM} : ∀ (xs : List AV) (vs : List Value), xs.length = vs.length → (∀ (i : Nat) (x : AV) (v : Value), xs[i]? = some x → vs[i]? = some v → VR S m x v) → VRs S m xs vs
  | [], [], _, _ => by unfold VRs; rfl
  | x :: xs, v :: vs, hl, h => by
    unfold VRs
    exact ⟨v, vs, rfl, h 0 x v rfl rfl, VRs.of_get xs vs (by simpa using hl) fun i a b ha hb => h (i + 1) a b (by simpa using ha) (by simpa using hb)⟩
  | [], _ :: _, hl, _ => by simp at hl
  | _ :: _, [], hl, _ => by simp at hl

theorem VRs.append {S : SM} {m : BM} {xs ys : List AV} {vs us : List Value} (h1 : VRs S m xs vs) (h2 : VRs S m ys us) : VRs S m (xs ++ ys) (vs ++ us) := by
  induction xs generalizing vs with
  | nil => unfold VRs at h1; subst h1; simpa using h2
  | cons x xs ih =>
    unfold VRs at h1
    obtain ⟨v, vs', rfl, h3, h4⟩ := h1
    show VRs S m (x :: (xs ++ ys)) _
    unfold VRs
    exact ⟨v, vs' ++ us, rfl, h3, ih h4⟩

theorem VRs.take {S : SM} {m : BM} {xs : List AV} {vs : List Value} (h : VRs S m xs vs) (n : Nat) : VRs S m (xs.take n) (vs.take n) := by
  have hl := h.length
  refine VRs.of_get _ _ (by simp [hl]) fun i x v hx hv => ?_
  rw [List.getElem?_take] at hx hv
  split at hx
  · rename_i hi
    simp only [hi, if_true] at hv
    obtain ⟨v', h1, h2⟩ := h.get _ i x hx
    rw [h1] at hv; cases hv; exact h2
  · cases hx

theorem VRs.drop {S : SM} {m : BM} {xs : List AV} {vs : List Value} (h : VRs S m xs vs) (n : Nat) : VRs S m (xs.drop n) (vs.drop n) := by
  have hl := h.length
  refine VRs.of_get _ _ (by simp [hl]) fun i x v hx hv => ?_
  rw [List.getElem?_drop] at hx hv
  obtain ⟨v', h1, h2⟩ := h.get _ _ x hx
  rw [h1] at hv; cases hv; exact h2

theorem VRs.set {S : SM} {m : BM} {xs : List AV} {vs : List Value} (h : VRs S m xs vs) (i : Nat) {x : AV} {v : Value} (hx : VR S m x v) : VRs S m (xs.set i x) (vs.set i v) := by
  have hl := h.length
  refine VRs.of_get _ _ (by simp [hl]) fun j a b ha hb => ?_
  rw [List.getElem?_set] at ha hb
  split at ha
  · rename_i hij
    simp only [hij, if_true] at hb
    split at ha
    · cases ha
      split at hb
      · cases hb; exact hx
      · cases hb
    · cases ha
  · rename_i hij
    simp only [hij, if_false] at hb
    obtain ⟨v', h1, h2⟩ := h.get _ _ a ha
    rw [h1] at hb; cases hb; exact h2

theorem VRs.putAt {S : SM} {m : BM} {cs xs : List AV} {vs us : List Value} (h : VRs S m cs vs) (g : VRs S m xs us) (o : Nat) :
    VRs S m (putAt cs o xs) (vs.take o ++ us ++ vs.drop (o + us.length)) := by
  unfold Abs.putAt
  rw [g.length]
  exact ((h.take o).append g).append (h.drop _)

/-- Worlds with the same memory. -/
theorem World.cell?_heap {w w' : World} (h : w'.heap = w.heap) (a : Addr) : w'.cell? a = w.cell? a := by unfold World.cell?; rw [h]
theorem World.frozen?_heap {w w' : World} (h : w'.heap = w.heap) (a : Addr) : w'.frozen? a = w.frozen? a := by unfold World.frozen?; rw [h]

theorem BlkOk.same {n₀ : Nat} {S S' : SM} {m m' : BM} {w w' : World} {b : Nat} {x : AB} (h : BlkOk n₀ S m w b x) (hS : S.le S') (hm : m.le m')
    (hw : ∀ ver B K, x.ver? = some ver → m b ver = some (B, K) → w'.heap[B]? = w.heap[B]? ∧ ∀ o, S' B o = none) (ht : ∀ ver, x.ver? = some ver → ∀ v, ver < v → m' b v = none) : BlkOk n₀ S' m' w' b x := by
  cases x with
  | dead => trivial
  | cells ver el' cs frz =>
    obtain ⟨B, K, el, vs, fz, h1, h2, h3, h4, h5, h6, h7, h8⟩ := h
    obtain ⟨e1, e2⟩ := hw ver B K rfl h1
    refine ⟨B, K, el, vs, fz, hm _ _ _ h1, h2, by rw [e1]; exact h3, h4, h5.mono hS hm, e2, fun o ho hk => ?_, ht ver rfl⟩
    have := h7 o ho hk
    unfold World.frozen? at *
    simpa [e1] using this
  | map es =>
    obtain ⟨B, K, en, cl, h1, h2, h3, h4, h5, h6⟩ := h
    obtain ⟨e1, e2⟩ := hw 0 B K rfl h1
    exact ⟨B, K, en, cl, hm _ _ _ h1, h2, by rw [e1]; exact h3, h4.mono hS hm _, e2, ht 0 rfl⟩
  | dfd =>
    obtain ⟨B, K, h1, h2, h3, h5, h6⟩ := h
    obtain ⟨e1, e2⟩ := hw 0 B K rfl h1
    exact ⟨B, K, hm _ _ _ h1, h2, by rw [e1]; exact h3, e2, ht 0 rfl⟩
  | loop busy tms ps asg body db =>
    obtain ⟨B, K, D, fn, ts, h1, h2, h3, h4, h5, h6⟩ := h
    obtain ⟨e1, e2⟩ := hw 0 B K rfl h1
    exact ⟨B, K, D, fn, ts, hm _ _ _ h1, h2, by rw [e1]; exact h3, h4.mono hS hm, e2, ht 0 rfl⟩

theorem BlkOk.at {n₀ : Nat} {S : SM} {m : BM} {w : World} {b : Nat} {x : AB} (h : BlkOk n₀ S m w b x) {ver : Nat} (hx : x.ver? = some ver) :
    ∃ B K, m b ver = some (B, K) ∧ n₀ ≤ B ∧ B < w.heap.size ∧ (∀ o, S B o = none) ∧ ∀ v, ver < v → m b v = none := by
  cases x with
  | dead => cases hx
  | cells ver el' cs frz =>
    obtain ⟨B, K, el, vs, fz, h1, h2, h3, h4, h5, h6, h7, h8⟩ := h
    cases hx
    exact ⟨B, K, h1, h2.1, (Array.getElem?_eq_some_iff.1 h3).1, h6, h8⟩
  | map es =>
    obtain ⟨B, K, en, cl, h1, h2, h3, h4, h5, h6⟩ := h
    cases hx
    exact ⟨B, K, h1, h2, (Array.getElem?_eq_some_iff.1 h3).1, h5, h6⟩
  | dfd =>
    obtain ⟨B, K, h1, h2, h3, h5, h6⟩ := h
    cases hx
    exact ⟨B, K, h1, h2, (Array.getElem?_eq_some_iff.1 h3).1, h5, h6⟩
  | loop busy tms ps asg body db =>
    obtain ⟨B, K, D, fn, ts, h1, h2, h3, h4, h5, h6⟩ := h
    cases hx
    exact ⟨B, K, h1, h2, (Array.getElem?_eq_some_iff.1 h3).1, h5, h6⟩

section
variable {n₀ : Nat} {w₀ : World} {S₀ S : SM} {m : BM} {h : AHeap} {w : World}

theorem Sim.heap (s : Sim n₀ w₀ S₀ S m h w) {w' : World} (hw : w'.heap = w.heap) (he : Env w w') : Sim n₀ w₀ S₀ S m h w' where
  stable b o v hv := by rw [World.cell?_heap hw]; exact s.stable b o v hv
  size := by rw [hw]; exact s.size
  old b hb := by rw [hw]; exact s.old b hb
  new := s.new
  blk b x hx := (s.blk b x hx).same (SM.le_refl _) (BM.le_refl _) (fun ver B K h1 h2 => ⟨by rw [hw], by
    obtain ⟨B', K', g1, g2, g3, g4, _⟩ := (s.blk b x hx).at h1
    rw [g1] at h2; cases h2; exact g4⟩) (fun ver hv => by obtain ⟨B', K', g1, g2, g3, g4, g5⟩ := (s.blk b x hx).at hv; exact g5)
  inj := s.inj
  lt := s.lt
  env := s.env.trans he

theorem cell_push_lt {w : World} {o : Obj} {a : Addr} {v : Value} (h : w.cell? a = some v) : ({ w with heap := w.heap.push o } : World).cell? a = some v := by
  have hlt : a.block < w.heap.size := by
    unfold World.cell? at h
    by_cases hlt : a.block < w.heap.size
    · exact hlt
    · simp [Array.getElem?_eq_none (Nat.le_of_not_lt hlt)] at h
  unfold World.cell? at *
  simp only [Array.getElem?_push, show a.block ≠ w.heap.size by omega, if_false]
  exact h

def SM.fresh (S : SM) (B : Nat) (vs : Array Value) : SM := fun b o => if b = B then vs[o]? else S b o
def BM.put (m : BM) (b ver : Nat) (x : Nat × Nat) : BM := fun b' v' => if b' = b ∧ v' = ver then some x else m b' v'
theorem SM.fresh_ne (S : SM) {B b : Nat} (vs : Array Value) (o : Nat) (h : b ≠ B) : S.fresh B vs b o = S b o := by unfold SM.fresh; rw [if_neg h]
theorem SM.fresh_eq (S : SM) (B : Nat) (vs : Array Value) (o : Nat) : S.fresh B vs B o = vs[o]? := by unfold SM.fresh; rw [if_pos rfl]
theorem BM.put_ne (m : BM) {b ver b' v' : Nat} (x : Nat × Nat) (h : b' ≠ b) : m.put b ver x b' v' = m b' v' := by unfold BM.put; rw [if_neg (fun e => h e.1)]
theorem BM.put_ne' (m : BM) {b ver b' v' : Nat} (x : Nat × Nat) (h : v' ≠ ver) : m.put b ver x b' v' = m b' v' := by unfold BM.put; rw [if_neg (fun e => h e.2)]
theorem BM.put_eq (m : BM) (b ver : Nat) (x : Nat × Nat) : m.put b ver x b ver = some x := by unfold BM.put; rw [if_pos ⟨rfl, rfl⟩]

theorem Sim.bound (s : Sim n₀ w₀ S₀ S m h w) {b o : Nat} {v : Value} (hv : S b o = some v) : b < w.heap.size := by
  have := s.stable b o v hv
  unfold World.cell? at this
  by_cases hlt : b < w.heap.size
  · exact hlt
  · simp [Array.getElem?_eq_none (Nat.le_of_not_lt hlt)] at this

theorem Sim.none (s : Sim n₀ w₀ S₀ S m h w) {B : Nat} (hB : w.heap.size ≤ B) (o : Nat) : S B o = none := by
  cases hso : S B o with
  | none => rfl
  | some v => exact absurd (s.bound hso) (by omega)

theorem Sim.top (s : Sim n₀ w₀ S₀ S m h w) {b ver : Nat} {x : AB} (hx : h[b]? = some x) (hv : x.ver? = some ver) : ∀ v, ver < v → m b v = .none := by
  obtain ⟨B', K', g1, g2, g3, g4, g5⟩ := (s.blk b x hx).at hv; exact g5

theorem Sim.img (s : Sim n₀ w₀ S₀ S m h w) {b ver B K : Nat} {x : AB} (hx : h[b]? = some x) (hv : x.ver? = some ver) (hm : m b ver = some (B, K)) : n₀ ≤ B ∧ B < w.heap.size ∧ ∀ o, S B o = .none := by
  obtain ⟨B', K', g1, g2, g3, g4, g5⟩ := (s.blk b x hx).at hv
  rw [g1] at hm; cases hm; exact ⟨g2, g3, g4⟩

/-- A new block of cells that nobody will write to. -/
theorem Sim.fresh (s : Sim n₀ w₀ S₀ S m h w) (vs : Array Value) (el : TypeId) :
    S.le (S.fresh w.heap.size vs) ∧ Sim n₀ w₀ S₀ (S.fresh w.heap.size vs) m h { w with heap := w.heap.push (.cells vs el (0, 0)) } := by
  have hle : S.le (S.fresh w.heap.size vs) := fun b o v hv => by
    have := s.bound hv
    rw [SM.fresh_ne _ _ _ (by omega)]; exact hv
  refine ⟨hle, fun b o v hv => ?_, ?_, fun b hb => ?_, fun b o v hv => ?_, fun b x hx => ?_, s.inj, s.lt, s.env⟩
  · by_cases e : b = w.heap.size
    · subst e
      rw [SM.fresh_eq] at hv
      simp [World.cell?, hv]
    · rw [SM.fresh_ne _ _ _ e] at hv
      exact cell_push_lt (s.stable b o v hv)
  · have := s.size; simp; omega
  · rw [← s.old b hb]
    have := s.size
    simp only [Array.getElem?_push, show b ≠ w.heap.size by omega, if_false]
  · by_cases e : b = w.heap.size
    · subst e; exact .inr s.size
    · rw [SM.fresh_ne _ _ _ e] at hv; exact s.new b o v hv
  · refine (s.blk b x hx).same hle (BM.le_refl _) (fun ver B K h1 h2 => ?_) (fun ver hv => s.top hx hv)
    obtain ⟨g2, g3, g4⟩ := s.img hx h1 h2
    exact ⟨by simp only [Array.getElem?_push, show B ≠ w.heap.size by omega, if_false], fun o => by rw [SM.fresh_ne _ _ _ (by omega)]; exact g4 o⟩

theorem get_snoc {h : AHeap} {y : AB} {b : Nat} {x : AB} (hx : (h ++ [y])[b]? = some x) : (b < h.length ∧ h[b]? = some x) ∨ (b = h.length ∧ x = y) := by
  by_cases hb : b < h.length
  · rw [List.getElem?_append_left hb] at hx; exact .inl ⟨hb, hx⟩
  · rw [List.getElem?_append_right (by omega)] at hx
    by_cases hb' : b = h.length
    · subst hb'; simp at hx; exact .inr ⟨rfl, hx.symm⟩
    · rw [List.getElem?_eq_none (by simp; omega)] at hx; cases hx

/-- A new block of the machine's own. -/
theorem Sim.alloc (s : Sim n₀ w₀ S₀ S m h w) (vs : Array Value) (el : TypeId) (fz : Nat × Nat) (cs : List AV) {el' : Option TypeId} (hel : ∀ e, el' = some e → el = e ∧ (fz.1 = 0 ∨ fz.1 = fz.2)) (hv : VRs S m cs (vs.toList.take cs.length)) (hf : ∀ o, o < vs.size → ¬ (fz.1 ≤ o ∧ o < fz.2)) :
    m.le (m.put h.length 0 (w.heap.size, vs.size)) ∧ Sim n₀ w₀ S₀ S (m.put h.length 0 (w.heap.size, vs.size)) (h ++ [.cells 0 el' cs 0]) { w with heap := w.heap.push (.cells vs el fz) } := by
  have hle : m.le (m.put h.length 0 (w.heap.size, vs.size)) := fun b v x hx => by
    have := s.lt b v x hx
    rw [BM.put_ne _ _ (by omega)]; exact hx
  refine ⟨hle, fun b o v hv => cell_push_lt (s.stable b o v hv), by have := s.size; simp; omega, fun b hb => ?_, s.new, fun b x hx => ?_, ?_, fun b ver x hx => ?_, s.env⟩
  · rw [← s.old b hb]
    have := s.size
    simp only [Array.getElem?_push, show b ≠ w.heap.size by omega, if_false]
  · rcases get_snoc hx with ⟨hb, hx⟩ | ⟨rfl, rfl⟩
    · refine (s.blk b x hx).same (SM.le_refl _) hle (fun ver B K h1 h2 => ?_) (fun ver hv v hlt => by rw [BM.put_ne _ _ (by omega)]; exact s.top hx hv v hlt)
      obtain ⟨g2, g3, g4⟩ := s.img hx h1 h2
      exact ⟨by simp only [Array.getElem?_push, show B ≠ w.heap.size by omega, if_false], g4⟩
    · refine ⟨w.heap.size, vs.size, el, vs, fz, BM.put_eq _ _ _ _, ⟨s.size, hel⟩, by simp, rfl, hv.mono (SM.le_refl _) hle, s.none (Nat.le_refl _), fun o _ ho => ?_, fun v hlt => ?_⟩
      · have := hf o ho
        simp only [World.frozen?, Array.getElem?_push, if_true]
        simp only [Bool.and_eq_false_iff, decide_eq_false_iff_not]
        omega
      · rw [BM.put_ne' _ _ (by omega)]
        cases e : m h.length v with
        | none => rfl
        | some x => exact absurd (s.lt _ _ _ e) (by omega)
  · intro b b' x x' ver ver' B K K' hne hx hx' hv hv' h1 h2
    rcases get_snoc hx with ⟨hb, hx⟩ | ⟨rfl, rfl⟩ <;> rcases get_snoc hx' with ⟨hb', hx'⟩ | ⟨rfl, rfl⟩
    · rw [BM.put_ne _ _ (by omega)] at h1 h2
      exact s.inj b b' x x' ver ver' B K K' hne hx hx' hv hv' h1 h2
    · rw [BM.put_ne _ _ (by omega)] at h1
      cases hv'
      rw [BM.put_eq] at h2; cases h2
      have := s.img hx hv h1; omega
    · rw [BM.put_ne _ _ (by omega)] at h2
      cases hv
      rw [BM.put_eq] at h1; cases h1
      have := s.img hx' hv' h2; omega
    · exact hne rfl
  · by_cases e : b = h.length
    · subst e; simp
    · rw [BM.put_ne _ _ e] at hx
      have := s.lt b ver x hx; simp; omega

theorem heap_set_get {h : AHeap} {b c : Nat} {y x : AB} (hx : (h.set b y)[c]? = some x) : (c = b ∧ x = y) ∨ (c ≠ b ∧ h[c]? = some x) := by
  rw [List.getElem?_set] at hx
  split at hx
  · rename_i e
    split at hx
    · cases hx; exact .inl ⟨e.symm, rfl⟩
    · cases hx
  · rename_i e; exact .inr ⟨fun h => e h.symm, hx⟩

/-- A store into a block of the machine's own, or an append within its room: the block's cells turn, and its version may rise. -/
theorem Sim.write (s : Sim n₀ w₀ S₀ S m h w) {b ver ver' frz B K el : Nat} {el' : Option TypeId} {cs cs' : List AV} {vs vs' : Array Value} {fz : Nat × Nat} (hb : h[b]? = some (.cells ver el' cs frz)) (hm : m b ver = some (B, K))
    (hB : w.heap[B]? = some (.cells vs el fz)) (hsz : vs'.size = vs.size) (hv : VRs S m cs' (vs'.toList.take cs'.length)) (hver : ver ≤ ver') :
    m.le (m.put b ver' (B, K)) ∧ Sim n₀ w₀ S₀ S (m.put b ver' (B, K)) (h.set b (.cells ver' el' cs' frz)) (w.setRow B vs') := by
  have hle : m.le (m.put b ver' (B, K)) := fun c v x hx => by
    by_cases e : c = b ∧ v = ver'
    · obtain ⟨rfl, rfl⟩ := e
      rw [BM.put_eq]
      rcases Nat.lt_or_ge ver v with hlt | hge
      · rw [s.top hb rfl v hlt] at hx; cases hx
      · have : v = ver := by omega
        subst this; rw [hm] at hx; exact hx
    · unfold BM.put; rw [if_neg e]; exact hx
  obtain ⟨B₁, K₁, el₁, vs₁, fz₁, a1, a2, a3, a4, a5, a6, a7, a8⟩ := s.blk b _ hb
  rw [hm] at a1; cases a1
  rw [hB] at a3; cases a3
  have hBlt : B < w.heap.size := (Array.getElem?_eq_some_iff.1 hB).1
  have hfro : ∀ a, (w.setRow B vs').frozen? a = w.frozen? a := fun a => by
    unfold World.frozen?
    by_cases e : a.block = B
    · rw [e, setRow_heap w B vs vs' el fz hB, hB]
    · rw [setRow_other w B _ vs' e]
  refine ⟨hle, fun c o v hv => ?_, by simpa using s.size, fun c hc => ?_, s.new, fun c x hx => ?_, ?_, fun c v x hx => ?_, s.env⟩
  · have hcB : c ≠ B := fun e => by subst e; rw [a6 o] at hv; cases hv
    have := s.stable c o v hv
    unfold World.cell? at *
    rw [setRow_other w B c vs' hcB]; exact this
  · rw [setRow_other w B c vs' (by omega)]; exact s.old c hc
  · rcases heap_set_get hx with ⟨rfl, rfl⟩ | ⟨hne, hx⟩
    · refine ⟨B, K, el, vs', fz, BM.put_eq _ _ _ _, a2, setRow_heap w B vs vs' el fz hB, by omega, hv.mono (SM.le_refl _) hle, a6, fun o ho hk => by rw [hfro]; exact a7 o ho hk, fun v hlt => ?_⟩
      rw [BM.put_ne' _ _ (by omega)]; exact a8 v (by omega)
    · refine (s.blk c x hx).same (SM.le_refl _) hle (fun v C L h1 h2 => ?_) (fun v hv u hlt => by rw [BM.put_ne _ _ hne]; exact s.top hx hv u hlt)
      obtain ⟨g2, g3, g4⟩ := s.img hx h1 h2
      have hCB : C ≠ B := fun e => by subst e; exact s.inj c b x _ v ver C L K hne hx hb h1 rfl h2 hm
      exact ⟨setRow_other w B C vs' hCB, g4⟩
  · intro c c' x x' v v' C L L' hne hx hx' hv1 hv2 h1 h2
    rcases heap_set_get hx with ⟨rfl, rfl⟩ | ⟨hc, gx⟩ <;> rcases heap_set_get hx' with ⟨rfl, rfl⟩ | ⟨hc', gx'⟩
    · exact hne rfl
    · cases hv1
      rw [BM.put_eq] at h1; cases h1
      rw [BM.put_ne _ _ hc'] at h2
      exact s.inj c c' _ x' ver v' _ K L' hne hb gx' rfl hv2 hm h2
    · cases hv2
      rw [BM.put_eq] at h2; cases h2
      rw [BM.put_ne _ _ hc] at h1
      exact s.inj c c' x _ v ver _ L K hne gx hb hv1 rfl h1 hm
    · rw [BM.put_ne _ _ hc] at h1
      rw [BM.put_ne _ _ hc'] at h2
      exact s.inj c c' x x' v v' C L L' hne gx gx' hv1 hv2 h1 h2
  · rw [List.length_set]
    by_cases e : c = b
    · subst e; exact (List.getElem?_eq_some_iff.1 hb).1
    · rw [BM.put_ne _ _ e] at hx; exact s.lt c v x hx

/-- A block of the machine's own moves into a new block. -/
theorem Sim.move (s : Sim n₀ w₀ S₀ S m h w) {b ver frz el : Nat} {el' : Option TypeId} (hel : ∀ e, el' = some e → el = e) {cs cs' : List AV} {vs' : Array Value} (hb : h[b]? = some (.cells ver el' cs frz)) (hv : VRs S m cs' (vs'.toList.take cs'.length)) :
    m.le (m.put b (ver + 1) (w.heap.size, vs'.size)) ∧ Sim n₀ w₀ S₀ S (m.put b (ver + 1) (w.heap.size, vs'.size)) (h.set b (.cells (ver + 1) el' cs' frz)) { w with heap := w.heap.push (.cells vs' el (0, 0)) } := by
  have hle : m.le (m.put b (ver + 1) (w.heap.size, vs'.size)) := fun c v x hx => by
    by_cases e : c = b ∧ v = ver + 1
    · obtain ⟨rfl, rfl⟩ := e
      rw [s.top hb rfl _ (Nat.lt_succ_self _)] at hx; cases hx
    · unfold BM.put; rw [if_neg e]; exact hx
  refine ⟨hle, fun c o v hv => cell_push_lt (s.stable c o v hv), by have := s.size; simp; omega, fun c hc => ?_, s.new, fun c x hx => ?_, ?_, fun c v x hx => ?_, s.env⟩
  · rw [← s.old c hc]
    have := s.size
    simp only [Array.getElem?_push, show c ≠ w.heap.size by omega, if_false]
  · rcases heap_set_get hx with ⟨rfl, rfl⟩ | ⟨hne, hx⟩
    · refine ⟨w.heap.size, vs'.size, el, vs', (0, 0), BM.put_eq _ _ _ _, ⟨s.size, fun e he => ⟨hel e he, .inl rfl⟩⟩, by simp, rfl, hv.mono (SM.le_refl _) hle, s.none (Nat.le_refl _), fun o ho hk => by simp [World.frozen?], fun v hlt => ?_⟩
      rw [BM.put_ne' _ _ (by omega)]; exact s.top hb rfl v (by omega)
    · refine (s.blk c x hx).same (SM.le_refl _) hle (fun v C L h1 h2 => ?_) (fun v hv u hlt => by rw [BM.put_ne _ _ hne]; exact s.top hx hv u hlt)
      obtain ⟨g2, g3, g4⟩ := s.img hx h1 h2
      exact ⟨by simp only [Array.getElem?_push, show C ≠ w.heap.size by omega, if_false], g4⟩
  · intro c c' x x' v v' C L L' hne hx hx' hv1 hv2 h1 h2
    rcases heap_set_get hx with ⟨rfl, rfl⟩ | ⟨hc, gx⟩ <;> rcases heap_set_get hx' with ⟨rfl, rfl⟩ | ⟨hc', gx'⟩
    · exact hne rfl
    · cases hv1
      rw [BM.put_eq] at h1; cases h1
      rw [BM.put_ne _ _ hc'] at h2
      have := s.img gx' hv2 h2; omega
    · cases hv2
      rw [BM.put_eq] at h2; cases h2
      rw [BM.put_ne _ _ hc] at h1
      have := s.img gx hv1 h1; omega
    · rw [BM.put_ne _ _ hc] at h1
      rw [BM.put_ne _ _ hc'] at h2
      exact s.inj c c' x x' v v' C L L' hne gx gx' hv1 hv2 h1 h2
  · rw [List.length_set]
    by_cases e : c = b
    · subst e; exact (List.getElem?_eq_some_iff.1 hb).1
    · rw [BM.put_ne _ _ e] at hx; exact s.lt c v x hx

/-- Any new block. -/
theorem Sim.push (s : Sim n₀ w₀ S₀ S m h w) (x : AB) (o : Obj) (K : Nat) (hx0 : x.ver? = some 0) (hok : BlkOk n₀ S (m.put h.length 0 (w.heap.size, K)) { w with heap := w.heap.push o } h.length x) :
    m.le (m.put h.length 0 (w.heap.size, K)) ∧ Sim n₀ w₀ S₀ S (m.put h.length 0 (w.heap.size, K)) (h ++ [x]) { w with heap := w.heap.push o } := by
  have hle : m.le (m.put h.length 0 (w.heap.size, K)) := fun b v x hx => by
    have := s.lt b v x hx
    rw [BM.put_ne _ _ (by omega)]; exact hx
  refine ⟨hle, fun b o v hv => cell_push_lt (s.stable b o v hv), by have := s.size; simp; omega, fun b hb => ?_, s.new, fun b x' hx => ?_, ?_, fun b ver x' hx => ?_, s.env⟩
  · rw [← s.old b hb]
    have := s.size
    simp only [Array.getElem?_push, show b ≠ w.heap.size by omega, if_false]
  · rcases get_snoc hx with ⟨hb, hx⟩ | ⟨rfl, rfl⟩
    · refine (s.blk b x' hx).same (SM.le_refl _) hle (fun ver B K h1 h2 => ?_) (fun ver hv v hlt => by rw [BM.put_ne _ _ (by omega)]; exact s.top hx hv v hlt)
      obtain ⟨g2, g3, g4⟩ := s.img hx h1 h2
      exact ⟨by simp only [Array.getElem?_push, show B ≠ w.heap.size by omega, if_false], g4⟩
    · exact hok
  · intro b b' y y' ver ver' B K K' hne hx hx' hv hv' h1 h2
    rcases get_snoc hx with ⟨hb, gx⟩ | ⟨e1, e2⟩ <;> rcases get_snoc hx' with ⟨hb', gx'⟩ | ⟨e1', e2'⟩
    · rw [BM.put_ne _ _ (by omega)] at h1 h2
      exact s.inj b b' y y' ver ver' B K K' hne gx gx' hv hv' h1 h2
    · rw [BM.put_ne _ _ (by omega)] at h1
      subst e1'
      rw [e2', hx0] at hv'; cases hv'
      rw [BM.put_eq] at h2; cases h2
      have := s.img gx hv h1; omega
    · rw [BM.put_ne _ _ (by omega)] at h2
      subst e1
      rw [e2, hx0] at hv; cases hv
      rw [BM.put_eq] at h1; cases h1
      have := s.img gx' hv' h2; omega
    · exact hne (e1.trans e1'.symm)
  · by_cases e : b = h.length
    · subst e; simp
    · rw [BM.put_ne _ _ e] at hx
      have := s.lt b ver x' hx; simp; omega

/-- A block that is no row of cells turns into something else. -/
theorem Sim.turn (s : Sim n₀ w₀ S₀ S m h w) {b B K : Nat} {x : AB} (hb : h[b]? = some x) (hx0 : x.ver? = some 0) (hm : m b 0 = some (B, K)) (y : AB) (o : Obj) (hy : ∀ v, y.ver? = some v → v = 0)
    (hok : BlkOk n₀ S m (w.putObj B o) b y) : Sim n₀ w₀ S₀ S m (h.set b y) (w.putObj B o) := by
  obtain ⟨hn0, hBlt, hSB⟩ := s.img hb hx0 hm
  have hheap : ∀ i, i ≠ B → (w.putObj B o).heap[i]? = w.heap[i]? := fun i hi => by
    unfold World.putObj
    simp [Array.getElem?_setIfInBounds_ne (Ne.symm hi)]
  have hsz : (w.putObj B o).heap.size = w.heap.size := by simp [World.putObj]
  refine ⟨fun c o' v hv => ?_, by rw [hsz]; exact s.size, fun c hc => ?_, s.new, fun c x' hx => ?_, ?_, fun c v x' hx => by rw [List.length_set]; exact s.lt c v x' hx, s.env⟩
  · have hcB : c ≠ B := fun e => by subst e; rw [hSB o'] at hv; cases hv
    have := s.stable c o' v hv
    unfold World.cell? at this ⊢
    rw [hheap c hcB]; exact this
  · rw [hheap c (by omega)]; exact s.old c hc
  · rcases heap_set_get hx with ⟨rfl, rfl⟩ | ⟨hne, hx⟩
    · exact hok
    · refine (s.blk c x' hx).same (SM.le_refl _) (BM.le_refl _) (fun ver C L h1 h2 => ?_) (fun ver hv => s.top hx hv)
      have hC : C ≠ B := fun e => by
        subst e
        exact s.inj c b x' x ver 0 C L K hne hx hb h1 hx0 h2 hm
      obtain ⟨g2, g3, g4⟩ := s.img hx h1 h2
      exact ⟨hheap C hC, g4⟩
  · intro c c' y1 y2 v v' C L L' hne hx hx' hv1 hv2 h1 h2
    rcases heap_set_get hx with ⟨rfl, rfl⟩ | ⟨hc, gx⟩ <;> rcases heap_set_get hx' with ⟨rfl, rfl⟩ | ⟨hc', gx'⟩
    · exact hne rfl
    · have := hy v hv1; subst this
      exact s.inj c c' x y2 0 v' C L L' hne hb gx' hx0 hv2 h1 h2
    · have := hy v' hv2; subst this
      exact s.inj c c' y1 x v 0 C L L' hne gx hb hv1 hx0 h1 h2
    · exact s.inj c c' y1 y2 v v' C L L' hne gx gx' hv1 hv2 h1 h2
end
end Go.Abs
