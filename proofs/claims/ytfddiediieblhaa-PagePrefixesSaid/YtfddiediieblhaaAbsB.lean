/- How the small machine's values and memory stand for the program's. -/
import Derived.Test.YtfddiediieblhaaAbsA
set_option linter.unusedVariables false
namespace Go.Abs

/-- Cells that nobody writes to. -/
abbrev SM := Nat → Nat → Option Value
/-- Which block stands for a block of the small machine (with the version), and how many cells it has. -/
abbrev BM := Nat → Nat → Option (Nat × Nat)

/-- Function values: yield is of a block of the machine's own. -/
def fnR (m : BM) : Fn → Fn → Prop
  | .yield b, f => ∃ B K, m b 0 = some (B, K) ∧ f = .yield B
  | g, f => f = g

mutual
def VR (S : SM) (m : BM) : AV → Value → Prop
  | .undef, _ => True
  | .bool b, v => v = .bool b
  | .int k n, v => v = .int k n
  | .flt k n, v => v = .float k n
  | .str s, v => v = .string ⟨s.toArray⟩
  | .nilp, v => v = .pointer none
  | .ptr b ver o, v => ∃ B K, m b ver = some (B, K) ∧ v = .pointer (some ⟨B, o, none⟩)
  | .pin cs o, v => ∃ B q, v = .pointer (some ⟨B, q + o, none⟩) ∧ CR S m cs B q
  | .lst sz xs c0, v => ∃ a cap, v = .slice a xs.length cap ∧ xs.length ≤ cap ∧ (c0 = true → cap = xs.length ∧ (sz = 0 → a = none)) ∧ (xs ≠ [] → ∃ B q, a = some ⟨B, q, none⟩ ∧ ER S m sz xs B q)
  | .sl sz b ver o len, v => ∃ B K cap, m b ver = some (B, K) ∧ v = .slice (some ⟨B, o, none⟩) len cap ∧ len ≤ cap ∧ o + cap * sz ≤ K
  | .mapn, v => v = .map none
  | .map b, v => ∃ B K, m b 0 = some (B, K) ∧ v = .map (some B)
  | .fn f x y, v => ∃ x' y', (∃ f', v = .func f' x' y' ∧ fnR m f f') ∧ VRs S m x x'.toList ∧ VRs S m y y'.toList
  | .nilf, v => v = .nilFunc
  | .ifc t x, v => ∃ u, v = .iface t u ∧ VR S m x u
  | .nili, v => v = .nilIface
  | .agg cs, v => ∃ vs, v = .agg vs ∧ VRs S m cs vs.toList
  | .tup cs, v => ∃ vs, v = .tuple vs ∧ VRs S m cs vs.toList
def VRs (S : SM) (m : BM) : List AV → List Value → Prop
  | [], vs => vs = []
  | x :: xs, vs => ∃ v vs', vs = v :: vs' ∧ VR S m x v ∧ VRs S m xs vs'
def CR (S : SM) (m : BM) : List AV → Nat → Nat → Prop
  | [], _, _ => True
  | x :: xs, B, q => (∃ v, S B q = some v ∧ VR S m x v) ∧ CR S m xs B (q + 1)
def ER (S : SM) (m : BM) (sz : Nat) : List AV → Nat → Nat → Prop
  | [], _, _ => True
  | .agg cs :: xs, B, q => CR S m cs B q ∧ ER S m sz xs B (q + sz)
  | x :: xs, B, q => (∃ v, S B q = some v ∧ VR S m x v) ∧ ER S m sz xs B (q + sz)
end

def SM.le (S S' : SM) : Prop := ∀ b o v, S b o = some v → S' b o = some v
def BM.le (m m' : BM) : Prop := ∀ b v x, m b v = some x → m' b v = some x
theorem SM.le_refl (S : SM) : S.le S := fun _ _ _ h => h
theorem BM.le_refl (m : BM) : m.le m := fun _ _ _ h => h
theorem SM.le_trans {S S' S'' : SM} (h : S.le S') (h' : S'.le S'') : S.le S'' := fun _ _ _ g => h' _ _ _ (h _ _ _ g)
theorem BM.le_trans {m m' m'' : BM} (h : m.le m') (h' : m'.le m'') : m.le m'' := fun _ _ _ g => h' _ _ _ (h _ _ _ g)

section
variable {S S' : SM} {m m' : BM}

theorem fnR_plain {f f' : Fn} (hf : isYield f = false) : fnR m f f' ↔ f' = f := by
  cases f <;> first | exact Iff.rfl | (cases hf)

theorem fnR_mono (hm : m.le m') (f : Fn) {f' : Fn} (h : fnR m f f') : fnR m' f f' := by
  cases f <;> first | exact h | (obtain ⟨B, K, h1, h2⟩ := h; exact ⟨B, K, hm _ _ _ h1, h2⟩)

mutual
theorem VR.mono (hS : S.le S') (hm : m.le m') : ∀ (x : AV) {v : Value}, VR S m x v → VR S' m' x v
  | .undef, _, _ => trivial
  | .bool b, _, h => h
  | .int k n, _, h => h
  | .flt k n, _, h => h
  | .str s, _, h => h
  | .nilp, _, h => h
  | .ptr b ver o, _, h => by unfold VR at *; obtain ⟨B, K, h1, h2⟩ := h; exact ⟨B, K, hm _ _ _ h1, h2⟩
  | .pin cs o, _, h => by unfold VR at *; obtain ⟨B, q, h1, h2⟩ := h; exact ⟨B, q, h1, CR.mono hS hm cs h2⟩
  | .lst sz xs c0, _, h => by
    unfold VR at *
    obtain ⟨a, cap, h1, h2, h3, h4⟩ := h
    exact ⟨a, cap, h1, h2, h3, fun hne => let ⟨B, q, h5, h6⟩ := h4 hne; ⟨B, q, h5, ER.mono hS hm sz xs h6⟩⟩
  | .sl sz b ver o len, _, h => by unfold VR at *; obtain ⟨B, K, cap, h1, h2⟩ := h; exact ⟨B, K, cap, hm _ _ _ h1, h2⟩
  | .mapn, _, h => h
  | .map b, _, h => by unfold VR at *; obtain ⟨B, K, h1, h2⟩ := h; exact ⟨B, K, hm _ _ _ h1, h2⟩
  | .fn f x y, _, h => by unfold VR at *; obtain ⟨x', y', ⟨f', h1, h4⟩, h2, h3⟩ := h; exact ⟨x', y', ⟨f', h1, fnR_mono hm f h4⟩, VRs.mono hS hm x h2, VRs.mono hS hm y h3⟩
  | .nilf, _, h => h
  | .ifc t x, _, h => by unfold VR at *; obtain ⟨u, h1, h2⟩ := h; exact ⟨u, h1, VR.mono hS hm x h2⟩
  | .nili, _, h => h
  | .agg cs, _, h => by unfold VR at *; obtain ⟨vs, h1, h2⟩ := h; exact ⟨vs, h1, VRs.mono hS hm cs h2⟩
  | .tup cs, _, h => by unfold VR at *; obtain ⟨vs, h1, h2⟩ := h; exact ⟨vs, h1, VRs.mono hS hm cs h2⟩
theorem VRs.mono (hS : S.le S') (hm : m.le m') : ∀ (xs : List AV) {vs : List Value}, VRs S m xs vs → VRs S' m' xs vs
  | [], _, h => h
  | x :: xs, _, h => by unfold VRs at *; obtain ⟨v, vs', h1, h2, h3⟩ := h; exact ⟨v, vs', h1, VR.mono hS hm x h2, VRs.mono hS hm xs h3⟩
theorem CR.mono (hS : S.le S') (hm : m.le m') : ∀ (xs : List AV) {B q : Nat}, CR S m xs B q → CR S' m' xs B q
  | [], _, _, _ => trivial
  | x :: xs, _, _, h => by unfold CR at *; obtain ⟨⟨v, h1, h2⟩, h3⟩ := h; exact ⟨⟨v, hS _ _ _ h1, VR.mono hS hm x h2⟩, CR.mono hS hm xs h3⟩
theorem ER.mono (hS : S.le S') (hm : m.le m') (sz : Nat) : ∀ (xs : List AV) {B q : Nat}, ER S m sz xs B q → ER S' m' sz xs B q
  | [], _, _, _ => trivial
  | .agg cs :: xs, _, _, h => by unfold ER at *; exact ⟨CR.mono hS hm cs h.1, ER.mono hS hm sz xs h.2⟩
  | .undef :: xs, _, _, h => by unfold ER at *; obtain ⟨⟨v, h1, h2⟩, h3⟩ := h; exact ⟨⟨v, hS _ _ _ h1, VR.mono hS hm _ h2⟩, ER.mono hS hm sz xs h3⟩
  | .bool _ :: xs, _, _, h => by unfold ER at *; obtain ⟨⟨v, h1, h2⟩, h3⟩ := h; exact ⟨⟨v, hS _ _ _ h1, VR.mono hS hm _ h2⟩, ER.mono hS hm sz xs h3⟩
  | .int _ _ :: xs, _, _, h => by unfold ER at *; obtain ⟨⟨v, h1, h2⟩, h3⟩ := h; exact ⟨⟨v, hS _ _ _ h1, VR.mono hS hm _ h2⟩, ER.mono hS hm sz xs h3⟩
  | .flt _ _ :: xs, _, _, h => by unfold ER at *; obtain ⟨⟨v, h1, h2⟩, h3⟩ := h; exact ⟨⟨v, hS _ _ _ h1, VR.mono hS hm _ h2⟩, ER.mono hS hm sz xs h3⟩
  | .str _ :: xs, _, _, h => by unfold ER at *; obtain ⟨⟨v, h1, h2⟩, h3⟩ := h; exact ⟨⟨v, hS _ _ _ h1, VR.mono hS hm _ h2⟩, ER.mono hS hm sz xs h3⟩
  | .nilp :: xs, _, _, h => by unfold ER at *; obtain ⟨⟨v, h1, h2⟩, h3⟩ := h; exact ⟨⟨v, hS _ _ _ h1, VR.mono hS hm _ h2⟩, ER.mono hS hm sz xs h3⟩
  | .ptr _ _ _ :: xs, _, _, h => by unfold ER at *; obtain ⟨⟨v, h1, h2⟩, h3⟩ := h; exact ⟨⟨v, hS _ _ _ h1, VR.mono hS hm _ h2⟩, ER.mono hS hm sz xs h3⟩
  | .pin a b :: xs, _, _, h => by unfold ER at *; obtain ⟨⟨v, h1, h2⟩, h3⟩ := h; exact ⟨⟨v, hS _ _ _ h1, VR.mono hS hm (.pin a b) h2⟩, ER.mono hS hm sz xs h3⟩
  | .lst a b c :: xs, _, _, h => by unfold ER at *; obtain ⟨⟨v, h1, h2⟩, h3⟩ := h; exact ⟨⟨v, hS _ _ _ h1, VR.mono hS hm (.lst a b c) h2⟩, ER.mono hS hm sz xs h3⟩
  | .sl _ _ _ _ _ :: xs, _, _, h => by unfold ER at *; obtain ⟨⟨v, h1, h2⟩, h3⟩ := h; exact ⟨⟨v, hS _ _ _ h1, VR.mono hS hm _ h2⟩, ER.mono hS hm sz xs h3⟩
  | .mapn :: xs, _, _, h => by unfold ER at *; obtain ⟨⟨v, h1, h2⟩, h3⟩ := h; exact ⟨⟨v, hS _ _ _ h1, VR.mono hS hm _ h2⟩, ER.mono hS hm sz xs h3⟩
  | .map _ :: xs, _, _, h => by unfold ER at *; obtain ⟨⟨v, h1, h2⟩, h3⟩ := h; exact ⟨⟨v, hS _ _ _ h1, VR.mono hS hm _ h2⟩, ER.mono hS hm sz xs h3⟩
  | .fn a b c :: xs, _, _, h => by unfold ER at *; obtain ⟨⟨v, h1, h2⟩, h3⟩ := h; exact ⟨⟨v, hS _ _ _ h1, VR.mono hS hm (.fn a b c) h2⟩, ER.mono hS hm sz xs h3⟩
  | .nilf :: xs, _, _, h => by unfold ER at *; obtain ⟨⟨v, h1, h2⟩, h3⟩ := h; exact ⟨⟨v, hS _ _ _ h1, VR.mono hS hm _ h2⟩, ER.mono hS hm sz xs h3⟩
  | .ifc a b :: xs, _, _, h => by unfold ER at *; obtain ⟨⟨v, h1, h2⟩, h3⟩ := h; exact ⟨⟨v, hS _ _ _ h1, VR.mono hS hm (.ifc a b) h2⟩, ER.mono hS hm sz xs h3⟩
  | .nili :: xs, _, _, h => by unfold ER at *; obtain ⟨⟨v, h1, h2⟩, h3⟩ := h; exact ⟨⟨v, hS _ _ _ h1, VR.mono hS hm _ h2⟩, ER.mono hS hm sz xs h3⟩
  | .tup a :: xs, _, _, h => by unfold ER at *; obtain ⟨⟨v, h1, h2⟩, h3⟩ := h; exact ⟨⟨v, hS _ _ _ h1, VR.mono hS hm (.tup a) h2⟩, ER.mono hS hm sz xs h3⟩
end

/-- Temporaries that stand for temporaries. -/
def TR (S : SM) (m : BM) (x : Tm) (ts : Array Value) : Prop := x.n = ts.size ∧ ∀ i, VR S m (x.get i) (ts.getD i (.tuple #[]))

theorem TR.mono (hS : S.le S') (hm : m.le m') {x : Tm} {ts : Array Value} (h : TR S m x ts) : TR S' m' x ts := ⟨h.1, fun i => VR.mono hS hm _ (h.2 i)⟩

theorem TR.set {x : Tm} {ts : Array Value} (h : TR S m x ts) (d : Nat) {y : AV} {v : Value} (hy : VR S m y v) : TR S m (x.set d y) (ts.setIfInBounds d v) := by
  refine ⟨by rw [Tm.set_n]; simpa using h.1, fun i => ?_⟩
  by_cases hd : d < x.n
  · by_cases hi : i = d
    · subst hi
      have e : (ts.setIfInBounds i v).getD i (.tuple #[]) = v := by
        have : i < ts.size := by have := h.1; omega
        simp [Array.getD, this]
      rw [e]
      rcases x.get_set_eq y hd with g | g <;> rw [g]
      · exact hy
      · unfold VR; trivial
    · rw [x.get_set_ne y hi]
      have e : (ts.setIfInBounds d v).getD i (.tuple #[]) = ts.getD i (.tuple #[]) := by
        simp [Array.getElem?_setIfInBounds_ne (Ne.symm hi)]
      rw [e]; exact h.2 i
  · rw [x.set_out y hd]
    have e : ts.setIfInBounds d v = ts := by
      have := h.1
      apply Array.ext_getElem?
      intro j
      by_cases hj : d = j
      · subst hj
        rw [Array.getElem?_eq_none (by simp; omega), Array.getElem?_eq_none (by omega)]
      · rw [Array.getElem?_setIfInBounds_ne hj]
    rw [e]; exact h.2 i
end
end Go.Abs
