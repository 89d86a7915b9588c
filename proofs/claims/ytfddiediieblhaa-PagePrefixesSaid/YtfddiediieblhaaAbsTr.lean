/- A frame's temporaries: a tree that the kernel looks up quickly. -/
import Derived.Test.YtfddiediieblhaaAbsA0
set_option linter.unusedVariables false
namespace Go.Abs

inductive Tr where
  | leaf
  | node (v : AV) (l r : Tr)
  deriving Inhabited

--FAST
noncomputable def Tr.get (t : Tr) : Nat → AV :=
  Tr.rec (motive := fun _ => Nat → AV) (fun _ => .undef) (fun v _ _ gl gr n => Nat.rec (motive := fun _ => AV) v (fun n _ => cond (Nat.beq (Nat.mod n 2) 0) (gl (Nat.div n 2)) (gr (Nat.div n 2))) n) t
noncomputable def Tr.set (t : Tr) : Nat → AV → Tr :=
  Tr.rec (motive := fun _ => Nat → AV → Tr) (fun _ _ => .leaf) (fun v l r sl sr n w => Nat.rec (motive := fun _ => Tr) (.node w l r) (fun n _ => cond (Nat.beq (Nat.mod n 2) 0) (.node v (sl (Nat.div n 2) w) r) (.node v l (sr (Nat.div n 2) w))) n) t
--SLOW
--def Tr.get : Tr → Nat → AV
--  | .leaf, _ => .undef
--  | .node v l r, n => match n with
--    | 0 => v
--    | n + 1 => cond (Nat.beq (Nat.mod n 2) 0) (l.get (Nat.div n 2)) (r.get (Nat.div n 2))
--def Tr.set : Tr → Nat → AV → Tr
--  | .leaf, _, _ => .leaf
--  | .node v l r, n, w => match n with
--    | 0 => .node w l r
--    | n + 1 => cond (Nat.beq (Nat.mod n 2) 0) (.node v (l.set (Nat.div n 2) w) r) (.node v l (r.set (Nat.div n 2) w))
--END

theorem Tr.get_leaf (n : Nat) : Tr.leaf.get n = .undef := rfl
theorem Tr.get_zero (v : AV) (l r : Tr) : (Tr.node v l r).get 0 = v := rfl
theorem Tr.get_succ (v : AV) (l r : Tr) (n : Nat) : (Tr.node v l r).get (n + 1) = cond (Nat.beq (Nat.mod n 2) 0) (l.get (Nat.div n 2)) (r.get (Nat.div n 2)) := rfl
theorem Tr.set_leaf (n : Nat) (w : AV) : Tr.leaf.set n w = .leaf := rfl
theorem Tr.set_zero (v w : AV) (l r : Tr) : (Tr.node v l r).set 0 w = .node w l r := rfl
theorem Tr.set_succ (v w : AV) (l r : Tr) (n : Nat) : (Tr.node v l r).set (n + 1) w = cond (Nat.beq (Nat.mod n 2) 0) (.node v (l.set (Nat.div n 2) w) r) (.node v l (r.set (Nat.div n 2) w)) := rfl

theorem half_inj {n m : Nat} (h : Nat.beq (Nat.mod n 2) 0 = Nat.beq (Nat.mod m 2) 0) (hd : Nat.div n 2 = Nat.div m 2) : n = m := by
  have h1 : n % 2 = m % 2 := by
    change (n % 2).beq 0 = (m % 2).beq 0 at h
    have a := Nat.mod_two_eq_zero_or_one n
    have b := Nat.mod_two_eq_zero_or_one m
    rcases a with a | a <;> rcases b with b | b <;> rw [a, b] at h ⊢ <;> first | rfl | (cases h)
  have h2 : n / 2 = m / 2 := hd
  omega

theorem Tr.get_set_ne : ∀ (t : Tr) {i d : Nat} (v : AV), i ≠ d → (t.set d v).get i = t.get i
  | .leaf, _, _, _, _ => rfl
  | .node x l r, 0, 0, _, h => (h rfl).elim
  | .node x l r, i + 1, 0, _, _ => by rw [Tr.set_zero, Tr.get_succ, Tr.get_succ]
  | .node x l r, 0, d + 1, _, _ => by rw [Tr.set_succ]; cases Nat.beq (Nat.mod d 2) 0 <;> rfl
  | .node x l r, i + 1, d + 1, v, h => by
    rw [Tr.set_succ]
    cases hd : Nat.beq (Nat.mod d 2) 0 <;> simp only [cond] <;> rw [Tr.get_succ, Tr.get_succ] <;> cases hi : Nat.beq (Nat.mod i 2) 0 <;> simp only [cond]
    · exact Tr.get_set_ne r v fun e => h (by rw [half_inj (hi.trans hd.symm) e])
    · exact Tr.get_set_ne l v fun e => h (by rw [half_inj (hi.trans hd.symm) e])

theorem Tr.get_set_eq : ∀ (t : Tr) (d : Nat) (v : AV), (t.set d v).get d = v ∨ (t.set d v).get d = .undef
  | .leaf, _, _ => .inr rfl
  | .node x l r, 0, _ => .inl rfl
  | .node x l r, d + 1, v => by
    rw [Tr.set_succ]
    cases hd : Nat.beq (Nat.mod d 2) 0 <;> simp only [cond] <;> rw [Tr.get_succ, hd] <;> simp only [cond]
    · exact Tr.get_set_eq r _ v
    · exact Tr.get_set_eq l _ v

theorem Tr.set_comm : ∀ (t : Tr) {d e : Nat} (v u : AV), d ≠ e → (t.set d v).set e u = (t.set e u).set d v
  | .leaf, _, _, _, _, _ => rfl
  | .node x l r, 0, 0, _, _, h => (h rfl).elim
  | .node x l r, d + 1, 0, v, u, _ => by
    rw [Tr.set_succ, Tr.set_zero]
    cases hd : Nat.beq (Nat.mod d 2) 0 <;> simp only [cond] <;> rw [Tr.set_zero, Tr.set_succ, hd] <;> rfl
  | .node x l r, 0, e + 1, v, u, _ => by
    rw [Tr.set_succ, Tr.set_zero]
    cases hd : Nat.beq (Nat.mod e 2) 0 <;> rw [Tr.set_succ, hd] <;> simp only [cond] <;> rw [Tr.set_zero]
  | .node x l r, d + 1, e + 1, v, u, h => by
    rw [Tr.set_succ, Tr.set_succ]
    cases hd : Nat.beq (Nat.mod d 2) 0 <;> cases he : Nat.beq (Nat.mod e 2) 0 <;> simp only [cond] <;> rw [Tr.set_succ, Tr.set_succ, hd, he] <;> simp only [cond]
    · rw [Tr.set_comm r v u fun q => h (by rw [half_inj (hd.trans he.symm) q])]
    · rw [Tr.set_comm l v u fun q => h (by rw [half_inj (hd.trans he.symm) q])]

def Tr.full : Nat → Tr
  | 0 => .leaf
  | n + 1 => .node .undef (Tr.full n) (Tr.full n)

theorem Tr.get_full : ∀ (n i : Nat), (Tr.full n).get i = .undef
  | 0, _ => rfl
  | n + 1, 0 => rfl
  | n + 1, i + 1 => by
    unfold Tr.full
    rw [Tr.get_succ]
    cases Nat.beq (Nat.mod i 2) 0 <;> simp only [cond] <;> exact Tr.get_full n _

/-- Temporaries: so many, and what they hold. -/
structure Tm where
  n : Nat
  t : Tr
  deriving Inhabited

--FAST
noncomputable def Tm.get (x : Tm) (i : Nat) : AV := x.t.get i
noncomputable def Tm.set (x : Tm) (d : Nat) (v : AV) : Tm := cond (Nat.blt d x.n) ⟨x.n, x.t.set d v⟩ x
noncomputable def Tm.setL : List AV → Nat → Tm → Tm
  | [], _, x => x
  | v :: r, i, x => Tm.setL r (i + 1) (x.set i v)
--SLOW
--def Tm.get (x : Tm) (i : Nat) : AV := x.t.get i
--def Tm.set (x : Tm) (d : Nat) (v : AV) : Tm := cond (Nat.blt d x.n) ⟨x.n, x.t.set d v⟩ x
--def Tm.setL : List AV → Nat → Tm → Tm
--  | [], _, x => x
--  | v :: r, i, x => Tm.setL r (i + 1) (x.set i v)
--END
def Tm.new (n : Nat) : Tm := ⟨n, Tr.full (Nat.log2 (n + 1) + 1)⟩

theorem Tm.get_new (n i : Nat) : (Tm.new n).get i = .undef := Tr.get_full _ _
theorem Tm.set_n (x : Tm) (d : Nat) (v : AV) : (x.set d v).n = x.n := by
  unfold Tm.set; cases Nat.blt d x.n <;> rfl
theorem Tm.get_set_ne (x : Tm) {i d : Nat} (v : AV) (h : i ≠ d) : (x.set d v).get i = x.get i := by
  unfold Tm.set Tm.get; cases Nat.blt d x.n
  · rfl
  · exact Tr.get_set_ne _ v h
theorem Tm.get_set_eq (x : Tm) {d : Nat} (v : AV) (h : d < x.n) : (x.set d v).get d = v ∨ (x.set d v).get d = .undef := by
  unfold Tm.set Tm.get
  have : Nat.blt d x.n = true := Nat.blt_eq ▸ h
  rw [this]
  exact Tr.get_set_eq _ _ v
theorem Tm.set_out (x : Tm) {d : Nat} (v : AV) (h : ¬ d < x.n) : x.set d v = x := by
  unfold Tm.set
  have : Nat.blt d x.n = false := by
    cases e : Nat.blt d x.n
    · rfl
    · exact (h ((Nat.blt_eq ▸ e : d < x.n))).elim
  rw [this]; rfl
theorem Tm.set_comm (x : Tm) {d e : Nat} (v u : AV) (h : d ≠ e) : (x.set d v).set e u = (x.set e u).set d v := by
  unfold Tm.set
  cases hd : Nat.blt d x.n <;> cases he : Nat.blt e x.n <;> simp only [cond, hd, he]
  rw [Tr.set_comm _ v u h]
end Go.Abs
