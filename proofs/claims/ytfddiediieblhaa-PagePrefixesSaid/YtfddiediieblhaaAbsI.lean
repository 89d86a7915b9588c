/- Comparing; and all operations together. -/
import Derived.Test.YtfddiediieblhaaAbsH
import Derived.LaidEqlPtr
import Derived.ChangeKeysEq
set_option linter.unusedVariables false
set_option linter.unusedSimpArgs false
namespace Go.Abs

section
variable {P : Program} {n₀ : Nat} {w₀ : World} {S₀ S : SM} {m : BM} {h : AHeap} {w : World}

theorem cellsOf' {t : TypeId} {d : TI} (h : ti P t = some d) : P.cellsOf t = d.size := by
  obtain ⟨_, i, z, h1, h2, _⟩ := ti_spec h
  simp [Program.cellsOf, h1, h2]

theorem allEq_fields {f : Nat → AV → AV → Option Bool} {D : Nat} {xs ys : List AV} {us vs : Array Value} (hx : VRs S m xs us.toList) (hy : VRs S m ys vs.toList)
    (hf : ∀ t x y r a b, f t x y = some r → VR S m x a → VR S m y b → (Op.equalIn D t a b).run P w = .ok r w) : ∀ {fs : List Field} {l : List (Nat × AV × AV)} {r : Bool}, partsOf P xs ys fs = some l → allEq f l = some r →
    (Op.eqFields D us vs fs).run P w = .ok r w
  | [], l, r, hp, hr => by unfold partsOf at hp; cases hp; unfold allEq at hr; cases hr; simp [Op.eqFields]
  | fl :: fs, l, r, hp, hr => by
    unfold partsOf at hp
    split at hp
    · cases hp
    · rename_i hname
      split at hp
      · rename_i d rest hd hrest
        split at hp
        · rename_i x y px py
          cases hp
          obtain ⟨a, a1, a2⟩ := part_sound (P := P) (w := w) hd hx px
          obtain ⟨b, b1, b2⟩ := part_sound (P := P) (w := w) hd hy py
          unfold allEq at hr
          simp only [Op.eqFields, ne_eq, hname, not_false_eq_true, if_true, Sem.run_bind, a1, b1, Result.andThen_ok]
          split at hr
          · rename_i he
            rw [hf _ _ _ _ _ _ he a2 b2]
            simp only [Result.andThen_ok, Bool.not_true, Bool.false_eq_true, if_false]
            exact allEq_fields hx hy hf hrest hr
          · rename_i he
            cases hr
            rw [hf _ _ _ _ _ _ he a2 b2]
            simp
          · cases hr
        · cases hp
      · cases hp

theorem allEq_items {f : Nat → AV → AV → Option Bool} {D : Nat} {xs ys : List AV} {us vs : Array Value} (hx : VRs S m xs us.toList) (hy : VRs S m ys vs.toList) {e : TypeId} {d : TI} (hd : ti P e = some d)
    (hf : ∀ t x y r a b, f t x y = some r → VR S m x a → VR S m y b → (Op.equalIn D t a b).run P w = .ok r w) : ∀ {is : List Nat} {l : List (Nat × AV × AV)} {r : Bool}, itemsOf d e xs ys is = some l → allEq f l = some r →
    (Op.eqItems D e d.size us vs is).run P w = .ok r w
  | [], l, r, hp, hr => by unfold itemsOf at hp; cases hp; unfold allEq at hr; cases hr; simp [Op.eqItems]
  | i :: is, l, r, hp, hr => by
    unfold itemsOf at hp
    split at hp
    · rename_i x y rest px py hrest
      cases hp
      obtain ⟨a, a1, a2⟩ := part_sound (P := P) (w := w) hd hx px
      obtain ⟨b, b1, b2⟩ := part_sound (P := P) (w := w) hd hy py
      unfold allEq at hr
      simp only [Op.eqItems, Sem.run_bind, a1, b1, Result.andThen_ok]
      split at hr
      · rename_i he
        rw [hf _ _ _ _ _ _ he a2 b2]
        simp only [Result.andThen_ok, Bool.not_true, Bool.false_eq_true, if_false]
        exact allEq_items hx hy hd hf hrest hr
      · rename_i he
        cases hr
        rw [hf _ _ _ _ _ _ he a2 b2]
        simp
      · cases hr
    · cases hp

theorem itemsF_aux {d : TI} {e : TypeId} {xs ys : List AV} (ha : isAggD d.desc = false) (hs : d.size = 1) : ∀ (n j : Nat), xs.length = j + n → ys.length = j + n → itemsOf d e xs ys (List.range' j n) = some (zipE e (xs.drop j) (ys.drop j))
  | 0, j, h1, h2 => by
    rw [List.drop_eq_nil_of_le (by omega)]
    unfold itemsOf zipE
    rfl
  | n + 1, j, h1, h2 => by
    have hx : j < xs.length := by omega
    have hy : j < ys.length := by omega
    rw [List.range'_succ]
    unfold itemsOf
    rw [itemsF_aux ha hs n (j + 1) (by omega) (by omega)]
    rw [List.drop_eq_getElem_cons hx, List.drop_eq_getElem_cons hy]
    have px : partA d xs (j * d.size) = some xs[j] := by
      unfold partA; simp [ha, hs, hx]
    have py : partA d ys (j * d.size) = some ys[j] := by
      unfold partA; simp [ha, hs, hy]
    rw [px, py]
    conv => rhs; unfold zipE

theorem itemsF_eq {d : TI} {e : TypeId} {xs ys : List AV} {k : Nat} {l : List (Nat × AV × AV)} (h : itemsF d e xs ys k = some l) : itemsOf d e xs ys (List.range k) = some l := by
  unfold itemsF at h
  split at h
  · rename_i hc
    cases h
    have := itemsF_aux (e := e) hc.1 hc.2.1 k 0 (by simpa using hc.2.2.1) (by simpa using hc.2.2.2)
    rw [List.range_eq_range']
    simpa using this
  · exact h

theorem eq_sound : ∀ (n : Nat) {D : Nat}, n ≤ D → ∀ {t : TypeId} {x y : AV} {r : Bool} {a b : Value}, eqA P n t x y = some r → VR S m x a → VR S m y b → (Op.equalIn D t a b).run P w = .ok r w
  | 0, _, _, _, _, _, _, _, _, hr, _, _ => by unfold eqA at hr; cases hr
  | n + 1, D, hD, t, x, y, r, a, b, hr, hx, hy => by
    obtain ⟨D, rfl⟩ : ∃ D', D = D' + 1 := ⟨D - 1, by omega⟩
    have ih : ∀ t x y r a b, eqA P n t x y = some r → VR S m x a → VR S m y b → (Op.equalIn D t a b).run P w = .ok r w := fun t x y r a b h1 h2 h3 => eq_sound n (by omega) h1 h2 h3
    unfold eqA at hr
    split at hr
    · cases hr
    · rename_i d hd
      split at hr
      · cases hr; unfold VR at hx hy; subst hx hy; simp [Op.equalIn, run_underlying' hd]
      · split at hr
        · rename_i e; subst e; cases hr; unfold VR at hx hy; subst hx hy; simp [Op.equalIn, run_underlying' hd]
        · cases hr
      · cases hr; unfold VR at hx hy; subst hx hy
        rw [run_equalIn_string w D t _ _ hd]
        simp
      · cases hr; unfold VR at hx hy; subst hx hy; simp [Op.equalIn, run_underlying' hd]
      · cases hr; unfold VR at hx hy; subst hx; obtain ⟨B, K, _, rfl⟩ := hy; simp [Op.equalIn, run_underlying' hd]
      · cases hr; unfold VR at hx hy; subst hy; obtain ⟨B, K, _, rfl⟩ := hx; simp [Op.equalIn, run_underlying' hd]
      · split at hr
        · rename_i hc
          obtain ⟨rfl, rfl, rfl, hti⟩ := hc
          cases hr
          unfold VR at hx hy
          obtain ⟨B, K, g1, rfl⟩ := hx
          obtain ⟨B', K', g2, rfl⟩ := hy
          rw [g1] at g2; cases g2
          obtain ⟨d', hd'⟩ := Option.isSome_iff_exists.1 hti
          obtain ⟨_, i, z, hi, _⟩ := ti_spec hd'
          simp [Op.equalIn, run_underlying' hd, sizeOf, typeInfo, hi, run_sameAddr_same]
        · cases hr
      · cases hr; unfold VR at hx hy; subst hx hy; simp [Op.equalIn, run_underlying' hd]
      · cases hr; unfold VR at hx hy; subst hx; obtain ⟨u, rfl, _⟩ := hy; simp [Op.equalIn, run_underlying' hd]
      · cases hr; unfold VR at hx hy; subst hy; obtain ⟨u, rfl, _⟩ := hx; simp [Op.equalIn, run_underlying' hd]
      · rename_i fs xs ys
        split at hr
        · cases hr
        · rename_i hst
          split at hr
          · rename_i l hl
            unfold VR at hx hy
            obtain ⟨us, rfl, hx⟩ := hx
            obtain ⟨vs, rfl, hy⟩ := hy
            have hfo : P.fieldsOf t = fs := by simp [Program.fieldsOf, hd]
            rw [run_equalIn_struct w D t us vs (by rw [hfo]; exact hd) (by simpa using hst), hfo]
            exact allEq_fields hx hy ih hl hr
          · cases hr
      · rename_i k e xs ys
        split at hr
        · rename_i d' hd'
          split at hr
          · rename_i l hl
            unfold VR at hx hy
            obtain ⟨us, rfl, hx⟩ := hx
            obtain ⟨vs, rfl, hy⟩ := hy
            obtain ⟨_, i, z, hi, _⟩ := ti_spec hd'
            rw [run_equalIn_array w D us vs hd hi, cellsOf' hd']
            exact allEq_items hx hy hd' ih (itemsF_eq hl) hr
          · cases hr
        · cases hr
      · cases hr

theorem VR.agg_inv {p : AV} {a : Value} {xs : Array Value} (hx : VR S m p a) (e : a = .agg xs) : (∃ cs, p = .agg cs) ∨ p = .undef := by
  cases p <;> first | exact .inr rfl | exact .inl ⟨_, rfl⟩ | skip
  all_goals
    unfold VR at hx
    first
      | (subst hx; cases e; done)
      | (obtain ⟨_, _, _, _, rfl, _⟩ := hx; cases e; done)
      | (obtain ⟨_, _, _, rfl, _⟩ := hx; cases e; done)
      | (obtain ⟨_, _, _, rfl⟩ := hx; cases e; done)
      | (obtain ⟨_, _, rfl, _⟩ := hx; cases e; done)
      | (obtain ⟨_, rfl, _⟩ := hx; cases e; done)
      | (obtain ⟨_, _, ⟨_, rfl, _⟩, _⟩ := hx; cases e; done)
theorem VR.nili_inv {p : AV} {a : Value} (hx : VR S m p a) (e : a = .nilIface) : p = .nili ∨ p = .undef := by
  cases p <;> first | exact .inr rfl | exact .inl rfl | skip
  all_goals
    unfold VR at hx
    first
      | (subst hx; cases e; done)
      | (obtain ⟨_, _, _, _, rfl, _⟩ := hx; cases e; done)
      | (obtain ⟨_, _, _, rfl, _⟩ := hx; cases e; done)
      | (obtain ⟨_, _, _, rfl⟩ := hx; cases e; done)
      | (obtain ⟨_, _, rfl, _⟩ := hx; cases e; done)
      | (obtain ⟨_, rfl, _⟩ := hx; cases e; done)
      | (obtain ⟨_, _, ⟨_, rfl, _⟩, _⟩ := hx; cases e; done)

theorem guard_sound {op : BinOp} {t : TypeId} {x y : Operand} {p q : AV} {a b : Value} (hg : guardA P t x y p q = true) (hx : VR S m p a) (hy : VR S m q b) : (eqGuard op t x y a b).run P w = .ok () w := by
  have hneq : ∀ (a b : Value), (∀ xs ys, a = .agg xs → b = .agg ys → False) → (a = .nilIface → b = .nilIface → False) → (eqGuard op t x y a b).run P w = .ok () w := fun a b h1 h2 => by
    cases op <;> simp only [eqGuard] <;> first | rfl | skip
    all_goals
      cases a <;> cases b <;> first | (exact (h1 _ _ rfl rfl).elim) | (exact (h2 rfl rfl).elim) | simp
  have hpu : p ≠ .undef := fun e => by subst e; simp [guardA] at hg
  have hqu : q ≠ .undef := fun e => by subst e; cases p <;> simp [guardA] at hg
  by_cases h1 : ∃ xs ys, a = .agg xs ∧ b = .agg ys
  · obtain ⟨xs, ys, e1, e2⟩ := h1
    obtain ⟨cs, rfl⟩ := (hx.agg_inv e1).resolve_right hpu
    obtain ⟨ds, rfl⟩ := (hy.agg_inv e2).resolve_right hqu
    subst e1 e2
    exact run_eqGuard_agg w op t x y xs ys (by simpa [guardA] using hg)
  · by_cases h2 : a = .nilIface ∧ b = .nilIface
    · obtain ⟨e1, e2⟩ := h2
      have := (hx.nili_inv e1).resolve_right hpu; subst this
      have := (hy.nili_inv e2).resolve_right hqu; subst this
      subst e1 e2
      simp only [guardA, Bool.or_eq_true] at hg
      cases x <;> cases y <;> simp [isConstO] at hg <;> cases op <;> simp [eqGuard]
    · exact hneq a b (fun xs ys e1 e2 => h1 ⟨xs, ys, e1, e2⟩) (fun e1 e2 => h2 ⟨e1, e2⟩)

theorem mapM_sound {ρ : Operand → Option AV} {σ : Operand → Value} (hρ : ∀ x v, ρ x = some v → VR S m v (σ x)) : ∀ {l : List Operand} {vs : List AV}, mapM' ρ l = some vs → VRs S m vs (l.map σ)
  | [], vs, hm => by unfold mapM' at hm; cases hm; unfold VRs; rfl
  | x :: xs, vs, hm => by
    unfold mapM' at hm
    split at hm
    · rename_i v vs' h1 h2
      cases hm
      simp only [List.map_cons]
      unfold VRs
      exact ⟨_, _, rfl, hρ _ _ h1, mapM_sound hρ h2⟩
    · cases hm

theorem partsM_sound {ρ : Operand → Option AV} {σ : Operand → Value} (hρ : ∀ x v, ρ x = some v → VR S m v (σ x)) : ∀ {l : List (Nat × Operand)} {vs : List (Nat × AV)}, partsM ρ l = some vs →
    vs.map (·.1) = (l.map fun p => (p.1, σ p.2)).map (·.1) ∧ VRs S m (vs.map (·.2)) ((l.map fun p => (p.1, σ p.2)).map (·.2))
  | [], vs, hm => by unfold partsM at hm; cases hm; exact ⟨rfl, by simp; unfold VRs; rfl⟩
  | (i, x) :: xs, vs, hm => by
    unfold partsM at hm
    split at hm
    · rename_i v vs' h1 h2
      cases hm
      obtain ⟨e1, e2⟩ := partsM_sound hρ h2
      refine ⟨by simp only [List.map_cons, e1], ?_⟩
      simp only [List.map_cons]
      unfold VRs
      exact ⟨_, _, rfl, hρ _ _ h1, e2⟩
    · cases hm

theorem optM_sound {ρ : Operand → Option AV} {σ : Operand → Value} (hρ : ∀ x v, ρ x = some v → VR S m v (σ x)) {o : Option Operand} {l : Option Int} (hm : optM ρ o = some l) : VO l (o.map σ) := by
  unfold optM at hm
  split at hm
  · cases hm; unfold VO; rfl
  · split at hm
    · rename_i k n hx
      cases hm
      have := hρ _ _ hx
      unfold VR at this
      unfold VO
      exact ⟨k, by simp [this]⟩
    · cases hm
end
end Go.Abs
