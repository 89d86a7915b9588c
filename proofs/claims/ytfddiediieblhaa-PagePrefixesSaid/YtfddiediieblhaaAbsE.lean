/- Each operation of the small machine stands for the program's. -/
import Derived.Test.YtfddiediieblhaaAbsD
import Derived.Laws.Concat
import Derived.Laws.Strings
import Derived.Lib.Strings
set_option linter.unusedVariables false
set_option linter.unusedSimpArgs false
namespace Go.Abs

def Yields (nx : Next) (v : Value) : Prop := nx = .value v ∨ (nx = .skip ∧ v = Go.undef)

def Fits (P : Program) (n₀ : Nat) (w₀ : World) (S₀ S : SM) (m : BM) (h : AHeap) (w : World) (res : Result Next) : R → Prop
  | .val x => ∃ nx v w' S' m', res = .ok nx w' ∧ Yields nx v ∧ S.le S' ∧ m.le m' ∧ VR S' m' x v ∧ Sim n₀ w₀ S₀ S' m' h w'
  | .valh x h' => ∃ nx v w' S' m', res = .ok nx w' ∧ Yields nx v ∧ S.le S' ∧ m.le m' ∧ VR S' m' x v ∧ Sim n₀ w₀ S₀ S' m' h' w'
  | .call f args => ∃ vs, ((f < P.funcs.size ∧ res = .ok (.enter f vs) w) ∨ ∃ b B K, f = P.funcs.size + b ∧ m b 0 = some (B, K) ∧ res = (Instr.yield B vs).run P w) ∧ VRs S m args vs.toList
  | .pan x => ∃ v w', res = .halt (.panic v) w' ∧ VR S m x v ∧ Sim n₀ w₀ S₀ S m h w'

section
variable {P : Program} {n₀ : Nat} {w₀ : World} {S₀ S : SM} {m : BM} {h : AHeap} {w : World}

/-- A value that only looks. -/
theorem Fits.same (s : Sim n₀ w₀ S₀ S m h w) {res : Result Next} {x : AV} {v : Value} (hr : res = .ok (.value v) w) (hv : VR S m x v) : Fits P n₀ w₀ S₀ S m h w res (.val x) :=
  ⟨_, v, w, S, m, hr, .inl rfl, SM.le_refl _, BM.le_refl _, hv, s⟩

theorem bytesLess_eq (x y : ByteArray) : x.toList = x.data.toList := by rw [ByteArray.toList_eq]

theorem str_size (l : List UInt8) : (⟨l.toArray⟩ : ByteArray).size = l.length := by simp [ByteArray.size]

theorem bin_sound (s : Sim n₀ w₀ S₀ S m h w) {op : BinOp} {t : TypeId} {x y r : AV} {a b : Value} (hr : binA op x y = some r) (hx : VR S m x a) (hy : VR S m y b)
    : ∃ v, (binOp op t a b).run P w = .ok v w ∧ VR S m r v := by
  unfold binA at hr
  split at hr
  · rename_i k n k' n'
    unfold VR at hx hy
    subst hx hy
    cases op <;> simp only at hr
    case shl => split at hr; · cases hr
                · rename_i hb; cases hr; exact ⟨_, by simp only [binOp, Op.shift, hb, if_false]; rfl, by unfold VR; rfl⟩
    case shr => split at hr; · cases hr
                · rename_i hb; cases hr; exact ⟨_, by simp only [binOp, Op.shift, hb, if_false]; rfl, by unfold VR; rfl⟩
    all_goals
      split at hr
      · cases hr
      · rename_i hk
        simp only [ne_eq, Decidable.not_not] at hk
        subst hk
        first
          | (cases hr; exact ⟨_, by simp only [binOp, ne_eq, not_true_eq_false, if_false, Op.intArith, Op.intBits, Op.intCmp]; rfl, by unfold VR; rfl⟩)
          | (split at hr
             · cases hr
             · rename_i hb; cases hr; exact ⟨_, by simp only [binOp, ne_eq, not_true_eq_false, if_false, Op.intDiv, hb]; rfl, by unfold VR; rfl⟩)
          | cases hr
  · rename_i l l'
    unfold VR at hx hy
    subst hx hy
    have e1 : (⟨l.toArray⟩ : ByteArray).toList = l := by rw [ByteArray.toList_eq]
    have e2 : (⟨l'.toArray⟩ : ByteArray).toList = l' := by rw [ByteArray.toList_eq]
    cases op <;> simp only at hr
    case add =>
      split at hr
      · rename_i hb
        cases hr
        refine ⟨_, ?_, by unfold VR; rfl⟩
        simp only [binOp, Op.stringOp, str_size]
        rw [if_neg (by unfold IntKind.max; simp [IntKind.signed, IntKind.bits]; omega), ByteArray.mk_append_mk]
        rfl
      · cases hr
    all_goals first
      | (cases hr; exact ⟨_, by simp only [binOp, Op.stringOp, e1, e2]; rfl, by unfold VR; rfl⟩)
      | cases hr
  · cases hr

theorem un_sound (s : Sim n₀ w₀ S₀ S m h w) {op : UnOp} {x r : AV} {a : Value} (hr : unA op x = some r) (hx : VR S m x a) : ∃ v, (Op.unary op a).run P w = .ok v w ∧ VR S m r v := by
  unfold unA at hr
  split at hr
  · unfold VR at hx; subst hx
    split at hr
    · cases hr; exact ⟨_, by simp only [Op.unary]; rfl, by unfold VR; rfl⟩
    · cases hr
  · unfold VR at hx; subst hx
    split at hr
    · cases hr; exact ⟨_, by simp only [Op.unary, Op.intArith]; rfl, by unfold VR; rfl⟩
    · cases hr; exact ⟨_, by simp only [Op.unary, Op.intBits]; rfl, by unfold VR; rfl⟩
    · cases hr
  · cases hr

theorem load_sound (s : Sim n₀ w₀ S₀ S m h w) {t : TypeId} {p r : AV} {a : Value} (hr : loadA P h t p = some r) (hp : VR S m p a) : ∃ v, (Instr.loadAt t a).run P w = .ok v w ∧ VR S m r v := by
  unfold loadA at hr
  split at hr
  · rename_i b ver o
    split at hr
    · rename_i ver' cs frz d hb ht
      split at hr
      · rename_i e
        subst e
        obtain ⟨B, K, el₀, vs, fz, h1, h2, h3, h4, h5, h6, h7⟩ := blk_at s hb
        unfold VR at hp
        obtain ⟨B', K', g1, rfl⟩ := hp
        rw [h1] at g1; cases g1
        obtain ⟨v, e1, e2⟩ := loadVar_sound (P := P) ht h6 hr
        refine ⟨v, ?_, e2⟩
        simpa [Instr.loadAt, Instr.sureAddr] using e1
      · cases hr
    · cases hr
  · rename_i cs o
    split at hr
    · rename_i d ht
      unfold VR at hp
      obtain ⟨B, q, rfl, hc⟩ := hp
      obtain ⟨v, e1, e2⟩ := loadVar_sound (P := P) ht (CR.at s hc) hr
      exact ⟨v, by simpa [Instr.loadAt, Instr.sureAddr] using e1, e2⟩
    · cases hr
  · cases hr

theorem store_sound (s : Sim n₀ w₀ S₀ S m h w) {t : TypeId} {p x : AV} {a u : Value} {h' : AHeap} (hr : storeA P h t p x = some h') (hp : VR S m p a) (hx : VR S m x u) :
    ∃ w' m', (Instr.storeAt t a u).run P w = .ok () w' ∧ m.le m' ∧ Sim n₀ w₀ S₀ S m' h' w' := by
  unfold storeA at hr
  split at hr
  · rename_i b ver o xs d hc ht
    split at hr
    · rename_i ver' cs frz hb
      split at hr
      · rename_i hcond
        obtain ⟨rfl, h1, h2, h3⟩ := hcond
        cases hr
        obtain ⟨hv, hs⟩ := cells_sound hc hx
        obtain ⟨B, K, g1, w', m', g2, g3, g4⟩ := store_blk (P := P) s hb hv hs h2 h3
        unfold VR at hp
        obtain ⟨B', K', g5, rfl⟩ := hp
        rw [g1] at g5; cases g5
        refine ⟨w', m', ?_, g3, g4⟩
        have hl := hv.length
        have hsz : u.cells.size = d.size := by simpa [h1] using hl.symm
        simp [Instr.storeAt, Instr.sureAddr, storeVar, run_sizeOf' ht, hsz, g2]
      · cases hr
    · cases hr
  · cases hr

theorem putAt_length {cs xs : List AV} {o : Nat} (h : o + xs.length ≤ cs.length) : (putAt cs o xs).length = cs.length := by unfold putAt; simp; omega

theorem fold_set : ∀ (us : List Value) (j off : Nat) (cs : Array Value), off + j + us.length ≤ cs.size →
    (us.zipIdx j).foldl (fun (a : Array Value) (p : Value × Nat) => a.setIfInBounds (off + p.2) p.1) cs = (cs.toList.take (off + j) ++ us ++ cs.toList.drop (off + j + us.length)).toArray
  | [], j, off, cs, _ => by simp
  | u :: us, j, off, cs, hl => by
    simp only [List.length_cons] at hl
    simp only [List.zipIdx_cons, List.foldl_cons]
    rw [fold_set us (j + 1) off _ (by simp; omega)]
    congr 1
    have e := list_seg_step cs.toList (off + j) u us (by simp; omega)
    simpa [Array.toList_setIfInBounds, Nat.add_assoc] using e

theorem fill_sound {place : Nat → Option (Nat × Nat)} : ∀ {l : List (Nat × AV)} {vl : List (Nat × Value)} {cs cs' : List AV} {vs : Array Value}, fillA place cs l = some cs' → VRs S m cs vs.toList →
    (l.map (·.1) = vl.map (·.1) ∧ VRs S m (l.map (·.2)) (vl.map (·.2))) → ∃ vs', Instr.fill place vs vl = some vs' ∧ VRs S m cs' vs'.toList ∧ vs'.size = vs.size
  | [], vl, cs, cs', vs, hf, hv, hl => by
    unfold fillA at hf; cases hf
    cases vl with
    | nil => exact ⟨vs, rfl, hv, rfl⟩
    | cons _ _ => simp at hl
  | (i, x) :: l, vl, cs, cs', vs, hf, hv, hl => by
    cases vl with
    | nil => simp at hl
    | cons p vl =>
      obtain ⟨j, u⟩ := p
      obtain ⟨hl1, hl2⟩ := hl
      simp only [List.map_cons, List.cons.injEq] at hl1
      obtain ⟨rfl, hl1⟩ := hl1
      simp only [List.map_cons] at hl2
      unfold VRs at hl2
      obtain ⟨u', us, e, hx, hl2⟩ := hl2
      cases e
      unfold fillA at hf
      split at hf
      · rename_i off size xs hp hc
        split at hf
        · rename_i hcond
          obtain ⟨c1, c2⟩ := hcond
          obtain ⟨hcv, hcs⟩ := cells_sound hc hx
          have hlu := hcv.length
          have hlc := hv.length
          simp at hlu hlc
          have hfold := fold_set u.cells.toList 0 off vs (by simp; omega)
          have hnew := hv.putAt hcv off
          obtain ⟨vs', g1, g2, g3⟩ := fill_sound (vs := (vs.toList.take (off + 0) ++ u.cells.toList ++ vs.toList.drop (off + 0 + u.cells.toList.length)).toArray) hf (by simpa using hnew) ⟨hl1, hl2⟩
          refine ⟨vs', ?_, g2, by rw [g3]; simp; omega⟩
          unfold Instr.fill
          simp only [hp]
          rw [if_neg (by simp; omega)]
          rw [← g1, ← hfold]
          congr 1
          rw [← Array.foldl_toList]
          simp [Array.toList_zipIdx]
        · cases hf
      · cases hf

theorem places_sound : ∀ {fs : List Field} {pl : List (Nat × Nat)}, fieldPlaces P fs = some pl → ∀ w, (fs.mapM (fun (f : Field) => do pure (f.offset, ← sizeOf f.type))).run P w = .ok pl w
  | [], _, hp, w => by unfold fieldPlaces at hp; cases hp; rfl
  | f :: fs, _, hp, w => by
    unfold fieldPlaces at hp
    split at hp
    · rename_i d r h1 h2
      cases hp
      have ih := places_sound h2 w
      simp only [List.mapM_cons, Sem.run_bind, run_sizeOf' h1, Result.andThen_ok, Sem.run_pure, ih]
    · cases hp

theorem rep_sound {zs : List AV} {us : Array Value} (hz : VRs S m zs us.toList) (hsz : zs.length ≠ 0) : ∀ n, VRs S m (rep n zs) (((Array.range (n * us.size)).map fun i => us[i % us.size]!).toList) := by
  intro n
  have hl := hz.length
  simp at hl
  refine VRs.of_get _ _ ?_ ?_
  · have : ∀ n, (rep n zs).length = n * zs.length := fun n => by
      induction n with
      | zero => simp [rep]
      | succ n ih => simp [rep, ih, Nat.add_mul]; omega
    simp [this, hl]
  · intro i x v hx hv
    have key : ∀ n i, (rep n zs)[i]? = if i < n * zs.length then zs[i % zs.length]? else none := fun n => by
      induction n with
      | zero => intro i; simp [rep]
      | succ n ih =>
        intro i
        simp only [rep]
        by_cases hi : i < zs.length
        · rw [List.getElem?_append_left hi, if_pos (by rw [Nat.add_mul]; omega), Nat.mod_eq_of_lt hi]
        · rw [List.getElem?_append_right (by omega), ih]
          have e : (i - zs.length) % zs.length = i % zs.length := by
            conv => rhs; rw [show i = (i - zs.length) + zs.length by omega, Nat.add_mod_right]
          rw [e]
          by_cases hc : i < (n + 1) * zs.length
          · rw [if_pos hc, if_pos (by rw [Nat.add_mul] at hc; omega)]
          · rw [if_neg hc, if_neg (by rw [Nat.add_mul] at hc; omega)]
    rw [key] at hx
    split at hx
    · rename_i hi
      obtain ⟨u, g1, g2⟩ := hz.get _ _ x hx
      simp at hv
      obtain ⟨j, hj, hv⟩ := hv
      have hji : j = i := by
        rw [List.getElem?_eq_some_iff] at hj
        obtain ⟨_, e⟩ := hj
        simpa using e.symm
      subst hji
      have : us[j % us.size]? = some u := by rw [← hl]; simpa using g1
      simp only [getElem!_def, this] at hv
      subst hv; exact g2
    · cases hx
end
end Go.Abs
