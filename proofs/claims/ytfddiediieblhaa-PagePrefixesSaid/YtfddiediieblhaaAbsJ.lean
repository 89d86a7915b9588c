/- All operations of the small machine stand for the program's. -/
import Derived.Test.YtfddiediieblhaaAbsIx
set_option linter.unusedVariables false
set_option linter.unusedSimpArgs false
namespace Go.Abs

section
variable {P : Program} {n₀ : Nat} {w₀ : World} {S₀ S : SM} {m : BM} {h : AHeap} {w : World}

theorem vr_int (k : IntKind) (n : Int) : VR S m (.int k n) (.int k n) := by unfold VR; rfl
theorem vr_bool (b : Bool) : VR S m (.bool b) (.bool b) := by unfold VR; rfl
theorem vr_agg {cs : List AV} {vs : Array Value} (hv : VRs S m cs vs.toList) : VR S m (.agg cs) (.agg vs) := by unfold VR; exact ⟨_, rfl, hv⟩

theorem Fits.of_run (s : Sim n₀ w₀ S₀ S m h w) {q : Sem Value} {x : AV} (hq : ∃ v, q.run P w = .ok v w ∧ VR S m x v) : Fits P n₀ w₀ S₀ S m h w ((do pure (.value (← q)) : Sem Next).run P w) (.val x) := by
  obtain ⟨v, h1, h2⟩ := hq
  exact .same s (by simp [h1]) h2

theorem Fits.ofRes {q : Sem Value} {o : Option (AV × Option AHeap)} {r : R} (hr : ofRes o = some r) (hq : ∀ x oh, o = some (x, oh) → ∃ v w' m', q.run P w = .ok v w' ∧ m.le m' ∧ VR S m' x v ∧ Sim n₀ w₀ S₀ S m' (oh.getD h) w') :
    Fits P n₀ w₀ S₀ S m h w ((do pure (.value (← q)) : Sem Next).run P w) r := by
  unfold Abs.ofRes at hr
  split at hr
  · cases hr
    obtain ⟨v, w', m', h1, h2, h3, h4⟩ := hq _ _ rfl
    exact ⟨_, v, w', S, m', by simp [h1], .inl rfl, SM.le_refl _, h2, h3, h4⟩
  · cases hr
    obtain ⟨v, w', m', h1, h2, h3, h4⟩ := hq _ _ rfl
    exact ⟨_, v, w', S, m', by simp [h1], .inl rfl, SM.le_refl _, h2, h3, h4⟩
  · cases hr

theorem builtin_sound (s : Sim n₀ w₀ S₀ S m h w) {b : Builtin} {ts : Array TypeId} {ty : TypeId} {cs : Array Bool} {args : List AV} {vs : Array Value} {r : R} (hr : builtinA P h b ts.toList args = some r) (hv : VRs S m args vs.toList) :
    Fits P n₀ w₀ S₀ S m h w ((builtin b ts ty cs vs).run P w) r := by
  unfold builtinA at hr
  split at hr
  · rename_i t x hts
    obtain ⟨vs⟩ := vs
    unfold VRs at hv
    obtain ⟨v, vs', e, hx, hv⟩ := hv
    unfold VRs at hv
    simp only at e hv; subst hv; subst e
    have ht0 : ts = #[t] := by cases ts; simp at hts; simp [hts]
    subst ht0
    split at hr
    · rename_i ht
      split at hr
      · cases hr
        unfold VR at hx; subst hx
        refine Fits.of_run s (q := Builtin.len_ #[t] ty _) ⟨_, ?_, vr_int _ _⟩
        simp [Builtin.len_, run_underlying' ht, goInt, str_size]
      · cases hr
    · rename_i n e ht
      cases hr
      refine Fits.of_run s (q := Builtin.len_ #[t] ty _) ⟨_, ?_, vr_int _ _⟩
      simp [Builtin.len_, run_underlying' ht, goInt]
    · rename_i e ht
      split at hr
      · cases hr
        unfold VR at hx; obtain ⟨a, cap, rfl, _⟩ := hx
        refine Fits.of_run s (q := Builtin.len_ #[t] ty _) ⟨_, ?_, vr_int _ _⟩
        simp [Builtin.len_, run_underlying' ht, goInt]
      · cases hr
        unfold VR at hx; obtain ⟨B, K, cap, _, rfl, _⟩ := hx
        refine Fits.of_run s (q := Builtin.len_ #[t] ty _) ⟨_, ?_, vr_int _ _⟩
        simp [Builtin.len_, run_underlying' ht, goInt]
      · cases hr
    · cases hr
  · rename_i t u x y hts
    obtain ⟨vs⟩ := vs
    unfold VRs at hv
    obtain ⟨v, vs', e, hx, hv⟩ := hv
    unfold VRs at hv
    obtain ⟨v', vs'', e', hy, hv⟩ := hv
    unfold VRs at hv
    simp only at e e' hv; subst hv; subst e'; subst e
    have ht0 : ts = #[t, u] := by cases ts; simp at hts; simp [hts]
    subst ht0
    split at hr
    · cases hr
    · rename_i e du hnot ht hu
      refine Fits.ofRes hr (q := Builtin.append_ #[t, u] ty _) fun x' oh ho => append_sound s ht (by simpa using hu) (fun k hk => hnot k hk) ho hx hy
    · cases hr
  · rename_i t ts' x y hts
    obtain ⟨vs⟩ := vs
    unfold VRs at hv
    obtain ⟨v, vs', e, hx, hv⟩ := hv
    unfold VRs at hv
    obtain ⟨v', vs'', e', hy, hv⟩ := hv
    unfold VRs at hv
    simp only at e e' hv; subst hv; subst e'; subst e
    split at hr
    · rename_i e ht
      have ht0 : ts[0]? = some t := by cases ts; simp at hts; simp [hts]
      refine Fits.ofRes hr (q := Builtin.copy_ ts ty _) fun x' oh ho => copy_sound s ht0 ht ho hx hy
    · cases hr
  · cases hr

theorem binEq {n : Nat} {t : TypeId} {a b : AV} {r : Bool} {u v : Value} (hni : ∀ k n k' n', a = .int k n → b = .int k' n' → False) (hns : ∀ s s', a = .str s → b = .str s' → False)
    (he : eqA P (n + 1) t a b = some r) (hn : n + 1 ≤ 10000) (va : VR S m a u) (vb : VR S m b v) : (binOp .eql t u v).run P w = .ok (.bool r) w ∧ (binOp .neq t u v).run P w = .ok (.bool (!r)) w := by
  have hq := eq_sound (P := P) (w := w) (n + 1) hn he va vb
  unfold eqA at he
  split at he
  · cases he
  · split at he
    · unfold VR at va vb; subst va vb; simp [binOp, Op.equal, Op.maxDepth, hq]
    · exact (hni _ _ _ _ rfl rfl).elim
    · exact (hns _ _ rfl rfl).elim
    · unfold VR at va vb; subst va vb; simp [binOp, Op.equal, Op.maxDepth, hq]
    · unfold VR at va vb; subst va; obtain ⟨_, _, _, rfl⟩ := vb; simp [binOp, Op.equal, Op.maxDepth, hq]
    · unfold VR at va vb; subst vb; obtain ⟨_, _, _, rfl⟩ := va; simp [binOp, Op.equal, Op.maxDepth, hq]
    · unfold VR at va vb; obtain ⟨_, _, _, rfl⟩ := va; obtain ⟨_, _, _, rfl⟩ := vb; simp [binOp, Op.equal, Op.maxDepth, hq]
    · unfold VR at va vb; subst va vb; simp [binOp, Op.equal, Op.maxDepth, hq]
    · unfold VR at va vb; subst va; obtain ⟨_, rfl, _⟩ := vb; simp [binOp, Op.equal, Op.maxDepth, hq]
    · unfold VR at va vb; subst vb; obtain ⟨_, rfl, _⟩ := va; simp [binOp, Op.equal, Op.maxDepth, hq]
    · unfold VR at va vb; obtain ⟨_, rfl, _⟩ := va; obtain ⟨_, rfl, _⟩ := vb; simp [binOp, Op.equal, Op.maxDepth, hq]
    · unfold VR at va vb; obtain ⟨_, rfl, _⟩ := va; obtain ⟨_, rfl, _⟩ := vb; simp [binOp, Op.equal, Op.maxDepth, hq]
    · cases he

theorem fnOk_lt {g : FuncId} (hok : fnOk P g = true) : g < P.funcs.size := by
  unfold fnOk at hok
  split at hok
  · rename_i fn hfn; exact (Array.getElem?_eq_some_iff.1 hfn).1
  · cases hok

theorem fnOk_enter {g : FuncId} (hok : fnOk P g = true) (vs : Array Value) : (callFunc g vs).run P w = .ok (.enter g vs) w := by
  unfold fnOk at hok
  split at hok
  · rename_i fn hfn
    simp only [Bool.and_eq_true, Bool.not_eq_true', beq_eq_false_iff_ne, ne_eq] at hok
    obtain ⟨k1, k2⟩ := hok
    have k3 : fn.body.isNone = false := by cases hbd : fn.body <;> simp [hbd] at k2 ⊢
    simp [callFunc, hfn, k1]
    intro hbn; simp [hbn] at k2
  · cases hok

theorem exOp_sound (s : Sim n₀ w₀ S₀ S m h w) {ρ : Operand → Option AV} {σ : Operand → Value} (hρ : ∀ x v, ρ x = some v → VR S m v (σ x)) {o : Oper} {r : R} (hr : exOp P ρ h o = some r) :
    Fits P n₀ w₀ S₀ S m h w ((execOp σ o).run P w) r := by
  have opt1 : ∀ {x : Operand} {f : AV → R}, (ρ x).map f = some r → ∃ v, ρ x = some v ∧ r = f v := fun {x f} e => by
    cases hx : ρ x with
    | none => simp [hx] at e
    | some v => simp [hx] at e; exact ⟨v, rfl, e.symm⟩
  have optv : ∀ {q : Option AV} {f : AV → R}, q.map f = some r → ∃ v, q = some v ∧ r = f v := fun {q f} e => by
    cases hx : q with
    | none => simp [hx] at e
    | some v => simp [hx] at e; exact ⟨v, rfl, e.symm⟩
  cases hop : o.op <;> simp only [exOp, hop] at hr
  case move x => obtain ⟨v, h1, rfl⟩ := opt1 hr; exact .same s (by simp [execOp, hop]) (hρ _ _ h1)
  case assign x => obtain ⟨v, h1, rfl⟩ := opt1 hr; exact .same s (by simp [execOp, hop]) (hρ _ _ h1)
  case pick c a b =>
    split at hr
    · rename_i t x y h1 h2 h3
      cases hr
      have hc := hρ _ _ h1
      unfold VR at hc
      refine .same s (v := if t then σ a else σ b) (by simp [execOp, hop, hc, asBool]) ?_
      cases t
      · exact hρ _ _ h3
      · exact hρ _ _ h2
    · cases hr
  case alloc e =>
    split at hr
    · rename_i d hd
      cases hr
      obtain ⟨z, z1, z2⟩ := run_zero' hd w
      have hz := z2 S m
      obtain ⟨k1, k2⟩ := s.alloc z.cells e (0, 0) d.zero (el' := some e) (fun _ he => by cases he; exact ⟨rfl, .inl rfl⟩) (by
        rw [List.take_of_length_le (by rw [hz.length]; exact Nat.le_refl _)]; exact hz) (by simp)
      refine ⟨_, .pointer (some ⟨w.heap.size, 0, none⟩), _, S, _, ?_, .inl rfl, SM.le_refl _, k1, ?_, k2⟩
      · simp [execOp, hop, Instr.alloc, z1, newVar, newRow]
      · unfold VR; exact ⟨_, _, BM.put_eq _ _ _ _, rfl⟩
    · cases hr
  case box e x =>
    split at hr
    · rename_i v hv
      split at hr
      · rename_i cs hc
        cases hr
        obtain ⟨g1, g2⟩ := cells_sound hc (hρ _ _ hv)
        obtain ⟨k1, k2⟩ := s.alloc (σ x).cells e (0, 0) cs (el' := some e) (fun _ he => by cases he; exact ⟨rfl, .inl rfl⟩) (by
          rw [List.take_of_length_le (by rw [g1.length]; exact Nat.le_refl _)]; exact g1) (by simp)
        refine ⟨_, .pointer (some ⟨w.heap.size, 0, none⟩), _, S, _, ?_, .inl rfl, SM.le_refl _, k1, ?_, k2⟩
        · simp [execOp, hop, Instr.box, newVar, newRow]
        · unfold VR; exact ⟨_, _, BM.put_eq _ _ _ _, rfl⟩
      · cases hr
    · cases hr
  case build t ps =>
    split at hr
    · rename_i d l hd hl
      obtain ⟨p1, p2⟩ := partsM_sound hρ hl
      obtain ⟨z, z1, z2⟩ := run_zero' hd w
      have hu := (ti_spec hd).1
      split at hr
      · rename_i fs hfs
        rw [hfs] at hu
        split at hr
        · rename_i pl hpl
          cases hf : fillA (pl[·]?) d.zero l with
          | none => simp [hf] at hr
          | some cs =>
            simp [hf] at hr; subst hr
            obtain ⟨vs', f1, f2, f3⟩ := fill_sound (S := S) (m := m) hf (z2 S m) ⟨p1, p2⟩
            have hp := places_sound (P := P) hpl w
            have hp' : (fs.mapM (fun (f : Field) => do pure (f.offset, ← sizeOf f.type))).run P w = .ok pl.toArray w := by
              rw [Array.mapM_eq_mapM_toList]
              simp only [Sem.run_map, hp, Result.andThen_ok]
            refine Fits.same s (v := .agg vs') ?_ (vr_agg f2)
            simp only [execOp, hop, Instr.build, Sem.run_bind, z1, Result.andThen_ok, run_underlying' hu, hp']
            have hpl' : ((pl.toArray)[·]? : Nat → Option (Nat × Nat)) = (pl[·]?) := by funext i; simp
            simp only [hpl']
            have hps : (ps.map fun (p : Nat × Operand) => (p.1, σ p.2)).toList = ps.toList.map fun p => (p.1, σ p.2) := by simp
            have f1' : Instr.fill (pl[·]?) z.cells (ps.map fun (x : Nat × Operand) => (x.1, σ x.2)).toList = some vs' := by rw [hps]; exact f1
            rw [show (ps.map fun (x : Nat × Operand) => match x with | (i, x) => (i, σ x)) = ps.map fun (x : Nat × Operand) => (x.1, σ x.2) from rfl]
            simp only [f1']
            simp
        · cases hr
      · rename_i n e he
        rw [he] at hu
        split at hr
        · rename_i de hde
          cases hf : fillA (fun i => some (i * de.size, de.size)) d.zero l with
          | none => simp [hf] at hr
          | some cs =>
            simp [hf] at hr; subst hr
            obtain ⟨vs', f1, f2, f3⟩ := fill_sound (S := S) (m := m) hf (z2 S m) ⟨p1, p2⟩
            refine Fits.same s (v := .agg vs') ?_ (vr_agg f2)
            have hps : (ps.map fun (p : Nat × Operand) => (p.1, σ p.2)).toList = ps.toList.map fun p => (p.1, σ p.2) := by simp
            have f1' : Instr.fill (fun i => some (i * de.size, de.size)) z.cells (ps.map fun (x : Nat × Operand) => (x.1, σ x.2)).toList = some vs' := by rw [hps]; exact f1
            simp only [execOp, hop, Instr.build, Sem.run_bind, z1, Result.andThen_ok, run_underlying' hu, run_sizeOf' hde]
            rw [show (ps.map fun (x : Nat × Operand) => match x with | (i, x) => (i, σ x)) = ps.map fun (x : Nat × Operand) => (x.1, σ x.2) from rfl]
            simp only [f1']
            simp
        · cases hr
      · cases hr
    · cases hr
  case buildSlice t n ps =>
    split at hr
    · rename_i e l ht hl
      obtain ⟨p1, p2⟩ := partsM_sound hρ hl
      split at hr
      · rename_i d hd
        split at hr
        · cases hr
        · rename_i hcond
          obtain ⟨z, z1, z2⟩ := run_zero' hd w
          have hz := z2 S m
          have hzl := hz.length
          simp at hzl
          have hdz : d.zero.length = d.size := by omega
          have hd0 : d.size ≠ 0 := by omega
          split at hr
          · rename_i cs hf
            split at hr
            case isFalse => cases hr
            rename_i hsc
            obtain ⟨hsc, hag⟩ := hsc
            cases hr
            have hrep := rep_sound hz (by omega) n
            have hrep' : VRs S m (rep n d.zero) (((Array.range (n * d.size)).map fun i => z.cells[i % z.cells.size]!)).toList := by rw [← hdz, hzl]; exact hrep
            obtain ⟨vs', f1, f2, f3⟩ := fill_sound (S := S) (m := m) hf hrep' ⟨p1, p2⟩
            have hps : (ps.map fun (p : Nat × Operand) => (p.1, σ p.2)).toList = ps.toList.map fun p => (p.1, σ p.2) := by simp
            have f1' : Instr.fill (fun i => some (i * d.size, d.size)) ((Array.range (n * d.size)).map fun i => z.cells[i % z.cells.size]!) (ps.map fun (x : Nat × Operand) => (x.1, σ x.2)).toList = some vs' := by rw [hps]; exact f1
            obtain ⟨k1, k2⟩ := s.fresh vs' e
            have hlen : cs.length = n * d.size := by
              have := f2.length; simp [f3] at this; omega
            have hcr : CR (S.fresh w.heap.size vs') m cs w.heap.size 0 := CR.of_get _ _ _ fun i x hx => by
              obtain ⟨v, g1, g2⟩ := f2.get _ i x hx
              exact ⟨v, by rw [SM.fresh_eq, Nat.zero_add]; simpa using g1, g2.mono k1 (BM.le_refl _)⟩
            refine ⟨_, .slice (some ⟨w.heap.size, 0, none⟩) n n, _, _, m, ?_, .inl rfl, k1, BM.le_refl _, ?_, k2⟩
            · have hsz : ¬ n * d.size > 2 ^ 24 := by
                have : (2 : Nat) ^ 24 = 16777216 := by decide
                omega
              have hmap : (ps.map fun (x : Nat × Operand) => match x with | (i, x) => (i, σ x)) = ps.map fun (x : Nat × Operand) => (x.1, σ x.2) := rfl
              by_cases hn : n * d.size = 0
              · have hn0 : n = 0 := by
                  rcases Nat.mul_eq_zero.1 hn with h | h
                  · exact h
                  · omega
                subst hn0
                have f1'' : Instr.fill (fun i => some (i * d.size, d.size)) #[] (ps.map fun (x : Nat × Operand) => (x.1, σ x.2)).toList = some vs' := by
                  have e0 : ((Array.range (0 * d.size)).map fun i => z.cells[i % z.cells.size]!) = #[] := by rw [Nat.zero_mul]; simp
                  rw [← e0]; exact f1'
                have er : ∀ f : Nat → Value, Array.map f (Array.range 0) = #[] := fun f => by simp
                simp only [execOp, hop, Instr.buildSlice, Sem.run_bind, run_underlying' ht, Result.andThen_ok, run_sizeOf' hd, Sem.run_ite, hsz, if_false, Nat.zero_mul, if_true, Sem.run_pure, hmap]
                simp only [er, f1'']
                simp [newRow]
              · simp only [execOp, hop, Instr.buildSlice, Sem.run_bind, run_underlying' ht, Result.andThen_ok, run_sizeOf' hd, Sem.run_ite, hsz, if_false, hn, Sem.run_pure, z1, hmap, f1']
                simp [newRow]
            · have hel : (elemsA d n cs).length = n := by
                unfold elemsA
                cases hg : isAggD d.desc with
                | true =>
                  simp only [hg, if_true, List.length_map]
                  have : ∀ n (l : List AV), (chunk d.size n l).length = n := fun n => by
                    induction n with
                    | zero => intro l; rfl
                    | succ n ih => intro l; simp [chunk, ih]
                  exact this n cs
                | false =>
                  simp only [hg, Bool.false_eq_true, if_false]
                  rcases hag with h | h
                  · rw [hg] at h; cases h
                  · rw [hlen, h]; omega
              unfold VR
              refine ⟨some ⟨w.heap.size, 0, none⟩, n, by rw [hel], by rw [hel]; exact Nat.le_refl _, fun _ => ⟨hel.symm, fun h0 => absurd h0 hd0⟩, fun _ => ⟨w.heap.size, 0, rfl, ?_⟩⟩
              refine ER.of_cells rfl n hcr hlen hsc fun h => ?_
              rcases hag with h' | h'
              · rw [h] at h'; cases h'
              · exact h'
          · cases hr
      · cases hr
    · cases hr
  case load t p =>
    split at hr
    · rename_i a ha
      obtain ⟨x, h1, rfl⟩ := optv hr
      obtain ⟨v, g1, g2⟩ := load_sound (P := P) s h1 (hρ _ _ ha)
      exact .same s (by simp [execOp, hop, g1]) g2
    · cases hr
  case store t p x =>
    split at hr
    · rename_i a v ha hv
      cases hs : storeA P h t a v with
      | none => simp [hs] at hr
      | some h' =>
        simp [hs] at hr; subst hr
        obtain ⟨w', m', g1, g2, g3⟩ := store_sound (P := P) s hs (hρ _ _ ha) (hρ _ _ hv)
        exact ⟨_, Go.undef, w', S, m', by simp [execOp, hop, g1], .inr ⟨rfl, rfl⟩, SM.le_refl _, g2, by unfold VR; trivial, g3⟩
    · cases hr
  case nilCheck x =>
    split at hr
    · rename_i b v o hx
      cases hr
      have := hρ _ _ hx
      have h0 := this
      unfold VR at h0
      obtain ⟨B, K, _, e⟩ := h0
      exact .same s (v := σ x) (by simp [execOp, hop, e]) this
    · rename_i cs o hx
      cases hr
      have := hρ _ _ hx
      have h0 := this
      unfold VR at h0
      obtain ⟨B, q, e, _⟩ := h0
      exact .same s (v := σ x) (by simp [execOp, hop, e]) this
    · rename_i g y z hx
      cases hr
      have := hρ _ _ hx
      have h0 := this
      unfold VR at h0
      obtain ⟨y', z', ⟨f', e, hf'⟩, _⟩ := h0
      have hf'' := (fnR_plain rfl).1 hf'; subst hf''
      exact .same s (v := σ x) (by simp [execOp, hop, e]) this
    · rename_i t v hx
      cases hr
      have := hρ _ _ hx
      have h0 := this
      unfold VR at h0
      obtain ⟨u, e, _⟩ := h0
      exact .same s (v := σ x) (by simp [execOp, hop, e]) this
    · cases hr
  case binOp op t x y yt =>
    split at hr
    · rename_i a b ha hb
      have va := hρ _ _ ha
      have vb := hρ _ _ hb
      split at hr
      · rename_i k n k' n'
        obtain ⟨r', h1, rfl⟩ := optv hr
        obtain ⟨v, g1, g2⟩ := bin_sound (P := P) (t := t) s h1 va vb
        refine .same s ?_ g2
        have hg : (eqGuard op t x y (σ x) (σ y)).run P w = .ok () w := guard_sound (p := .int k n) (q := .int k' n') rfl va vb
        simp [execOp, hop, hg, g1]
      · rename_i l l'
        obtain ⟨r', h1, rfl⟩ := optv hr
        obtain ⟨v, g1, g2⟩ := bin_sound (P := P) (t := t) s h1 va vb
        refine .same s ?_ g2
        have hg : (eqGuard op t x y (σ x) (σ y)).run P w = .ok () w := guard_sound (p := .str l) (q := .str l') rfl va vb
        simp [execOp, hop, hg, g1]
      · rename_i hni hns
        split at hr
        · rename_i hgd
          have hg : (eqGuard op t x y (σ x) (σ y)).run P w = .ok () w := guard_sound hgd va vb
          have hbin : ∀ r', eqA P 20 t a b = some r' → (binOp .eql t (σ x) (σ y)).run P w = .ok (.bool r') w ∧ (binOp .neq t (σ x) (σ y)).run P w = .ok (.bool (!r')) w := fun r' he => binEq (n := 19) hni hns he (by omega) va vb
          split at hr
          · cases he : eqA P 20 t a b with
            | none => simp [he] at hr
            | some r' =>
              simp [he] at hr; subst hr
              exact .same s (by simp [execOp, hop, hg, (hbin r' he).1]) (vr_bool _)
          · cases he : eqA P 20 t a b with
            | none => simp [he] at hr
            | some r' =>
              simp [he] at hr; subst hr
              exact .same s (by simp [execOp, hop, hg, (hbin r' he).2]) (vr_bool _)
          · cases hr
        · cases hr
    · cases hr
  case unOp op t x =>
    split at hr
    · rename_i a ha
      obtain ⟨r', h1, rfl⟩ := optv hr
      obtain ⟨v, g1, g2⟩ := un_sound (P := P) s h1 (hρ _ _ ha)
      exact .same s (by simp [execOp, hop, g1]) g2
    · cases hr
  case convert sr ds x =>
    split at hr
    · rename_i a ha
      split at hr
      · rename_i v hv
        cases hr
        obtain ⟨u, g1, g2⟩ := convP_sound (P := P) s hv (hρ _ _ ha)
        exact .same s (v := u) (by simp [execOp, hop, g1]) g2
      · have := Fits.ofRes (q := convert sr ds (σ x)) hr fun x' oh ho => conv_sound s ho (hρ _ _ ha)
        simpa [execOp, hop] using this
    · cases hr
  case makeInterface t x =>
    split at hr
    · cases hr
    · rename_i d v hni ht hv
      cases hr
      refine .same s (v := .iface t (σ x)) ?_ (by unfold VR; exact ⟨_, rfl, hρ _ _ hv⟩)
      simp only [execOp, hop, Instr.makeInterface, Sem.run_bind, run_underlying' ht, Result.andThen_ok]
      cases d <;> first | rfl | exact (hni _ rfl).elim
    · cases hr
  case makeFunc f xs ys =>
    split at hr
    · rename_i a b ha hb
      split at hr
      · cases hr
      rename_i hy
      cases hr
      have h1 := mapM_sound hρ ha
      have h2 := mapM_sound hρ hb
      refine .same s (v := .func f (xs.map σ) (ys.map σ)) (by simp [execOp, hop, Instr.makeFunc]) ?_
      unfold VR
      exact ⟨_, _, ⟨f, rfl, (fnR_plain (by simpa using hy)).2 rfl⟩, by simpa using h1, by simpa using h2⟩
    · cases hr
  case extract x i =>
    split at hr
    · rename_i vs hx
      obtain ⟨r', h1, rfl⟩ := optv hr
      have h0 := hρ _ _ hx
      unfold VR at h0
      obtain ⟨us, e, hv⟩ := h0
      obtain ⟨v, g1, g2⟩ := hv.get _ _ _ h1
      have g1' : us[i]? = some v := by simpa using g1
      exact .same s (by simp [execOp, hop, e, Instr.extract, g1']) g2
    · cases hr
  case makeSlice t l c =>
    split at hr
    · rename_i e k a k' b ht hl hc
      split at hr
      · rename_i d hd
        split at hr
        · rename_i hcond
          obtain ⟨c1, c2, c3, c4, c5, c6⟩ := hcond
          cases hr
          have vl := hρ _ _ hl
          have vc := hρ _ _ hc
          unfold VR at vl vc
          obtain ⟨ts1, i, z, ts2, ts3, ts4, ts5, ts6⟩ := ti_spec hd
          obtain ⟨z', z1, z2⟩ := run_zero' hd w
          have hz := z2 S m
          have hzl := hz.length
          simp at hzl
          have hw : ∀ x : Int, 0 ≤ x → x ≤ 1073741824 → IntKind.i64.wrap x = x := fun x h0 h1 => by
            have e0 : x % (2 ^ IntKind.i64.bits : Int) = x := Int.emod_eq_of_lt h0 (by simp [IntKind.bits]; omega)
            have e1 : ¬ (x ≥ (2 ^ (IntKind.i64.bits - 1) : Int)) := by simp [IntKind.bits]; omega
            unfold IntKind.wrap
            simp only [e0]
            rw [if_neg (by simp [IntKind.bits, IntKind.signed]; omega)]
          have hbig : ¬ ((i.bytes : Int) * b > 2 ^ 48) := by
            have h1 : (i.bytes : Int) * b ≤ 65536 * 1073741824 := by
              refine Int.mul_le_mul (by omega) (by omega) (by omega) (by omega)
            have : (2 : Int) ^ 48 = 281474976710656 := by decide
            omega
          have hrep := rep_sound hz (by omega) a.toNat
          have hrow : VRs S m (rep a.toNat d.zero) (((Array.range (b.toNat * d.size)).map fun i => z'.cells[i % z'.cells.size]!).toList.take (rep a.toNat d.zero).length) := by
            have e1 : (rep a.toNat d.zero).length = a.toNat * z'.cells.size := by
              have := hrep.length; simpa using this
            have e2 : ((Array.range (b.toNat * d.size)).map fun i => z'.cells[i % z'.cells.size]!).toList.take (rep a.toNat d.zero).length = ((Array.range (a.toNat * z'.cells.size)).map fun i => z'.cells[i % z'.cells.size]!).toList := by
              rw [e1]
              have hle : a.toNat * z'.cells.size ≤ b.toNat * d.size := by rw [← c5, hzl]; exact Nat.mul_le_mul_right _ (by omega)
              simp only [Array.toList_map, Array.toList_range, ← List.map_take, List.take_range, Nat.min_eq_left hle]
            rw [e2]; exact hrep
          obtain ⟨k1, k2⟩ := s.alloc ((Array.range (b.toNat * d.size)).map fun i => z'.cells[i % z'.cells.size]!) e (0, 0) (rep a.toNat d.zero) (el' := some e) (fun _ he => by cases he; exact ⟨rfl, .inl rfl⟩) hrow (by simp)
          refine ⟨_, .slice (some ⟨w.heap.size, 0, none⟩) a.toNat b.toNat, _, S, _, ?_, .inl rfl, SM.le_refl _, k1, ?_, k2⟩
          · simp only [execOp, hop, Instr.makeSlice, Sem.run_bind, run_underlying' ht, Result.andThen_ok, vl, vc, asInt, asIntOf, Sem.run_pure, run_typeInfo' ts2, hw a c1 (by omega), hw b (by omega) c3]
            have hb0 : ¬ b < 0 := by omega
            have ha0 : ¬ a < 0 := by omega
            have hab : ¬ b < a := by omega
            have hbig' : ¬ ((281474976710656 : Int) < (i.bytes : Int) * b) := by
              have : (2 : Int) ^ 48 = 281474976710656 := by decide
              omega
            simp [hb0, ha0, hab, hbig', run_sizeOf' hd]
            by_cases hn : b.toNat * d.size = 0
            · have er : ∀ f : Nat → Value, Array.map f (Array.range 0) = #[] := fun f => by simp
              rw [if_pos hn]
              simp only [hn, er]
              simp [newRow]
            · rw [if_neg hn]
              simp [z1, newRow]
          · unfold VR
            exact ⟨_, _, b.toNat, BM.put_eq _ _ _ _, rfl, by omega, by simp⟩
        · cases hr
      · cases hr
    · cases hr
  case slice t x lo hi mx =>
    split at hr
    · rename_i v l h' mm d hx hlo hhi hmx ht
      have vx := hρ _ _ hx
      have o1 := optM_sound hρ hlo
      have o2 := optM_sound hρ hhi
      have o3 := optM_sound hρ hmx
      have fin : ∀ {r' : AV}, (∃ u, (Instr.sliceAt t (σ x) (lo.map σ) (hi.map σ) (mx.map σ)).run P w = .ok u w ∧ VR S m r' u) → Fits P n₀ w₀ S₀ S m h w ((execOp σ o).run P w) (.val r') := fun ⟨u, g1, g2⟩ => .same s (by simp [execOp, hop, g1]) g2
      split at hr
      · rename_i l'
        obtain ⟨r', h1, rfl⟩ := optv hr
        exact fin (slice_str ht o1 o2 o3 h1 vx)
      · rename_i e v' hns
        split at hr
        · rename_i de sz xs c0 hde
          obtain ⟨r', h1, rfl⟩ := optv hr
          exact fin (slice_lst ht hde o1 o2 o3 h1 vx)
        · rename_i de sz b ver o' len hde
          obtain ⟨r', h1, rfl⟩ := optv hr
          exact fin (slice_sl ht hde o1 o2 o3 h1 vx)
        · cases hr
      · rename_i n e b ver o'
        split at hr
        · rename_i de hde
          split at hr
          · rename_i ver' cs frz hb
            split at hr
            · rename_i hcond
              obtain ⟨rfl, c1, c2⟩ := hcond
              obtain ⟨r', h1, rfl⟩ := optv hr
              refine fin ?_
              obtain ⟨B, K, el₀, vs, fz, e1, e2, e3, e4, e5, e6, e7⟩ := blk_at s hb
              have h0 := vx
              unfold VR at h0
              obtain ⟨B', K', g1, e⟩ := h0
              rw [e1] at g1; cases g1
              unfold sliceA at h1
              simp only at h1
              have key : ∀ (lo' hi' : Int) (M : Int), l.getD 0 = lo' → h'.getD n = hi' → mm.getD n = M → (mm.isSome = true → h'.isSome = true) → 0 ≤ lo' → lo' ≤ hi' → hi' ≤ M → M ≤ n →
                  (Instr.sliceAt t (σ x) (lo.map σ) (hi.map σ) (mx.map σ)).run P w = .ok (.slice (some (if M.toNat = lo'.toNat then ⟨B, o', none⟩ else ⟨B, o' + lo'.toNat * de.size, none⟩)) (hi'.toNat - lo'.toNat) (M.toNat - lo'.toNat)) w := by
                intro lo' hi' M a1 a2 a3 a4 a5 a6 a7 a8
                subst a1 a2 a3
                have hbo := bounds_ok (P := P) (w := w) (is := false) (len := n) (cap := n) o1 o2 o3 a4 a5 a6 a7 a8
                simp [Instr.sliceAt, run_underlying' ht, e, Instr.sureAddr, hbo, run_sizeOf' hde, add_off]
              have hmul : ∀ (lo' M : Int), 0 ≤ lo' → lo' ≤ M → M ≤ n → lo'.toNat * de.size + (M.toNat - lo'.toNat) * de.size ≤ n * de.size := fun lo' M a1 a2 a3 => by
                rw [← Nat.add_mul]; exact Nat.mul_le_mul_right _ (by omega)
              split at h1
              · rename_i y
                split at h1
                · rename_i hc
                  obtain ⟨d0, d1, d2, d3, d4, _⟩ := hc
                  have hk := key _ _ y rfl rfl rfl (fun _ => d0) d1 d2 d3 d4
                  have hm' := hmul (l.getD 0) y d1 (by omega) d4
                  split at h1
                  · cases h1
                    refine ⟨_, hk, ?_⟩
                    unfold VR
                    have z1 : (h'.getD n).toNat - (l.getD 0).toNat = 0 := by omega
                    have z2 : y.toNat - (l.getD 0).toNat = 0 := by omega
                    rw [z1, z2]
                    exact ⟨_, 0, rfl, Nat.le_refl _, fun hs => ⟨rfl, fun h0 => by simp [h0] at hs⟩, fun hne => absurd rfl hne⟩
                  · cases h1
                    refine ⟨_, hk, ?_⟩
                    rw [if_neg (by omega)]
                    unfold VR
                    refine ⟨B, K, y.toNat - (l.getD 0).toNat, e1, ?_, by omega, by omega⟩
                    have : (h'.getD n).toNat - (l.getD 0).toNat = (h'.getD n - l.getD 0).toNat := by omega
                    rw [this]
                · cases h1
              · split at h1
                · rename_i hc
                  obtain ⟨d1, d2, d3, _⟩ := hc
                  have hk := key _ _ n rfl rfl rfl (fun h => by cases h) d1 d2 d3 (by omega)
                  have hm' := hmul (l.getD 0) n d1 (by omega) (by omega)
                  split at h1
                  · cases h1
                    refine ⟨_, hk, ?_⟩
                    unfold VR
                    have z1 : (h'.getD n).toNat - (l.getD 0).toNat = 0 := by omega
                    rw [z1]
                    exact ⟨_, _, rfl, by simp, (fun h => by cases h), fun hne => absurd rfl hne⟩
                  · cases h1
                    refine ⟨_, hk, ?_⟩
                    rw [if_neg (by omega)]
                    unfold VR
                    refine ⟨B, K, (n : Int).toNat - (l.getD 0).toNat, e1, ?_, by omega, by omega⟩
                    have : (h'.getD n).toNat - (l.getD 0).toNat = (h'.getD n - l.getD 0).toNat := by omega
                    rw [this]
                · cases h1
            · cases hr
          · cases hr
        · cases hr
      · cases hr
    · cases hr
  case fieldAddr t x i =>
    split at hr
    · rename_i fs p ht hx
      split at hr
      · rename_i f hf
        split at hr
        · rename_i d hd
          split at hr
          · cases hr
          · rename_i hsz
            have vx := hρ _ _ hx
            split at hr
            · rename_i b ver o'
              cases hr
              have h0 := vx
              unfold VR at h0
              obtain ⟨B, K, g1, e⟩ := h0
              refine .same s (v := .pointer (some ⟨B, o' + f.offset, none⟩)) ?_ (by unfold VR; exact ⟨B, K, g1, rfl⟩)
              simp [execOp, hop, Instr.fieldAt, run_underlying' ht, hf, e, Instr.sureAddr, fieldPlace, run_sizeOf' hd, hsz, add_off]
            · rename_i cs o'
              cases hr
              have h0 := vx
              unfold VR at h0
              obtain ⟨B, q, e, hc⟩ := h0
              refine .same s (v := .pointer (some ⟨B, q + o' + f.offset, none⟩)) ?_ (by unfold VR; exact ⟨B, q, by rw [Nat.add_assoc], hc⟩)
              simp [execOp, hop, Instr.fieldAt, run_underlying' ht, hf, e, Instr.sureAddr, fieldPlace, run_sizeOf' hd, hsz, add_off]
            · cases hr
        · cases hr
      · cases hr
    · cases hr
  case field t x i =>
    split at hr
    · rename_i fs cs ht hx
      split at hr
      · rename_i f hf
        split at hr
        · rename_i d hd
          obtain ⟨r', h1, rfl⟩ := optv hr
          have vx := hρ _ _ hx
          unfold VR at vx
          obtain ⟨vs, e, hv⟩ := vx
          obtain ⟨v, g1, g2⟩ := part_sound (P := P) (w := w) hd hv h1
          exact .same s (by simp [execOp, hop, Instr.field, run_underlying' ht, hf, e, asAgg, g1]) g2
        · cases hr
      · cases hr
    · cases hr
  case indexAddr t x ix =>
    split at hr
    · rename_i e v k i ht hx hix
      have vx := hρ _ _ hx
      have vi := hρ _ _ hix
      unfold VR at vi
      split at hr
      · rename_i d hd
        split at hr
        · rename_i sz xs c0
          split at hr
          · rename_i hc
            obtain ⟨c1, rfl⟩ := hc
            split at hr
            · rename_i y hy
              cases hcy : y.cells? with
              | none => simp [hcy] at hr
              | some cs =>
                simp [hcy] at hr; subst hr
                unfold VR at vx
                obtain ⟨a, cap, e1, e2, e3, e4⟩ := vx
                have hlt : i.toNat < xs.length := (List.getElem?_eq_some_iff.1 hy).1
                obtain ⟨B, q, rfl, he⟩ := e4 (fun hn => by subst hn; simp at hlt)
                refine .same s (v := .pointer (some ⟨B, q + i.toNat * d.size, none⟩)) ?_ (by unfold VR; exact ⟨B, q + i.toNat * d.size, rfl, he.get hy hcy⟩)
                have hi2 : i < (xs.length : Int) := by omega
                simp [execOp, hop, Instr.indexAt, vi, asIntOf, run_underlying' ht, e1, c1, hi2, run_sizeOf' hd, add_off]
            · cases hr
          · cases hr
        · rename_i sz b ver o' len
          split at hr
          · rename_i hc
            obtain ⟨c1, c2, rfl⟩ := hc
            cases hr
            unfold VR at vx
            obtain ⟨B, K, cap, g1, e1, _⟩ := vx
            refine .same s (v := .pointer (some ⟨B, o' + i.toNat * d.size, none⟩)) ?_ (by unfold VR; exact ⟨B, K, g1, rfl⟩)
            simp [execOp, hop, Instr.indexAt, vi, asIntOf, run_underlying' ht, e1, c1, c2, run_sizeOf' hd, add_off]
          · cases hr
        · cases hr
      · cases hr
    · rename_i n e p k i ht hx hix
      have vx := hρ _ _ hx
      have vi := hρ _ _ hix
      unfold VR at vi
      split at hr
      · rename_i d hd
        split at hr
        · rename_i hc
          obtain ⟨c1, c2⟩ := hc
          split at hr
          · rename_i b ver o'
            cases hr
            unfold VR at vx
            obtain ⟨B, K, g1, e1⟩ := vx
            refine .same s (v := .pointer (some ⟨B, o' + i.toNat * d.size, none⟩)) ?_ (by unfold VR; exact ⟨B, K, g1, rfl⟩)
            simp [execOp, hop, Instr.indexAt, vi, asIntOf, run_underlying' ht, e1, c1, c2, run_sizeOf' hd, add_off, Instr.sureAddr]
          · rename_i cs o'
            cases hr
            unfold VR at vx
            obtain ⟨B, q, e1, hcr⟩ := vx
            refine .same s (v := .pointer (some ⟨B, q + o' + i.toNat * d.size, none⟩)) ?_ (by unfold VR; exact ⟨B, q, by rw [Nat.add_assoc], hcr⟩)
            simp [execOp, hop, Instr.indexAt, vi, asIntOf, run_underlying' ht, e1, c1, c2, run_sizeOf' hd, add_off, Instr.sureAddr]
          · cases hr
        · cases hr
      · cases hr
    · cases hr
  case index t x ix =>
    split at hr
    · rename_i l k i ht hx hix
      have vx := hρ _ _ hx
      have vi := hρ _ _ hix
      unfold VR at vi vx
      split at hr
      · rename_i c1
        split at hr
        · rename_i b hb
          cases hr
          refine .same s (v := .int .u8 b.toNat) ?_ (vr_int _ _)
          have hb' : (⟨l.toArray⟩ : ByteArray)[i.toNat]? = some b := by
            have hlt : i.toNat < l.length := (List.getElem?_eq_some_iff.1 hb).1
            rw [getElem?_pos _ _ (by simpa [str_size] using hlt)]
            have := (List.getElem?_eq_some_iff.1 hb).2
            congr 1
          simp [execOp, hop, Instr.index, vi, vx, asIntOf, run_underlying' ht, c1, hb']
        · cases hr
      · cases hr
    · rename_i n e cs k i ht hx hix
      have vx := hρ _ _ hx
      have vi := hρ _ _ hix
      unfold VR at vi vx
      obtain ⟨vs, e1, hv⟩ := vx
      split at hr
      · rename_i hc
        obtain ⟨c1, c2⟩ := hc
        split at hr
        · rename_i d hd
          obtain ⟨r', h1, rfl⟩ := optv hr
          obtain ⟨v, g1, g2⟩ := part_sound (P := P) (w := w) hd hv h1
          exact .same s (by simp [execOp, hop, Instr.index, vi, e1, asIntOf, run_underlying' ht, c1, c2, run_sizeOf' hd, g1]) g2
        · cases hr
      · cases hr
    · cases hr
  case call c =>
    split at hr
    · cases hr
    · rename_i args ha
      have va := mapM_sound hρ ha
      split at hr
      · rename_i b hb
        simp only [execOp, hop, resolve, hb, Sem.run_bind, Sem.run_pure, Result.andThen_ok, invoke]
        split at hr
        · rename_i r' hr'
          cases hr
          exact builtin_sound s hr' (by simpa using va)
        · exact extraB_sound s hr (by simpa using va)
      · rename_i f hf
        split at hr
        · rename_i g x y hx
          split at hr
          · rename_i hok
            cases hr
            have vx := hρ _ _ hx
            unfold VR at vx
            obtain ⟨x', y', ⟨f', e, hf'⟩, h1, h2⟩ := vx
            have hf'' := (fnR_plain rfl).1 hf'; subst hf''
            refine ⟨x' ++ c.args.map σ ++ y', .inl ⟨fnOk_lt hok, ?_⟩, by simpa using (h1.append va).append h2⟩
            have hcf : (callFunc g (x' ++ c.args.map σ ++ y')).run P w = .ok (.enter g (x' ++ c.args.map σ ++ y')) w := by
              unfold fnOk at hok
              split at hok
              · rename_i fn hfn
                simp only [Bool.and_eq_true, Bool.not_eq_true', beq_eq_false_iff_ne, ne_eq] at hok
                obtain ⟨k1, k2⟩ := hok
                have k3 : fn.body.isNone = false := by cases hbd : fn.body <;> simp [hbd] at k2 ⊢
                simp [callFunc, hfn, k1]
                intro hbn; simp [hbn] at k2
              · cases hok
            simp only [execOp, hop, resolve, hf, e, Deferred.ofValue, Sem.run_bind, Sem.run_pure, Result.andThen_ok, invoke, hcf]
          · have vx := hρ _ _ hx
            unfold VR at vx
            obtain ⟨x', y', ⟨f', e, hf'⟩, h1, h2⟩ := vx
            have hf'' := (fnR_plain rfl).1 hf'; subst hf''
            simp only [execOp, hop, resolve, hf, e, Deferred.ofValue, Sem.run_bind, Sem.run_pure, Result.andThen_ok, invoke]
            exact extA_sound s hr (by simpa using (h1.append va).append h2)
        · rename_i b hx
          cases hr
          have vx := hρ _ _ hx
          unfold VR at vx
          obtain ⟨x', y', ⟨f', e, B, K, hB, rfl⟩, h1, h2⟩ := vx
          have ex : x' = #[] := by cases x'; unfold VRs at h1; simpa using h1
          have ey : y' = #[] := by cases y'; unfold VRs at h2; simpa using h2
          subst ex ey
          refine ⟨c.args.map σ, .inr ⟨b, B, K, rfl, hB, ?_⟩, by simpa using va⟩
          simp only [execOp, hop, resolve, hf, e, Deferred.ofValue, Sem.run_bind, Sem.run_pure, Result.andThen_ok, invoke]
          simp
        · cases hr
      · rename_i x name hf
        split at hr
        · rename_i t v hx
          split at hr
          · rename_i g hg
            split at hr
            · rename_i hok
              cases hr
              have vx := hρ _ _ hx
              unfold VR at vx
              obtain ⟨u, e, hu⟩ := vx
              refine ⟨#[u] ++ c.args.map σ, .inl ⟨fnOk_lt hok, ?_⟩, by simp only [Array.toList_append, List.cons_append, List.nil_append]; unfold VRs; exact ⟨u, _, rfl, hu, by simpa using va⟩⟩
              have hcf : (callFunc g (#[u] ++ c.args.map σ)).run P w = .ok (.enter g (#[u] ++ c.args.map σ)) w := fnOk_enter hok _
              have hm := meth_sound (P := P) (w := w) hg u (P.types.size + Made.depth - 1)
              rw [show P.types.size + Made.depth - 1 + 1 = P.types.size + Made.depth from by unfold Made.depth; omega] at hm
              have e1 : (#[Value.iface t u] ++ c.args.map σ)[0]? = some (.iface t u) := by rw [Array.getElem?_append_left (by simp)]; rfl
              have e2 : (#[Value.iface t u] ++ c.args.map σ).extract 1 (#[Value.iface t u] ++ c.args.map σ).size = c.args.map σ := by
                apply Array.ext'
                simp [List.take_of_length_le]
              simp only [execOp, hop, resolve, hf, e, Sem.run_bind, Sem.run_pure, Result.andThen_ok, invoke, e1, e2, callMethod, run_program, hm, hcf]
            · cases hr
          · cases hr
        · cases hr
  case typeAssert x xt t ok =>
    split at hr
    · rename_i v hx
      obtain ⟨r', h1, rfl⟩ := optv hr
      obtain ⟨u, g1, g2⟩ := assert_sound (P := P) (w := w) (xt := xt) h1 (hρ _ _ hx)
      exact .same s (v := u) (by simp [execOp, hop, g1]) g2
    · cases hr
  all_goals cases hr
end
end Go.Abs
