/- Deferred calls, bodies, calls. -/
import Derived.Test.YtfddiediieblhaaAbsL
set_option linter.unusedVariables false
set_option linter.unusedSimpArgs false
namespace Go.Abs

def mdR (S : SM) (m : BM) : Md → FrameMode → Prop
  | .ret, u => u = .returning
  | .pan v r, u => ∃ x, u = .panicking [{ v := x, recovered := r }] ∧ VR S m v x

theorem mdR.mono {S S' : SM} {m m' : BM} (hS : S.le S') (hm : m.le m') {u : Md} {u' : FrameMode} (h : mdR S m u u') : mdR S' m' u u' := by
  cases u with
  | ret => exact h
  | pan v r => obtain ⟨x, h1, h2⟩ := h; exact ⟨x, h1, h2.mono hS hm⟩

theorem mdR.settle {S : SM} {m : BM} {u : Md} {u' : FrameMode} (h : mdR S m u u') : mdR S m (settleA u) (Go.settle u') := by
  cases u with
  | ret => change u' = .returning at h; subst h; rfl
  | pan v r =>
    obtain ⟨x, rfl, hx⟩ := h
    cases r with
    | true => rfl
    | false => exact ⟨x, rfl, hx⟩

section
variable {P : Program} {n₀ : Nat} {w₀ : World} {S₀ S : SM} {m : BM} {w : World} {call : CallF} {draw : Array Oper → St → Option (Ex × St)}

theorem CQ.up {S' : SM} {m' : BM} (hS : S.le S') (hm : m.le m') {r : CRes} {h' : AHeap} {e : Ending} (h : CQ n₀ w₀ S₀ S' m' r h' e w) : CQ n₀ w₀ S₀ S m r h' e w := by
  obtain ⟨S'', m'', h1, h2, h3⟩ := h
  exact ⟨S'', m'', SM.le_trans hS h1, BM.le_trans hm h2, h3⟩

theorem setL_sound : ∀ {args : List AV} {vs : List Value} {i : Nat} {x : Tm} {ts : Array Value}, VRs S m args vs → TR S m x ts → TR S m (Tm.setL args i x) ((vs.zipIdx i).foldl (fun t p => t.setIfInBounds p.2 p.1) ts)
  | [], vs, i, x, ts, ha, ht => by unfold VRs at ha; subst ha; exact ht
  | a :: args, vs, i, x, ts, ha, ht => by
    unfold VRs at ha
    obtain ⟨v, vs', rfl, hx, ha⟩ := ha
    unfold Tm.setL
    rw [List.zipIdx_cons, List.foldl_cons]
    exact setL_sound ha (ht.set i hx)

theorem setAll (vs : List Value) : ∀ (i : Nat) (pre : List Value) (k : Nat), pre.length = i → ((vs.zipIdx i).foldl (fun t p => t.setIfInBounds p.2 p.1) (pre.toArray ++ Array.replicate (vs.length + k) Go.undef)) = pre.toArray ++ vs.toArray ++ Array.replicate k Go.undef := by
  induction vs with
  | nil => intro i pre k hp; simp
  | cons v vs ih =>
    intro i pre k hp
    rw [List.zipIdx_cons, List.foldl_cons]
    have e : (pre.toArray ++ Array.replicate ((v :: vs).length + k) Go.undef).setIfInBounds i v = (pre ++ [v]).toArray ++ Array.replicate (vs.length + k) Go.undef := by
      apply Array.ext'
      rw [Array.toList_setIfInBounds]
      simp only [Array.toList_append, Array.toList_replicate, List.length_cons]
      rw [show vs.length + 1 + k = (vs.length + k) + 1 by omega, List.replicate_succ, ← hp, List.set_append_right _ _ (Nat.le_refl _)]
      simp
    rw [e, ih (i + 1) (pre ++ [v]) k (by simp [hp])]
    simp

theorem start_sound {fn : Func} {args : List AV} {vs : Array Value} (hv : VRs S m args vs.toList) : TR S m (startT fn args) (vs ++ Array.replicate (fn.ntmps - vs.size) Go.undef) := by
  have hl := hv.length
  simp at hl
  unfold startT
  have h0 : TR S m (Tm.new (args.length + (fn.ntmps - args.length))) (Array.replicate (args.length + (fn.ntmps - args.length)) Go.undef) := by
    refine ⟨by simp [Tm.new], fun i => by rw [Tm.get_new]; unfold VR; trivial⟩
  have := setL_sound (i := 0) hv h0
  have e := setAll vs.toList 0 [] (fn.ntmps - args.length) rfl
  simp only [Array.length_toList, ← hl] at e
  rw [hl] at this e ⊢
  simpa using (show _ from by
    have e' : (vs.toList.zipIdx 0).foldl (fun t p => t.setIfInBounds p.2 p.1) (Array.replicate (vs.size + (fn.ntmps - vs.size)) Go.undef) = vs ++ Array.replicate (fn.ntmps - vs.size) Go.undef := by
      simpa using e
    rw [e'] at this
    exact this)

theorem def_post {fn : Func} {u' : Md} {o : Option (Ex × St)} {u₂ : Md} {h' : AHeap} (hf : defFin P fn u' o = some (u₂, h')) : u₂ = u' ∧ ∃ ex st, o = some (ex, st) ∧ (ex = .norm ∨ ex = .ret) ∧ st.df = [] ∧ st.h = h' ∧ ∃ v, retA P fn st.tm st.h = some v := by
  unfold defFin at hf
  split at hf
  · split at hf
    · rename_i he
      split at hf
      · rename_i v hv; cases hf; exact ⟨rfl, _, _, rfl, .inl rfl, by simpa using he, rfl, v, hv⟩
      · cases hf
    · cases hf
  · split at hf
    · rename_i he
      split at hf
      · rename_i v hv; cases hf; exact ⟨rfl, _, _, rfl, .inr rfl, by simpa using he, rfl, v, hv⟩
      · cases hf
    · cases hf
  · cases hf

/-- The code of a deferred call that doesn't ask for a panic. -/
theorem def_plain (hcall : CallOk P call) (hdraw : DrawOk P draw) {n : Nat} {f : FuncId} {fn : Func} {c : Code} (hfn : P.funcs[f]? = some fn) (hb : fn.body = some c) {args : List AV} {vs : Array Value} {u u₂ : Md} {h h' : AHeap} {uu : FrameMode}
    (hr : defFin P fn u (evalC P call draw n c ⟨startT fn args, h, []⟩) = some (u₂, h')) (s : Sim n₀ w₀ S₀ S m h w) (hv : VRs S m args vs.toList) (hu : mdR S m u uu) :
    CallsDIn (FW none) 0 P f vs uu w fun e u' w' => (∃ x, e = .returned x) ∧ ∃ S' m', S.le S' ∧ m.le m' ∧ Sim n₀ w₀ S₀ S' m' h' w' ∧ mdR S' m' u₂ u' := by
  obtain ⟨rfl, ex, st, he, hex, hdf, rfl, v, hret⟩ := def_post hr
  have hwp := evalC_sound (r := none) (n₀ := n₀) (w₀ := w₀) (S₀ := S₀) hcall hdraw n c he (a := { tmps := vs ++ Array.replicate (fn.ntmps - vs.size) Go.undef, defers := [] }) ⟨s, start_sound hv, rfl⟩ (.inl rfl)
  refine (callsDIn_of_wp (u := uu) (R := fun e w' => (∃ x, e = .returned x) ∧ ∃ S' m', S.le S' ∧ m.le m' ∧ Sim n₀ w₀ S₀ S' m' st.h w') hfn hb trivial (wpIn_mono hwp fun e a w' hq => ?_)).mono fun e u' w' hq => ?_
  · obtain ⟨S', m', h1, h2, f', hx⟩ := hq
    have hdf' : a.defers = [] := by have := f'.df; simp only [hdf] at this; exact this
    obtain ⟨x, g1, g2⟩ := ret_sound f'.sim f'.tm hret
    rcases hex with rfl | rfl
    · change e = .normal at hx; subst hx
      exact ⟨hdf', x, g1, ⟨x, rfl⟩, S', m', h1, h2, f'.sim⟩
    · change e = .ret at hx; subst hx
      exact ⟨hdf', x, g1, ⟨x, rfl⟩, S', m', h1, h2, f'.sim⟩
  · obtain ⟨rfl, h0, S', m', h1, h2, h3⟩ := hq
    exact ⟨h0, S', m', h1, h2, h3, hu.mono h1 h2⟩

theorem isRecover_spec {ops : Array Oper} {dst : Option Tmp} {more : List Oper} (h : isRecover ops = some (dst, more)) : ∃ o, ops.toList = o :: more ∧ o.dst = dst ∧ o.guard = none ∧ ∃ as ts, o.op = .call { callee := .builtin .recover, args := as, argTypes := ts } := by
  unfold isRecover at h
  split at h
  · rename_i o rest ho
    split at h
    · rename_i as ts hop hg
      cases h
      exact ⟨o, ho, rfl, hg, _, _, hop⟩
    · cases h
  · cases h

theorem runV_sound {ops : Array Oper} {Sb : SM} {mb : BM} {Q : Exit → Act → List Frame → World → Prop} {cs : List Frame} {st' : St} (hQ : ∀ S' m' a' w', Sb.le S' → mb.le m' → FR n₀ w₀ S₀ S' m' st' a' w' → Q .normal a' cs w') :
    ∀ {l : List Oper} {st : St}, runV P ops l st = some st' → ∀ {S : SM} {m : BM} {a : Act} {w : World}, Sb.le S → mb.le m → FR n₀ w₀ S₀ S m st a w → ∀ (k : Nat), (∀ j, l[j]? = ops[k + j]?) → wpOpsSIn (FW none) 0 P ops Q (List.range' k l.length) a cs w
  | [], st, hr, S, m, a, w, hS, hm, f, k, hk => by
    unfold runV at hr; cases hr
    exact hQ S m a w hS hm f
  | o :: l, st, hr, S, m, a, w, hS, hm, f, k, hk => by
    have h0 : ops[k]? = some o := by simpa using (hk 0).symm
    have hk' : ∀ j, l[j]? = ops[k + 1 + j]? := fun j => by have := hk (j + 1); simpa [Nat.add_assoc, Nat.add_comm 1 j] using this
    simp only [List.length_cons, List.range'_succ, wpOpsSIn, h0]
    refine ⟨fun _ _ => trivial, ?_⟩
    unfold runV at hr
    split at hr
    · rename_i hg
      rw [guard_ok f.tm hg, if_pos rfl]
      have go : ∀ {v : AV} {h' : AHeap}, runV P ops l ⟨putT st.tm o.dst v, h', st.df⟩ = some st' → (∃ nx u w' S' m', (execOp a.eval o).run P w = .ok nx w' ∧ Yields nx u ∧ S.le S' ∧ m.le m' ∧ VR S' m' v u ∧ Sim n₀ w₀ S₀ S' m' h' w') →
          (match (execOp a.eval o).run P w with
            | .ok .recover w' => match recoverD cs with
              | some (v, cs') => wpOpsSIn (FW none) 0 P ops Q (List.range' (k + 1) l.length) (a.put o.dst v) cs' w'
              | none => wpOpsSIn (FW none) 0 P ops Q (List.range' (k + 1) l.length) (a.put o.dst .nilIface) cs w'
            | .ok (.value v) w' => wpOpsSIn (FW none) 0 P ops Q (List.range' (k + 1) l.length) (a.put o.dst v) cs w'
            | .ok .skip w' => wpOpsSIn (FW none) 0 P ops Q (List.range' (k + 1) l.length) (a.put o.dst Go.undef) cs w'
            | .halt (.panic v) w' => Q (.panic [{ v, recovered := false }]) a cs w'
            | _ => False) := fun {v h'} hr ⟨nx, u, w', S', m', e1, e2, e3, e4, e5, e6⟩ => by
        rw [e1]
        rcases e2 with rfl | ⟨rfl, rfl⟩
        · exact runV_sound hQ hr (SM.le_trans hS e3) (BM.le_trans hm e4) (f.put e3 e4 e6 o.dst e5) (k + 1) hk'
        · exact runV_sound hQ hr (SM.le_trans hS e3) (BM.le_trans hm e4) (f.put e3 e4 e6 o.dst e5) (k + 1) hk'
      split at hr
      · rename_i v hv
        exact go hr (exOp_sound (P := P) f.sim (fun x v hx => ev_sound f.tm x v hx) hv)
      · rename_i v h' hv
        exact go hr (exOp_sound (P := P) f.sim (fun x v hx => ev_sound f.tm x v hx) hv)
      · cases hr
    · rename_i hg
      rw [guard_ok f.tm hg]
      simp only [Bool.false_eq_true, if_false]
      exact runV_sound hQ hr hS hm (f.put (SM.le_refl _) (BM.le_refl _) f.sim o.dst undefR) (k + 1) hk'
    · cases hr

/-- The code of a deferred call that asks for a panic first. -/
theorem def_recover (hcall : CallOk P call) (hdraw : DrawOk P draw) {n : Nat} {f : FuncId} {fn : Func} {id : Nat} {ops : Array Oper} {rest : Code} (hfn : P.funcs[f]? = some fn) (hb : fn.body = some (.seq (.region id ops false) rest)) {dst : Option Tmp} {more : List Oper} (hrec : isRecover ops = some (dst, more))
    {args : List AV} {vs : Array Value} {u u₁ u₂ : Md} {h h' : AHeap} {uu : FrameMode} {x : AV}
    (hx : (∃ v, u = .pan v false ∧ u₁ = .pan v true ∧ x = v) ∨ ((∀ v, u ≠ .pan v false) ∧ u₁ = u ∧ x = .nili))
    (hr : defFin P fn u₁ (evalV P call draw n ops more rest ⟨putT (startT fn args) dst x, h, []⟩) = some (u₂, h')) (s : Sim n₀ w₀ S₀ S m h w) (hv : VRs S m args vs.toList) (hu : mdR S m u uu) :
    CallsDIn (FW none) 0 P f vs uu w fun e u' w' => (∃ x, e = .returned x) ∧ ∃ S' m', S.le S' ∧ m.le m' ∧ Sim n₀ w₀ S₀ S' m' h' w' ∧ mdR S' m' u₂ u' := by
  obtain ⟨rfl, ex, st, he, hex, hdf, rfl, v, hret⟩ := def_post hr
  obtain ⟨o, hops, rfl, hg, as, ts, hop⟩ := isRecover_spec hrec
  unfold evalV at he
  split at he
  case h_2 => cases he
  rename_i stv hrv
  refine callsDIn_of_wpSIn hfn hb trivial fun c₀ cs hc => wpSIn_seq (wpSIn_region ?_)
  have hrun : (execOp ({ tmps := vs ++ Array.replicate (fn.ntmps - vs.size) Go.undef, defers := [] } : Act).eval o).run P w = .ok .recover w := by
    simp [execOp, hop, resolve, invoke, builtin]
  have hst := start_sound (fn := fn) hv
  obtain ⟨S₁, hS₁⟩ : ∃ S₁, S₁ = S := ⟨_, rfl⟩
  obtain ⟨m₁, hm₁⟩ : ∃ m₁, m₁ = m := ⟨_, rfl⟩
  rw [← hS₁, ← hm₁]
  -- what the rest does, from whatever frame
  have hrest : ∀ {S m w} (a' : Act) (uu' : FrameMode), mdR S m u₂ uu' → FR n₀ w₀ S₀ S m stv a' w → S₁.le S → m₁.le m →
      rest.wpSIn (FW none) 0 P (bodyPostS P fn c₀ cs fun e u' w' => (∃ x, e = .returned x) ∧ ∃ S' m', S₁.le S' ∧ m₁.le m' ∧ Sim n₀ w₀ S₀ S' m' st.h w' ∧ mdR S' m' u₂ u') a' ({ c₀ with mode := uu' } :: cs) w := fun {S m w} a' uu' hu' f hSb hmb => by
    refine wpSIn_of_wpIn rfl (wpIn_mono (evalC_sound (r := none) hcall hdraw n rest he f (.inl rfl)) fun e a w' hq => ?_)
    obtain ⟨S', m', h1, h2, f', hx⟩ := hq
    have hdf' : a.defers = [] := by have := f'.df; simp only [hdf] at this; exact this
    obtain ⟨y, g1, g2⟩ := ret_sound f'.sim f'.tm hret
    rcases hex with rfl | rfl
    · change e = .normal at hx; subst hx
      exact ⟨hdf', uu', rfl, y, g1, ⟨y, rfl⟩, S', m', SM.le_trans hSb h1, BM.le_trans hmb h2, f'.sim, hu'.mono h1 h2⟩
    · change e = .ret at hx; subst hx
      exact ⟨hdf', uu', rfl, y, g1, ⟨y, rfl⟩, S', m', SM.le_trans hSb h1, BM.le_trans hmb h2, f'.sim, hu'.mono h1 h2⟩
  have hw : ∀ ts, Region.wanted o (yielded ops ts) = true := fun ts => by simp [Region.wanted, hg]
  have h0 : ops[0]? = some o := by rw [← Array.getElem?_toList, hops]; rfl
  have hrg : List.range ops.size = 0 :: List.range' 1 more.length := by
    rw [List.range_eq_range', ← Array.length_toList, hops, List.length_cons, List.range'_succ]
  have hk : ∀ j, more[j]? = ops[1 + j]? := fun j => by rw [← Array.getElem?_toList, hops, Nat.add_comm]; rfl
  show wpOpsSIn (FW none) 0 P ops _ (List.range ops.size) _ _ _
  rw [hrg]
  simp only [wpOpsSIn, h0, hw, if_true, hrun]
  refine ⟨fun _ _ => trivial, ?_⟩
  have f0 : ∀ y : Value, VR S m x y → FR n₀ w₀ S₀ S m ⟨putT (startT fn args) o.dst x, h, []⟩ (({ tmps := vs ++ Array.replicate (fn.ntmps - vs.size) Go.undef, defers := [] } : Act).put o.dst y) w := fun y hy =>
    ⟨s, put_sound (a := { tmps := vs ++ Array.replicate (fn.ntmps - vs.size) Go.undef, defers := [] }) hst o.dst hy, by rw [put_defers]; rfl⟩
  rcases hx with ⟨v', rfl, rfl, rfl⟩ | ⟨hne, rfl, rfl⟩
  · obtain ⟨y, rfl, hy⟩ := hu
    have hrc : recoverD (c₀ :: cs) = some (y, { c₀ with mode := .panicking [{ v := y, recovered := true }] } :: cs) := by
      simp [recoverD, hc]
    simp only [hrc]
    exact runV_sound (Sb := S) (mb := m) (fun S' m' a' w' g1 g2 g3 => hrest a' _ ⟨y, rfl, hy.mono g1 g2⟩ g3 (hS₁ ▸ g1) (hm₁ ▸ g2)) hrv (SM.le_refl _) (BM.le_refl _) (f0 y hy) 1 hk
  · have hrc : recoverD (c₀ :: cs) = none := by
      cases u₂ with
      | ret => change uu = .returning at hu; simp [recoverD, hc, hu]
      | pan v r =>
        obtain ⟨y, rfl, hy⟩ := hu
        cases r with
        | true => simp [recoverD, hc]
        | false => exact (hne v rfl).elim
    simp only [hrc]
    have hcm : (c₀ :: cs) = ({ c₀ with mode := uu } : Frame) :: cs := by rw [← hc]
    rw [hcm]
    exact runV_sound (Sb := S) (mb := m) (fun S' m' a' w' g1 g2 g3 => hrest a' _ (hu.mono g1 g2) g3 (hS₁ ▸ g1) (hm₁ ▸ g2)) hrv (SM.le_refl _) (BM.le_refl _) (f0 .nilIface (by unfold VR; rfl)) 1 hk

theorem def_sound (hcall : CallOk P call) (hdraw : DrawOk P draw) {n : Nat} {f : FuncId} {args : List AV} {vs : Array Value} {u u₂ : Md} {h h' : AHeap} {uu : FrameMode}
    (hr : evalDef P call draw n f args u h = some (u₂, h')) (s : Sim n₀ w₀ S₀ S m h w) (hv : VRs S m args vs.toList) (hu : mdR S m u uu) :
    CallsDIn (FW none) 0 P f vs uu w fun e u' w' => (∃ x, e = .returned x) ∧ ∃ S' m', S.le S' ∧ m.le m' ∧ Sim n₀ w₀ S₀ S' m' h' w' ∧ mdR S' m' u₂ u' := by
  unfold evalDef at hr
  split at hr
  · cases hr
  · rename_i fn hfn
    split at hr
    · cases hr
    · rename_i c hb
      split at hr
      · rename_i id ops rest
        split at hr
        · rename_i dst more hrec
          split at hr
          · rename_i v
            exact def_recover hcall hdraw hfn hb hrec (.inl ⟨v, rfl, rfl, rfl⟩) hr s hv hu
          · rename_i hne
            exact def_recover hcall hdraw hfn hb hrec (.inr ⟨fun v e => hne v e, rfl, rfl⟩) hr s hv hu
        · exact def_plain hcall hdraw hfn hb hr s hv hu
      · exact def_plain hcall hdraw hfn hb hr s hv hu

theorem leave_sound (hcall : CallOk P call) (hdraw : DrawOk P draw) {n : Nat} {fn : Func} {tm : Tm} {ts : Array Value} {Sb : SM} {mb : BM} : ∀ {ds : List DI} {u : Md} {h : AHeap} {r : CRes} {h' : AHeap}, leaveA P call draw n fn tm ds u h = some (r, h') →
    ∀ {S : SM} {m : BM} {w : World} {dl : List Deferred} {uu : FrameMode}, Sb.le S → mb.le m → Sim n₀ w₀ S₀ S m h w → TR S m tm ts → DR S m ds dl → mdR S m u uu → LeavesInM (FW none) 0 P fn ts (CQ n₀ w₀ S₀ Sb mb r h') dl uu w
  | [], .ret, h, r, h', hr, S, m, w, dl, uu, hS, hm, s, hv, hd, hu => by
    unfold leaveA at hr
    cases hx : retA P fn tm h with
    | none => simp [hx] at hr
    | some v =>
      simp [hx] at hr
      obtain ⟨rfl, rfl⟩ := hr
      change dl = [] at hd; subst hd
      change uu = .returning at hu; subst hu
      obtain ⟨y, g1, g2⟩ := ret_sound s hv hx
      exact ⟨y, g1, S, m, hS, hm, s, y, rfl, g2⟩
  | [], .pan v false, h, r, h', hr, S, m, w, dl, uu, hS, hm, s, hv, hd, hu => by
    unfold leaveA at hr; cases hr
    change dl = [] at hd; subst hd
    obtain ⟨y, rfl, hy⟩ := hu
    exact ⟨S, m, hS, hm, s, y, rfl, hy⟩
  | [], .pan v true, h, r, h', hr, S, m, w, dl, uu, hS, hm, s, hv, hd, hu => by unfold leaveA at hr; cases hr
  | .col b :: ds, u, h, r, h', hr, S, m, w, dl, uu, hS, hm, s, hv, hd, hu => by
    unfold leaveA at hr
    split at hr
    · rename_i hb
      obtain ⟨d, ds', B, K, rfl, e1, e2, e3⟩ := hd
      obtain ⟨B', K', a1, a2, a3, a5, a6⟩ := s.blk _ _ hb
      rw [e2] at a1; cases a1
      have huu : uu ≠ .run := fun e => by
        cases u with
        | ret => change uu = .returning at hu; rw [hu] at e; cases e
        | pan v r => obtain ⟨y, e', _⟩ := hu; rw [e'] at e; cases e
      have s' := s.turn hb rfl e2 .dead (.deferred none) (fun _ h => by cases h) trivial
      exact ⟨huu, .inl ⟨B, _, e1, run_takeDeferred a3, leave_sound hcall hdraw hr hS hm s' hv e3 hu⟩⟩
    · cases hr
  | .fn f args :: ds, u, h, r, h', hr, S, m, w, dl, uu, hS, hm, s, hv, hd, hu => by
    unfold leaveA at hr
    split at hr
    · cases hr
    rename_i hok0
    split at hr
    · rename_i u' h'' hdf
      obtain ⟨d, ds', cap, rfl, e1, e2, e3⟩ := hd
      obtain ⟨target, dargs⟩ := d
      simp only at e1; subst e1
      have huu : uu ≠ .run := fun e => by
        cases u with
        | ret => change uu = .returning at hu; rw [hu] at e; cases e
        | pan v r => obtain ⟨y, e', _⟩ := hu; rw [e'] at e; cases e
      have hok : fnOk P f = true := by simpa using hok0
      refine ⟨huu, .inr ⟨fun h => (by cases h), .func f, cap, f, dargs ++ cap, rfl, ?_, fun _ _ => trivial, ?_⟩⟩
      · unfold fnOk at hok
        split at hok
        · rename_i fn' hfn
          simp only [Bool.and_eq_true, Bool.not_eq_true', beq_eq_false_iff_ne, ne_eq] at hok
          obtain ⟨k1, k2⟩ := hok
          simp [invoke, callFunc, hfn, k1]
          intro hbn; simp [hbn] at k2
        · cases hok
      · refine (def_sound hcall hdraw hdf s e2 hu).mono fun e u₃ w' hq => ?_
        obtain ⟨⟨x, rfl⟩, S', m', h1, h2, h3, h4⟩ := hq
        exact leave_sound hcall hdraw hr (SM.le_trans hS h1) (BM.le_trans hm h2) h3 (hv.mono h1 h2) (e3.mono h1 h2) h4.settle
    · cases hr

theorem body_sound (hcall : CallOk P call) (hdraw : DrawOk P draw) {n : Nat} {f : FuncId} {args : List AV} {vs : Array Value} {h h' : AHeap} {r : CRes} (hr : bodyA P call draw n f args h = some (r, h'))
    (s : Sim n₀ w₀ S₀ S m h w) (hv : VRs S m args vs.toList) : Calls P f vs w (CQ n₀ w₀ S₀ S m r h') := by
  unfold bodyA at hr
  split at hr
  · cases hr
  · rename_i fn hfn
    split at hr
    · cases hr
    · rename_i c hb
      have hwp := fun {out : Ex × St} (he : evalC P call draw n c ⟨startT fn args, h, []⟩ = some out) => evalC_sound (r := none) (n₀ := n₀) (w₀ := w₀) (S₀ := S₀) hcall hdraw n c he (a := { tmps := vs ++ Array.replicate (fn.ntmps - vs.size) Go.undef, defers := [] }) ⟨s, start_sound hv, rfl⟩ (.inl rfl)
      refine (callsIn_wide (n := 0)).1 (callsIn_of_wp_marks hfn hb trivial ?_)
      split at hr
      · rename_i st he
        refine wpIn_mono (hwp he) fun e a w' hq => ?_
        obtain ⟨S', m', h1, h2, f', hx⟩ := hq
        change e = .normal at hx; subst hx
        exact leave_sound hcall hdraw hr h1 h2 f'.sim f'.tm f'.df rfl
      · rename_i st he
        refine wpIn_mono (hwp he) fun e a w' hq => ?_
        obtain ⟨S', m', h1, h2, f', hx⟩ := hq
        change e = .ret at hx; subst hx
        exact leave_sound hcall hdraw hr h1 h2 f'.sim f'.tm f'.df rfl
      · rename_i v st he
        refine wpIn_mono (hwp he) fun e a w' hq => ?_
        obtain ⟨S', m', h1, h2, f', u, rfl, hu⟩ := hq
        exact leave_sound hcall hdraw hr h1 h2 f'.sim f'.tm f'.df ⟨u, rfl, hu⟩
      · cases hr

theorem setP_sound : ∀ (ps : List Tmp) {args : List AV} {tm : Tm} {vs : List Value} {ts : Array Value}, VRs S m args vs → TR S m tm ts →
    TR S m ((ps.zip args).foldl (fun l p => Tm.set l p.1 p.2) tm) ((ps.zip vs).foldl (fun t p => t.setIfInBounds p.1 p.2) ts)
  | [], _, _, _, _, _, ht => by simpa using ht
  | p :: ps, [], tm, vs, ts, ha, ht => by unfold VRs at ha; subst ha; simpa using ht
  | p :: ps, x :: args, tm, vs, ts, ha, ht => by
    unfold VRs at ha
    obtain ⟨v, vs', rfl, hx, ha⟩ := ha
    simp only [List.zip_cons_cons, List.foldl_cons]
    exact setP_sound ps ha (ht.set p hx)

theorem yield_sound (hcall : CallOk P call) (hdraw : DrawOk P draw) {n b : Nat} {args : List AV} {vs : Array Value} {h h' : AHeap} {r : CRes} {B K : Nat} (hr : yieldA P call draw n b args h = some (r, h'))
    (hB : m b 0 = some (B, K)) (s : Sim n₀ w₀ S₀ S m h w) (hv : VRs S m args vs.toList) :
    ∃ fn tmps assign body, (Instr.yield B vs).run P w = .ok (.round B fn tmps assign body) w ∧ ∀ rd, RoundIn (FW rd) 0 P B fn tmps assign body w (CQ n₀ w₀ S₀ S m r h') := by
  unfold yieldA at hr
  split at hr
  · rename_i tms ps asg body db hb
    split at hr
    · rename_i hc
      obtain ⟨c1, c2, c3⟩ := hc
      obtain ⟨B', K', D, fn, ts, a1, a2, a3, a4, a5, a6⟩ := s.blk _ _ hb
      rw [hB] at a1; cases a1
      have hl := hv.length
      refine ⟨fn, _, asg, body, run_yield a3 (by simpa using (show vs.size = ps.size by simp at hl; omega)), fun rd => roundIn_of_wpIn trivial ?_⟩
      split at hr
      · rename_i st1 h1
        split at hr
        · rename_i tms1 ps1 asg1 body1 db1 hb1
          split at hr
          · rename_i st2 h2
            split at hr
            · rename_i bz tms2 ps2 asg2 body2 db2 hb2
              cases hr
              have f0 : FR n₀ w₀ S₀ S m ⟨(ps.toList.zip args).foldl (fun l p => Tm.set l p.1 p.2) tms, h, []⟩ { tmps := (ps.zip vs).foldl (fun t (p, v) => t.setIfInBounds p v) ts, defers := [] } w := by
                refine ⟨s, ?_, rfl⟩
                have := setP_sound ps.toList hv a4
                rw [← Array.foldl_toList, Array.toList_zip]
                exact this
              refine wpIn_mono (evalC_sound (r := some B) hcall hdraw n asg h1 f0 (.inr c2)) fun e a1' w1 hq => ?_
              obtain ⟨S1, m1, g1, g2, f1, he⟩ := hq
              change e = .normal at he; subst he
              obtain ⟨B1, K1, D1, fn1, ts1, q1, q2, q3, q4, q5, q6⟩ := f1.sim.blk _ _ hb1
              have hB1 := g2 _ _ _ hB
              rw [hB1] at q1; cases q1
              have s1 := f1.sim.turn hb1 rfl hB1 (.loop true tms1 ps1 asg1 body1 db1) (.loop { state := .busy, pending := none, fn := fn1, tmps := ts1, params := ps1, assign := asg1, body := body1, defers := D1 }) (fun v hv => by cases hv; rfl)
                ⟨B, K, D1, fn1, ts1, hB1, q2, by simp only [if_true]; exact World.putObj_heap_same (Array.getElem?_eq_some_iff.1 q3).1, q4, q5, q6⟩
              refine ⟨_, run_beginRound q3 rfl, ?_⟩
              refine wpIn_mono (evalC_sound (r := some B) hcall hdraw n body h2 ⟨s1, f1.tm, f1.df⟩ (.inr c3)) fun e a2' w2 hq => ?_
              obtain ⟨S2, m2, j1, j2, f2, he⟩ := hq
              change e = .normal at he; subst he
              obtain ⟨B2, K2, D2, fn2, ts2, r1, r2, r3, r4, r5, r6⟩ := f2.sim.blk _ _ hb2
              have hB2 := j2 _ _ _ hB1
              rw [hB2] at r1; cases r1
              have s2 := f2.sim.turn hb2 rfl hB2 (.loop false tms2 ps2 asg2 body2 db2) (.loop { state := .ready, pending := none, fn := fn2, tmps := ts2, params := ps2, assign := asg2, body := body2, defers := D2 }) (fun v hv => by cases hv; rfl)
                ⟨B, K, D2, fn2, ts2, hB2, r2, by simp only [Bool.false_eq_true, if_false]; exact World.putObj_heap_same (Array.getElem?_eq_some_iff.1 r3).1, r4, r5, r6⟩
              exact ⟨.bool true, _, run_endRound none r3, S2, m2, SM.le_trans g1 j1, BM.le_trans g2 j2, s2, .bool true, rfl, by unfold VR; rfl⟩
            · cases hr
          · cases hr
        · cases hr
      · cases hr
    · cases hr
  · cases hr
end
end Go.Abs
