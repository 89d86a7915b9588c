/- Statements and calls of the small machine stand for the program's. -/
import Derived.Test.YtfddiediieblhaaAbsK
import Derived.Recover
import Derived.RangeFuncCalls
import Derived.RangeFuncLeaves
import Derived.RecoverIn
import Derived.LoopNIn
import Derived.OrdersIn
set_option linter.unusedVariables false
set_option linter.unusedSimpArgs false
namespace Go.Abs

/-- Deferred calls that stand for deferred calls. -/
def DR (S : SM) (m : BM) : List DI → List Deferred → Prop
  | [], ds => ds = []
  | .fn f args :: r, ds => ∃ d ds' cap, ds = d :: ds' ∧ d.target = .fn (.func f) cap ∧ VRs S m args (d.args ++ cap).toList ∧ DR S m r ds'
  | .col b :: r, ds => ∃ d ds' B K, ds = d :: ds' ∧ d.target = .collected B ∧ m b 0 = some (B, K) ∧ DR S m r ds'

theorem DR.mono {S S' : SM} {m m' : BM} (hS : S.le S') (hm : m.le m') : ∀ (l : List DI) {ds : List Deferred}, DR S m l ds → DR S' m' l ds
  | [], _, h => h
  | .fn f args :: r, _, h => by
    obtain ⟨d, ds', cap, h1, h2, h3, h4⟩ := h
    exact ⟨d, ds', cap, h1, h2, h3.mono hS hm, DR.mono hS hm r h4⟩
  | .col b :: r, _, h => by
    obtain ⟨d, ds', B, K, h1, h2, h3, h4⟩ := h
    exact ⟨d, ds', B, K, h1, h2, hm _ _ _ h3, DR.mono hS hm r h4⟩

def exR (S : SM) (m : BM) : Ex → Exit → Prop
  | .norm, e => e = .normal
  | .exit id, e => e = .exit id
  | .ret, e => e = .ret
  | .pan v, e => ∃ u, e = .panic [{ v := u, recovered := false }] ∧ VR S m v u

/-- The state of a frame. -/
structure FR (n₀ : Nat) (w₀ : World) (S₀ S : SM) (m : BM) (st : St) (a : Act) (w : World) : Prop where
  sim : Sim n₀ w₀ S₀ S m st.h w
  tm : TR S m st.tm a.tmps
  df : DR S m st.df a.defers

def QR (n₀ : Nat) (w₀ : World) (S₀ S : SM) (m : BM) (out : Ex × St) : Exit → Act → World → Prop := fun e a w =>
  ∃ S' m', S.le S' ∧ m.le m' ∧ FR n₀ w₀ S₀ S' m' out.2 a w ∧ exR S' m' out.1 e

def CRes.R (S : SM) (m : BM) : CRes → Ending → Prop
  | .ret v, e => ∃ u, e = .returned u ∧ VR S m v u
  | .pan v, e => ∃ u, e = .panicked [{ v := u, recovered := false }] ∧ VR S m v u

def CQ (n₀ : Nat) (w₀ : World) (S₀ S : SM) (m : BM) (r : CRes) (h' : AHeap) : Ending → World → Prop := fun e w' =>
  ∃ S' m', S.le S' ∧ m.le m' ∧ Sim n₀ w₀ S₀ S' m' h' w' ∧ r.R S' m' e

/-- All functions, from a round or not. -/
abbrev FW (r : Option Nat) : Fence := { Fence.wide with round := r }

theorem calls_in {P : Program} {f : FuncId} {vs : Array Value} {w : World} {R : Ending → World → Prop} (h : Calls P f vs w R) : ∀ (r : Option Nat), CallsIn (FW r) 0 P f vs w R
  | none => callsIn_wide.2 h
  | some l => CallsIn.inRound l (callsIn_wide (n := 0).2 h)

def CallOk (P : Program) (call : CallF) : Prop :=
  (∀ f args h r h', call f args h = some (r, h') → f < P.funcs.size → ∀ n₀ w₀ S₀ S m w (vs : Array Value), Sim n₀ w₀ S₀ S m h w → VRs S m args vs.toList →
    Calls P f vs w (CQ n₀ w₀ S₀ S m r h')) ∧
  (∀ b args h r h', call (P.funcs.size + b) args h = some (r, h') → ∀ n₀ w₀ S₀ S m w (vs : Array Value) B K, m b 0 = some (B, K) → Sim n₀ w₀ S₀ S m h w → VRs S m args vs.toList →
    ∃ fn tmps assign body, (Instr.yield B vs).run P w = .ok (.round B fn tmps assign body) w ∧ ∀ rd, RoundIn (FW rd) 0 P B fn tmps assign body w (CQ n₀ w₀ S₀ S m r h'))

def DrawOk (P : Program) (draw : Array Oper → St → Option (Ex × St)) : Prop := ∀ id ops st out, draw ops st = some out → ∀ r, (r = none ∨ ops.toList.all calmO = true) → ∀ n₀ w₀ S₀ S m a w, FR n₀ w₀ S₀ S m st a w →
  (Code.region id ops true).wpIn (FW r) 0 P (QR n₀ w₀ S₀ S m out) a w

section
variable {P : Program} {n₀ : Nat} {w₀ : World} {S₀ S : SM} {m : BM} {w : World} {call : CallF} {draw : Array Oper → St → Option (Ex × St)} {r : Option Nat}

theorem QR.up {S' : SM} {m' : BM} (hS : S.le S') (hm : m.le m') {out : Ex × St} {e : Exit} {a : Act} (h : QR n₀ w₀ S₀ S' m' out e a w) : QR n₀ w₀ S₀ S m out e a w := by
  obtain ⟨S'', m'', h1, h2, h3, h4⟩ := h
  exact ⟨S'', m'', SM.le_trans hS h1, BM.le_trans hm h2, h3, h4⟩

theorem undefR : VR S m (.tup []) Go.undef := by unfold VR; exact ⟨#[], rfl, by unfold VRs; rfl⟩

theorem getD_sound {tm : Tm} {ts : Array Value} (h : TR S m tm ts) (t : Nat) : VR S m (tm.get t) (ts.getD t Go.undef) := h.2 t

theorem ev_sound {tm : Tm} {a : Act} (h : TR S m tm a.tmps) (x : Operand) (v : AV) (hx : ev tm x = some v) : VR S m v (a.eval x) := by
  cases x with
  | tmp t => simp only [ev, Option.some.injEq] at hx; subst hx; exact getD_sound h t
  | const c => exact ofV_sound hx
  | global g => cases hx
  | func f =>
    simp only [ev, Option.some.injEq] at hx; subst hx
    show VR S m _ (.func (.func f) #[] #[])
    unfold VR
    exact ⟨#[], #[], ⟨_, rfl, rfl⟩, by unfold VRs; rfl, by unfold VRs; rfl⟩

theorem put_sound {tm : Tm} {a : Act} (h : TR S m tm a.tmps) (dst : Option Tmp) {x : AV} {v : Value} (hx : VR S m x v) : TR S m (putT tm dst x) (a.put dst v).tmps := by
  cases dst with
  | none => exact h
  | some d => exact h.set d hx

theorem put_defers (a : Act) (dst : Option Tmp) (v : Value) : (a.put dst v).defers = a.defers := by cases dst <;> rfl

theorem FR.put {S' : SM} {m' : BM} {st : St} {a : Act} (f : FR n₀ w₀ S₀ S m st a w) (hS : S.le S') (hm : m.le m') {h' : AHeap} {w' : World} (s' : Sim n₀ w₀ S₀ S' m' h' w') (dst : Option Tmp) {x : AV} {v : Value} (hx : VR S' m' x v) :
    FR n₀ w₀ S₀ S' m' ⟨putT st.tm dst x, h', st.df⟩ (a.put dst v) w' :=
  ⟨s', put_sound (f.tm.mono hS hm) dst hx, by rw [put_defers]; exact f.df.mono hS hm⟩

theorem guard_ok {ops : Array Oper} {o : Oper} {tm : Tm} {ts : Array Value} {b : Bool} (h : TR S m tm ts) (hg : guardOf ops o tm = some b) : Region.wanted o (yielded ops ts) = b := by
  unfold guardOf at hg
  unfold Region.wanted
  cases ho : o.guard with
  | none => rw [ho] at hg; cases hg; rfl
  | some p =>
    obtain ⟨j, want⟩ := p
    rw [ho] at hg
    simp only at hg ⊢
    unfold yielded
    cases hd : (ops[j]?).bind (·.dst) with
    | none => simp [hd] at hg
    | some d =>
      simp only [hd] at hg
      have hv := h.2 d
      split at hg
      · rename_i c hc
        cases hg
        rw [hc] at hv
        unfold VR at hv
        have hlt : d < ts.size := by
          rcases Nat.lt_or_ge d ts.size with q | q
          · exact q
          · rw [show ts.getD d (.tuple #[]) = .tuple #[] by simp [Array.getD, Nat.not_lt.2 q]] at hv; cases hv
        have g1' : ts[d]? = some (.bool c) := by
          rw [Array.getElem?_eq_getElem hlt]
          simp only [Array.getD, hlt, dif_pos] at hv
          exact congrArg some hv
        simp only [Option.bind_some, g1']
        cases c <;> cases want <;> rfl
      · rename_i hc
        cases hg
        rw [hc] at hv
        unfold VR at hv
        obtain ⟨vs, e, g3⟩ := hv
        rcases Nat.lt_or_ge d ts.size with q | q
        · have g1' : ts[d]? = some (.tuple vs) := by
            rw [Array.getElem?_eq_getElem q]
            simp only [Array.getD, q, dif_pos] at e
            exact congrArg some e
          simp only [Option.bind_some, g1']
          rfl
        · rw [Option.bind_some, Array.getElem?_eq_none q]; rfl
      · cases hg

/-- One operation, whatever follows. -/
theorem step_sound (hcall : CallOk P call) {o : Oper} {st : St} {out : Ex × St} (hs : stepA P call o st = some out) {a : Act} (f : FR n₀ w₀ S₀ S m st a w)
    {next : Act → World → Prop} {Q : Exit → Act → World → Prop} (hn : ∀ S' m' st' a' w', out = (.norm, st') → S.le S' → m.le m' → FR n₀ w₀ S₀ S' m' st' a' w' → next a' w')
    (hp : ∀ S' m' v st' u w', out = (.pan v, st') → S.le S' → m.le m' → FR n₀ w₀ S₀ S' m' st' a w' → VR S' m' v u → Q (.panic [{ v := u, recovered := false }]) a w') (hcalm : r = none ∨ calmO o = true) : o.wpIn (FW r) 0 P a w next Q := by
  refine ⟨fun _ _ => trivial, ?_⟩
  have hsem : o.semAt (FW r).round a.eval = execOp a.eval o := by
    rcases hcalm with rfl | hc
    · rfl
    · exact Oper.semAt_eq _ _ _ fun c e => by simp [calmO, e] at hc
  rw [hsem]
  have hρ := fun x v hx => ev_sound f.tm x v hx
  unfold stepA at hs
  split at hs
  · rename_i c hop
    split at hs
    · rename_i d hd
      cases hs
      unfold dfr at hd
      split at hd
      · rename_i fo args hc ha
        split at hd
        · rename_i g x y hx
          split at hd
          · rename_i hok
            cases hd
            have va := mapM_sound hρ ha
            have vx := hρ _ _ hx
            unfold VR at vx
            obtain ⟨x', y', ⟨f', e, hf'⟩, h1, h2⟩ := vx
            have hf'' := (fnR_plain rfl).1 hf'; subst hf''
            have hrun : (execOp a.eval o).run P w = .ok (.defer { target := .fn (.func g) y', args := x' ++ c.args.map a.eval }) w := by
              simp [execOp, hop, resolve, hc, e, Deferred.ofValue]
            rw [hrun]
            refine hn S m _ _ w rfl (SM.le_refl _) (BM.le_refl _) ⟨f.sim, put_sound (a := { a with defers := { target := .fn (.func g) y', args := x' ++ c.args.map a.eval } :: a.defers }) f.tm o.dst undefR, ?_⟩
            rw [put_defers]
            exact ⟨_, _, _, rfl, rfl, by simpa using (h1.append va).append h2, f.df⟩
          · cases hd
        · cases hd
      · cases hd
    · cases hs
  · rename_i x hop
    split at hs
    · rename_i t v hx
      cases hs
      have vx := hρ _ _ hx
      have h0 := vx
      unfold VR at h0
      obtain ⟨u, e, hu⟩ := h0
      have hrun : (execOp a.eval o).run P w = .halt (.panic (.iface t u)) w := by
        simp [execOp, hop, e, Instr.panic]
      rw [hrun]
      rw [e] at vx
      exact hp S m _ _ _ w rfl (SM.le_refl _) (BM.le_refl _) f vx
    · cases hs
  · split at hs
    · rename_i v hv
      cases hs
      obtain ⟨nx, u, w', S', m', e1, e2, e3, e4, e5, e6⟩ := exOp_sound (P := P) f.sim hρ hv
      rw [e1]
      rcases e2 with rfl | ⟨rfl, rfl⟩
      · exact hn S' m' _ _ w' rfl e3 e4 (f.put e3 e4 e6 o.dst e5)
      · exact hn S' m' _ _ w' rfl e3 e4 (f.put e3 e4 e6 o.dst e5)
    · rename_i v h' hv
      cases hs
      obtain ⟨nx, u, w', S', m', e1, e2, e3, e4, e5, e6⟩ := exOp_sound (P := P) f.sim hρ hv
      rw [e1]
      rcases e2 with rfl | ⟨rfl, rfl⟩
      · exact hn S' m' _ _ w' rfl e3 e4 (f.put e3 e4 e6 o.dst e5)
      · exact hn S' m' _ _ w' rfl e3 e4 (f.put e3 e4 e6 o.dst e5)
    · rename_i g args hv
      obtain ⟨vs, e1, e2⟩ := exOp_sound (P := P) f.sim hρ hv
      have key : ∀ rr h', call g args st.h = some (rr, h') → (∀ e w', CQ n₀ w₀ S₀ S m rr h' e w' → (match e with | .returned v => next (a.put o.dst v) w' | .panicked chain => Q (.panic chain) a w' | .outgrown => LetsOut Q)) →
          o.uponIn (FW r) 0 P a next Q ((execOp a.eval o).run P w) := fun rr h' hc hq => by
        rcases e1 with ⟨hlt, e1⟩ | ⟨b, B, K, rfl, hB, e1⟩
        · rw [e1]
          exact ⟨fun h => (by cases h), (calls_in (hcall.1 g args _ _ _ hc hlt _ _ _ _ _ _ vs f.sim e2) r).mono fun e w' he => by have := hq e w' he; cases e <;> exact this⟩
        · rw [e1]
          obtain ⟨fn, ts, asg, body, e3, e4⟩ := hcall.2 b args _ _ _ hc _ _ _ _ _ _ vs B K hB f.sim e2
          rw [e3]
          exact ⟨fun h => (by cases h), (e4 r).mono fun e w' he => by have := hq e w' he; cases e <;> exact this⟩
      split at hs
      · rename_i v h' hc
        cases hs
        refine key _ _ hc fun e w' he => ?_
        obtain ⟨S', m', g1, g2, g3, u, rfl, g4⟩ := he
        exact hn S' m' _ _ w' rfl g1 g2 (f.put g1 g2 g3 o.dst g4)
      · rename_i v h' hc
        cases hs
        refine key _ _ hc fun e w' he => ?_
        obtain ⟨S', m', g1, g2, g3, u, rfl, g4⟩ := he
        exact hp S' m' _ _ _ w' rfl g1 g2 ⟨g3, f.tm.mono g1 g2, f.df.mono g1 g2⟩ g4
      · cases hs
    · cases hs

theorem runOps_sound (hcall : CallOk P call) {ops : Array Oper} {Sb : SM} {mb : BM} : ∀ {l : List Oper} {st : St} {out : Ex × St}, runOps P call ops l st = some out → ∀ {S : SM} {m : BM} {a : Act} {w : World}, Sb.le S → mb.le m → FR n₀ w₀ S₀ S m st a w → (r = none ∨ l.all calmO = true) → ∀ (k : Nat), (∀ j, l[j]? = ops[k + j]?) →
    wpOpsIn (FW r) 0 P ops (QR n₀ w₀ S₀ Sb mb out) (List.range' k l.length) a w
  | [], st, out, hr, S, m, a, w, hS, hm, f, hcm, k, hk => by
    unfold runOps at hr; cases hr
    exact ⟨S, m, hS, hm, f, rfl⟩
  | o :: l, st, out, hr, S, m, a, w, hS, hm, f, hcm, k, hk => by
    have hc1 : r = none ∨ calmO o = true := hcm.imp (fun e => e) fun h => by simp at h; exact h.1
    have hc2 : r = none ∨ l.all calmO = true := hcm.imp (fun e => e) fun h => by simp at h ⊢; exact h.2
    have h0 : ops[k]? = some o := by simpa using (hk 0).symm
    have hk' : ∀ j, l[j]? = ops[k + 1 + j]? := fun j => by have := hk (j + 1); simpa [Nat.add_assoc, Nat.add_comm 1 j] using this
    simp only [List.length_cons, List.range'_succ, wpOpsIn, h0]
    unfold runOps at hr
    split at hr
    · rename_i hg
      rw [guard_ok f.tm hg, if_pos rfl]
      split at hr
      · rename_i st' hst
        refine step_sound hcall hst f (fun S' m' st'' a' w' e h1 h2 f' => ?_) (fun S' m' v st'' u w' e => by cases e) hc1
        cases e
        exact runOps_sound hcall hr (SM.le_trans hS h1) (BM.le_trans hm h2) f' hc2 (k + 1) hk'
      · rename_i hnn
        refine step_sound hcall hr f (fun S' m' st'' a' w' e h1 h2 f' => by subst e; exact (hnn _ hr).elim) (fun S' m' v st'' u w' e h1 h2 f' hu => ?_) hc1
        subst e
        exact ⟨S', m', SM.le_trans hS h1, BM.le_trans hm h2, f', u, rfl, hu⟩
    · rename_i hg
      rw [guard_ok f.tm hg]
      simp only [Bool.false_eq_true, if_false]
      have f' : FR n₀ w₀ S₀ S m ⟨putT st.tm o.dst (.tup []), st.h, st.df⟩ (a.put o.dst Go.undef) w := f.put (SM.le_refl _) (BM.le_refl _) f.sim o.dst undefR
      exact ⟨fun _ _ => trivial, runOps_sound hcall hr hS hm f' hc2 (k + 1) hk'⟩
    · cases hr

theorem loop_sound {c : Code} {ev : St → Option (Ex × St)} (hc : ∀ {st : St} {out : Ex × St}, ev st = some out → ∀ {S : SM} {m : BM} {a : Act} {w : World}, FR n₀ w₀ S₀ S m st a w → c.wpIn (FW r) 0 P (QR n₀ w₀ S₀ S m out) a w) {Sb : SM} {mb : BM} :
    ∀ (k : Nat) {st : St} {out : Ex × St}, loopN ev k st = some out → ∀ {S : SM} {m : BM} {a : Act} {w : World}, Sb.le S → mb.le m → FR n₀ w₀ S₀ S m st a w → Code.roundsIn (FW r) 0 P c (QR n₀ w₀ S₀ Sb mb out) k a w
  | 0, st, out, hr, S, m, a, w, hS, hm, f => by unfold loopN at hr; cases hr
  | k + 1, st, out, hr, S, m, a, w, hS, hm, f => by
    unfold loopN at hr
    rw [roundsIn_succ]
    split at hr
    · rename_i st' hx
      refine wpIn_mono (hc hx f) fun e a' w' hq => ?_
      obtain ⟨S', m', h1, h2, f', he⟩ := hq
      change e = .normal at he; subst he
      exact loop_sound hc k hr (SM.le_trans hS h1) (BM.le_trans hm h2) f'
    · rename_i hnn
      refine wpIn_mono (hc hr f) fun e a' w' hq => ?_
      obtain ⟨S', m', h1, h2, f', he⟩ := hq
      obtain ⟨ex, st'⟩ := out
      have h1' := SM.le_trans hS h1
      have h2' := BM.le_trans hm h2
      cases ex with
      | norm => exact (hnn st' hr).elim
      | exit id => change e = .exit id at he; subst he; exact ⟨S', m', h1', h2', f', rfl⟩
      | ret => change e = .ret at he; subst he; exact ⟨S', m', h1', h2', f', rfl⟩
      | pan v => obtain ⟨u, he, hv⟩ := he; subst he; exact ⟨S', m', h1', h2', f', u, rfl, hv⟩

theorem evalC_sound (hcall : CallOk P call) (hdraw : DrawOk P draw) (n : Nat) : ∀ (c : Code) {st : St} {out : Ex × St}, evalC P call draw n c st = some out → ∀ {S : SM} {m : BM} {a : Act} {w : World}, FR n₀ w₀ S₀ S m st a w → (r = none ∨ calmC c = true) →
    c.wpIn (FW r) 0 P (QR n₀ w₀ S₀ S m out) a w
  | .skip, st, out, hr, S, m, a, w, f, hcm => by
    unfold evalC at hr; cases hr
    exact wpIn_skip ⟨S, m, SM.le_refl _, BM.le_refl _, f, rfl⟩
  | .region id ops d, st, out, hr, S, m, a, w, f, hcm => by
    unfold evalC at hr
    cases d with
    | true => exact hdraw id ops st out (by simpa using hr) r (by simpa [calmC] using hcm) _ _ _ _ _ _ _ f
    | false =>
      simp only [Bool.false_eq_true, if_false] at hr
      refine wpIn_region ?_
      have := runOps_sound hcall hr (SM.le_refl S) (BM.le_refl m) f (by simpa [calmC] using hcm) 0 (by simp)
      rw [List.range_eq_range']
      simpa using this
  | .seq x y, st, out, hr, S, m, a, w, f, hcm => by
    have hc1 : r = none ∨ calmC x = true := hcm.imp (fun e => e) fun h => by simp [calmC] at h; exact h.1
    have hc2 : r = none ∨ calmC y = true := hcm.imp (fun e => e) fun h => by simp [calmC] at h; exact h.2
    unfold evalC at hr
    refine wpIn_seq ?_
    split at hr
    · rename_i st' hx
      refine wpIn_mono (evalC_sound hcall hdraw n x hx f hc1) fun e a' w' hq => ?_
      obtain ⟨S', m', h1, h2, f', he⟩ := hq
      change e = .normal at he
      subst he
      exact wpIn_mono (evalC_sound hcall hdraw n y hr f' hc2) fun e a'' w'' hq => hq.up h1 h2
    · rename_i hnn
      refine wpIn_mono (evalC_sound hcall hdraw n x hr f hc1) fun e a' w' hq => ?_
      obtain ⟨S', m', h1, h2, f', he⟩ := hq
      obtain ⟨ex, st'⟩ := out
      cases ex with
      | norm => exact (hnn st' hr).elim
      | exit id => change e = .exit id at he; subst he; exact ⟨S', m', h1, h2, f', rfl⟩
      | ret => change e = .ret at he; subst he; exact ⟨S', m', h1, h2, f', rfl⟩
      | pan v => obtain ⟨u, he, hv⟩ := he; subst he; exact ⟨S', m', h1, h2, f', u, rfl, hv⟩
  | .cond c x y, st, out, hr, S, m, a, w, f, hcm => by
    have hc1 : r = none ∨ calmC x = true := hcm.imp (fun e => e) fun h => by simp [calmC] at h; exact h.1
    have hc2 : r = none ∨ calmC y = true := hcm.imp (fun e => e) fun h => by simp [calmC] at h; exact h.2
    unfold evalC at hr
    split at hr
    · rename_i b hb
      have hv := ev_sound f.tm _ _ hb
      unfold VR at hv
      refine wpIn_cond hv ?_
      cases b with
      | true => exact evalC_sound hcall hdraw n x (by simpa using hr) f hc1
      | false => exact evalC_sound hcall hdraw n y (by simpa using hr) f hc2
    · cases hr
  | .block id c, st, out, hr, S, m, a, w, f, hcm => by
    have hc1 : r = none ∨ calmC c = true := hcm.imp (fun e => e) fun h => by simpa [calmC] using h
    unfold evalC at hr
    refine wpIn_block ?_
    split at hr
    · rename_i i st' hx
      refine wpIn_mono (evalC_sound hcall hdraw n c hx f hc1) fun e a' w' hq => ?_
      obtain ⟨S', m', h1, h2, f', he⟩ := hq
      change e = .exit i at he; subst he
      simp only [Exit.inBlock]
      split at hr
      · rename_i e; cases hr; rw [if_pos e]; exact ⟨S', m', h1, h2, f', rfl⟩
      · rename_i e; cases hr; rw [if_neg e]; exact ⟨S', m', h1, h2, f', rfl⟩
    · rename_i hnn
      refine wpIn_mono (evalC_sound hcall hdraw n c hr f hc1) fun e a' w' hq => ?_
      obtain ⟨S', m', h1, h2, f', he⟩ := hq
      obtain ⟨ex, st'⟩ := out
      cases ex with
      | norm => change e = .normal at he; subst he; exact ⟨S', m', h1, h2, f', rfl⟩
      | exit id => exact (hnn _ _ hr).elim
      | ret => change e = .ret at he; subst he; exact ⟨S', m', h1, h2, f', rfl⟩
      | pan v => obtain ⟨u, he, hv⟩ := he; subst he; exact ⟨S', m', h1, h2, f', u, rfl, hv⟩
  | .loop c, st, out, hr, S, m, a, w, f, hcm => by
    have hc1 : r = none ∨ calmC c = true := hcm.imp (fun e => e) fun h => by simpa [calmC] using h
    unfold evalC at hr
    have hc := fun {st : St} {out : Ex × St} (h : evalC P call draw n c st = some out) {S : SM} {m : BM} {a : Act} {w : World} (f : FR n₀ w₀ S₀ S m st a w) => evalC_sound hcall hdraw n c h f hc1
    exact wpIn_loop_rounds n (loop_sound hc n hr (SM.le_refl S) (BM.le_refl m) f)
  | .exit id, st, out, hr, S, m, a, w, f, hcm => by
    unfold evalC at hr; cases hr
    exact wpIn_exit ⟨S, m, SM.le_refl _, BM.le_refl _, f, rfl⟩
  | .ret, st, out, hr, S, m, a, w, f, hcm => by
    unfold evalC at hr; cases hr
    exact wpIn_ret ⟨S, m, SM.le_refl _, BM.le_refl _, f, rfl⟩
  | .rangeFunc g ps asg body, st, out, hr, S, m, a, w, f, hcm => by
    have hr0 : r = none := hcm.resolve_right (by simp [calmC])
    subst hr0
    unfold evalC at hr
    split at hr
    · rename_i gf x lb hg
      split at hr
      · rename_i hok
        have vg := ev_sound f.tm _ _ hg
        unfold VR at vg
        obtain ⟨x', y', ⟨f', e, hf'⟩, h1, h2⟩ := vg
        have hf'' := (fnR_plain rfl).1 hf'; subst hf''
        refine wpIn_rangeFunc fun fn _ => ?_
        obtain ⟨k1, s1⟩ := f.sim.push .dfd (.deferred (some [])) 0 rfl ⟨w.heap.size, 0, BM.put_eq _ _ _ _, f.sim.size, by simp, f.sim.none (Nat.le_refl _), fun v hv => by
          rw [BM.put_ne' _ _ (by omega)]
          cases e : m st.h.length v with
          | none => rfl
          | some x => exact absurd (f.sim.lt _ _ _ e) (by omega)⟩
        have hl1 : (st.h ++ [AB.dfd]).length = st.h.length + 1 := by simp
        have hw1 : (w.alloc (.deferred (some []))).heap.size = w.heap.size + 1 := World.size_alloc _ _
        obtain ⟨k2, s2⟩ := s1.push (.loop false st.tm ps asg body st.h.length) (.loop { state := .ready, pending := none, fn, tmps := a.tmps, params := ps, assign := asg, body, defers := w.heap.size }) 0 rfl
          ⟨_, 0, w.heap.size, fn, a.tmps, BM.put_eq _ _ _ _, s1.size, by simp only [Array.getElem?_push, if_true]; rfl, f.tm.mono (SM.le_refl _) (BM.le_trans k1 (fun b v y hy => by
            have := s1.lt b v y hy
            rw [BM.put_ne _ _ (by omega)]; exact hy)), s1.none (Nat.le_refl _), fun v hv => by
          rw [BM.put_ne' _ _ (by omega)]
          cases e : (m.put st.h.length 0 (w.heap.size, 0)) (st.h ++ [AB.dfd]).length v with
          | none => rfl
          | some x => exact absurd (s1.lt _ _ _ e) (by omega)⟩
        have k12 := BM.le_trans k1 k2
        obtain ⟨w2, hw2⟩ : ∃ w2, (w.alloc (.deferred (some []))).alloc (.loop { state := .ready, pending := none, fn, tmps := a.tmps, params := ps, assign := asg, body, defers := w.heap.size }) = w2 := ⟨_, rfl⟩
        have s2' : Sim n₀ w₀ S₀ S ((m.put st.h.length 0 (w.heap.size, 0)).put (st.h ++ [AB.dfd]).length 0 ((w.alloc (.deferred (some []))).heap.size, 0)) ((st.h ++ [.dfd]) ++ [.loop false st.tm ps asg body st.h.length]) w2 := hw2 ▸ s2
        refine ⟨w.heap.size + 1, [{ target := .collected w.heap.size, args := #[] }], w2, { target := .fn (.func gf) y', args := x' ++ #[.func (.yield (w.heap.size + 1)) #[] #[]] }, w2, gf, x' ++ #[.func (.yield (w.heap.size + 1)) #[] #[]] ++ y', w2, ?_, ?_, ?_, ?_, ?_, ?_⟩
        · rw [← hw2]; exact run_enterLoop_outer fn a.tmps ps asg body
        · have hc0 : a.eval (.const (Value.func (.yield (w.heap.size + 1)) #[] #[])) = Value.func (.yield (w.heap.size + 1)) #[] #[] := rfl
          simp [resolve, rangeCall, e, Deferred.ofValue, hc0]
        · exact fun _ _ => trivial
        · simp only [invoke]
          exact fnOk_enter hok _
        · exact fun h => (by cases h)
        · have hy : VRs S ((m.put st.h.length 0 (w.heap.size, 0)).put (st.h ++ [AB.dfd]).length 0 ((w.alloc (.deferred (some []))).heap.size, 0)) (x ++ [.fn (.yield (st.h.length + 1)) [] []] ++ lb) (x' ++ #[Value.func (.yield (w.heap.size + 1)) #[] #[]] ++ y').toList := by
            have hone : VRs S ((m.put st.h.length 0 (w.heap.size, 0)).put (st.h ++ [AB.dfd]).length 0 ((w.alloc (.deferred (some []))).heap.size, 0)) [AV.fn (.yield (st.h.length + 1)) [] []] [Value.func (.yield (w.heap.size + 1)) #[] #[]] := by
              unfold VRs
              refine ⟨_, _, rfl, ?_, by unfold VRs; rfl⟩
              unfold VR
              exact ⟨#[], #[], ⟨_, rfl, w.heap.size + 1, 0, by rw [← hl1, ← hw1]; exact BM.put_eq _ _ _ _, rfl⟩, by unfold VRs; rfl, by unfold VRs; rfl⟩
            simpa using ((h1.mono (SM.le_refl _) k12).append hone).append (h2.mono (SM.le_refl _) k12)
          have post : ∀ rr h', call gf (x ++ [.fn (.yield (st.h.length + 1)) [] []] ++ lb) ((st.h ++ [.dfd]) ++ [.loop false st.tm ps asg body st.h.length]) = some (rr, h') →
              (∀ e w', CQ n₀ w₀ S₀ S ((m.put st.h.length 0 (w.heap.size, 0)).put (st.h ++ [AB.dfd]).length 0 ((w.alloc (.deferred (some []))).heap.size, 0)) rr h' e w' → rangePost (FW none) 0 P (w.heap.size + 1) (QR n₀ w₀ S₀ S m out) { a with defers := [{ target := .collected w.heap.size, args := #[] }] ++ a.defers } e w') →
              CallsIn (FW none) (0 - 1) P gf (x' ++ #[.func (.yield (w.heap.size + 1)) #[] #[]] ++ y') w2 (rangePost (FW none) 0 P (w.heap.size + 1) (QR n₀ w₀ S₀ S m out) { a with defers := [{ target := .collected w.heap.size, args := #[] }] ++ a.defers }) := fun rr h' hc hq =>
            (calls_in (hcall.1 gf _ _ _ _ hc (fnOk_lt hok) _ _ _ _ _ _ _ s2' hy) none).mono hq
          have hmb : ∀ {m' : BM}, ((m.put st.h.length 0 (w.heap.size, 0)).put (st.h ++ [AB.dfd]).length 0 ((w.alloc (.deferred (some []))).heap.size, 0)).le m' → m' st.h.length 0 = some (w.heap.size, 0) ∧ m' (st.h.length + 1) 0 = some (w.heap.size + 1, 0) := fun {m'} hm' => by
            refine ⟨hm' _ _ _ (by rw [BM.put_ne _ _ (by omega)]; exact BM.put_eq _ _ _ _), hm' _ _ _ (by rw [← hl1, ← hw1]; exact BM.put_eq _ _ _ _)⟩
          split at hr
          · rename_i v h' hc
            split at hr
            · rename_i tms2 ps2 asg2 body2 db2 hlp
              cases hr
              refine post _ _ hc fun e w' he => ?_
              obtain ⟨S', m', g1, g2, g3, u, rfl, g4⟩ := he
              obtain ⟨q1, q2⟩ := hmb g2
              obtain ⟨B, K, D, fn2, ts2, a1, a2, a3, a4, a5, a6⟩ := g3.blk _ _ hlp
              rw [q2] at a1; cases a1
              refine ⟨none, _, run_endLoop a3 (by simp), ?_⟩
              have s3 := g3.turn hlp rfl q2 .dead (.loop { state := .exhausted, pending := none, fn := fn2, tmps := ts2, params := ps2, assign := asg2, body := body2, defers := D }) (fun _ h => by cases h) trivial
              exact ⟨S', m', g1, BM.le_trans k12 g2, ⟨s3, f.tm.mono g1 (BM.le_trans k12 g2), ⟨_, _, _, _, rfl, rfl, q1, f.df.mono g1 (BM.le_trans k12 g2)⟩⟩, rfl⟩
            · cases hr
          · rename_i v h' hc
            cases hr
            refine post _ _ hc fun e w' he => ?_
            obtain ⟨S', m', g1, g2, g3, u, rfl, g4⟩ := he
            obtain ⟨q1, q2⟩ := hmb g2
            exact ⟨S', m', g1, BM.le_trans k12 g2, ⟨g3, f.tm.mono g1 (BM.le_trans k12 g2), ⟨_, _, _, _, rfl, rfl, q1, f.df.mono g1 (BM.le_trans k12 g2)⟩⟩, u, rfl, g4⟩
          · cases hr
      · cases hr
    · cases hr
  | .scope _, st, out, hr, S, m, a, w, f, hcm => by unfold evalC at hr; cases hr
  | .label _, st, out, hr, S, m, a, w, f, hcm => by unfold evalC at hr; cases hr
  | .goto _, st, out, hr, S, m, a, w, f, hcm => by unfold evalC at hr; cases hr
  | .refuse _, st, out, hr, S, m, a, w, f, hcm => by unfold evalC at hr; cases hr

def resOne (ts : Array Value) : ResultVar → Sem Value
  | .tmp t => pure (ts.getD t Go.undef)
  | .cell a t => do loadVar t (← asAddr (ts.getD a Go.undef))

theorem results_eq (fn : Func) (ts : Array Value) : results fn ts = (do let vs ← fn.results.mapM (resOne ts); pure (if h : vs.size = 1 then vs[0] else .tuple vs)) := rfl

theorem res_sound {tm : Tm} {ts : Array Value} {h : AHeap} (s : Sim n₀ w₀ S₀ S m h w) (hv : TR S m tm ts) : ∀ {l : List ResultVar} {vs : List AV}, resA P tm h l = some vs →
    ∃ us : List Value, (l.mapM (resOne ts)).run P w = .ok us w ∧ VRs S m vs us
  | [], vs, hr => by unfold resA at hr; cases hr; exact ⟨[], rfl, by unfold VRs; rfl⟩
  | .tmp t :: r, vs, hr => by
    unfold resA at hr
    cases hx : resA P tm h r with
    | none => simp [hx] at hr
    | some vs' =>
      simp only [hx, Option.map_some, Option.some.injEq] at hr
      subst hr
      obtain ⟨us, h1, h2⟩ := res_sound s hv hx
      refine ⟨ts.getD t Go.undef :: us, ?_, by unfold VRs; exact ⟨_, _, rfl, getD_sound hv t, h2⟩⟩
      rw [List.mapM_cons]
      simp only [Sem.run_bind, resOne, Sem.run_pure, Result.andThen_ok, h1]
  | .cell a t :: r, vs, hr => by
    unfold resA at hr
    split at hr
    · rename_i v vs' hl hx
      cases hr
      obtain ⟨us, h1, h2⟩ := res_sound s hv hx
      obtain ⟨u, g1, g2⟩ := load_sound (P := P) s hl (getD_sound hv a)
      refine ⟨u :: us, ?_, by unfold VRs; exact ⟨_, _, rfl, g2, h2⟩⟩
      have g1' : (resOne ts (.cell a t)).run P w = .ok u w := by
        have h0 := getD_sound hv a
        unfold loadA at hl
        show (do loadVar t (← asAddr (ts.getD a Go.undef)) : Sem Value).run P w = .ok u w
        cases hp : tm.get a <;> rw [hp] at hl <;> simp only at hl <;> first | (cases hl; done) | skip
        all_goals
          rw [hp] at h0
          unfold VR at h0
        · obtain ⟨B, K, _, e⟩ := h0
          rw [e] at g1 ⊢
          simpa [Instr.loadAt, Instr.sureAddr, asAddr] using g1
        · obtain ⟨B, q, e, _⟩ := h0
          rw [e] at g1 ⊢
          simpa [Instr.loadAt, Instr.sureAddr, asAddr] using g1
      rw [List.mapM_cons]
      simp only [Sem.run_bind, g1', Sem.run_pure, Result.andThen_ok, h1]
    · cases hr

theorem ret_sound {fn : Func} {tm : Tm} {ts : Array Value} {h : AHeap} (s : Sim n₀ w₀ S₀ S m h w) (hv : TR S m tm ts) {v : AV} (hr : retA P fn tm h = some v) : ∃ u, (results fn ts).run P w = .ok u w ∧ VR S m v u := by
  unfold retA at hr
  rw [results_eq, Array.mapM_eq_mapM_toList]
  split at hr
  · rename_i v' hx
    cases hr
    obtain ⟨us, h1, h2⟩ := res_sound s hv hx
    unfold VRs at h2
    obtain ⟨u, us', rfl, h3, h4⟩ := h2
    unfold VRs at h4
    subst h4
    refine ⟨u, ?_, h3⟩
    simp only [Sem.run_bind, Sem.run_map, h1, Result.andThen_ok]
    simp
  · rename_i vs hnn hx
    cases hr
    obtain ⟨us, h1, h2⟩ := res_sound s hv hx
    refine ⟨.tuple us.toArray, ?_, by unfold VR; exact ⟨_, rfl, by simpa using h2⟩⟩
    have hl := h2.length
    have hne : ¬ us.toArray.size = 1 := fun e => by
      have e' : vs.length = 1 := by simpa [hl] using e
      match vs, e' with
      | [v], _ => exact hnn v rfl
    simp only [Sem.run_bind, Sem.run_map, h1, Result.andThen_ok, Sem.run_pure]
    rw [dif_neg hne]
  · cases hr
end
end Go.Abs
