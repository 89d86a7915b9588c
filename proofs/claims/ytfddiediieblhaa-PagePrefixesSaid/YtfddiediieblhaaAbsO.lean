/- Calls in memory of their own. -/
import Derived.Test.YtfddiediieblhaaAbsN
set_option linter.unusedVariables false
set_option linter.unusedSimpArgs false
namespace Go.Abs

abbrev DrawF := CallF → Array Oper → St → Option (Ex × St)

def CRes.map? (g : AV → Option AV) : CRes → Option CRes
  | .ret v => (g v).map .ret
  | .pan v => (g v).map .pan

/-- A call that is carried out in memory of its own. -/
noncomputable def pureA (P : Program) (call : CallF) (draw : DrawF) (k : Nat) (f : FuncId) (args : List AV) : Option CRes :=
  match bodyA P call (draw call) k f args [] with
  | some (r, h) => r.map? (frz h 64)
  | none => none

noncomputable def callN (P : Program) (cfg : Cfg) (draw : DrawF) (k : Nat) : Nat → CallF
  | 0 => fun _ _ _ => none
  | n + 1 => fun f args h =>
    if cfg.inl f then (if P.funcs.size ≤ f then yieldA P (callN P cfg draw k n) (draw (callN P cfg draw k n)) k (f - P.funcs.size) args h else bodyA P (callN P cfg draw k n) (draw (callN P cfg draw k n)) k f args h)
    else if pureBs args && decide (f < P.funcs.size) then match cfg.sum f args with
      | some v => some (.ret v, h)
      | none => (pureA P (callN P cfg draw k n) draw k f args).map fun r => (r, h)
    else none

def noBM : BM := fun _ _ => none

def PureCalls (P : Program) (f : FuncId) (args : List AV) (r : CRes) : Prop := ∀ (S : SM) (w : World) (vs : Array Value), (∀ b o v, S b o = some v → w.cell? ⟨b, o, none⟩ = some v) → VRs S noBM args vs.toList →
  Calls P f vs w fun e w' => ∃ S', S.le S' ∧ (∀ b o v, S' b o = some v → w'.cell? ⟨b, o, none⟩ = some v) ∧ (∀ b o v, S' b o = some v → S b o = some v ∨ w.heap.size ≤ b) ∧
    w.heap.size ≤ w'.heap.size ∧ (∀ b, b < w.heap.size → w'.heap[b]? = w.heap[b]?) ∧ Env w w' ∧ r.R S' noBM e

def SumOk (P : Program) (cfg : Cfg) : Prop := ∀ f args v, cfg.sum f args = some v → PureCalls P f args (.ret v)
/-- Calls that do not hang on the caller's memory. -/
def Apart (inl : FuncId → Bool) (call : CallF) : Prop := ∀ f args h r h', inl f = false → call f args h = some (r, h') → h' = h ∧ ∀ h2, call f args h2 = some (r, h2)

theorem callN_apart (P : Program) (cfg : Cfg) (draw : DrawF) (k : Nat) : ∀ n, Apart cfg.inl (callN P cfg draw k n)
  | 0 => fun f args h r h' _ hr => by unfold callN at hr; cases hr
  | n + 1 => fun f args h r h' hi hr => by
    unfold callN at hr ⊢
    simp only [hi, Bool.false_eq_true, if_false] at hr ⊢
    split at hr
    · rename_i hp
      simp only [hp, if_true]
      cases hs : cfg.sum f args with
      | some v => simp only [hs] at hr ⊢; cases hr; exact ⟨rfl, fun _ => rfl⟩
      | none =>
        simp only [hs] at hr ⊢
        cases hpu : pureA P (callN P cfg draw k n) draw k f args with
        | none => simp [hpu] at hr
        | some r' => simp [hpu] at hr ⊢; obtain ⟨rfl, rfl⟩ := hr; exact ⟨rfl, rfl⟩
    · cases hr

def DrawsOk (P : Program) (inl : FuncId → Bool) (draw : DrawF) : Prop := ∀ call, CallOk P call → Apart inl call → DrawOk P (draw call)

section
variable {S : SM} {m m' : BM}
mutual
theorem VR.pure : ∀ (x : AV) {v : Value}, x.pureB = true → VR S m x v → VR S m' x v
  | .undef, _, _, _ => by unfold VR; trivial
  | .bool b, _, _, h => by unfold VR at *; exact h
  | .int k n, _, _, h => by unfold VR at *; exact h
  | .flt k n, _, _, h => by unfold VR at *; exact h
  | .str s, _, _, h => by unfold VR at *; exact h
  | .nilp, _, _, h => by unfold VR at *; exact h
  | .ptr b ver o, _, hp, h => by simp [AV.pureB] at hp
  | .pin cs o, _, hp, h => by unfold VR at *; obtain ⟨B, q, h1, h2⟩ := h; exact ⟨B, q, h1, CR.pure cs (by simpa [AV.pureB] using hp) h2⟩
  | .lst sz xs c0, _, hp, h => by
    unfold VR at *
    obtain ⟨a, cap, h1, h2, h3, h4⟩ := h
    exact ⟨a, cap, h1, h2, h3, fun hne => let ⟨B, q, h5, h6⟩ := h4 hne; ⟨B, q, h5, ER.pure sz xs (by simpa [AV.pureB] using hp) h6⟩⟩
  | .sl sz b ver o len, _, hp, h => by simp [AV.pureB] at hp
  | .mapn, _, _, h => by unfold VR at *; exact h
  | .map b, _, hp, h => by simp [AV.pureB] at hp
  | .fn f x y, _, hp, h => by
    simp [AV.pureB] at hp
    unfold VR at *; obtain ⟨x', y', ⟨f', h1, h4⟩, h2, h3⟩ := h; exact ⟨x', y', ⟨f', h1, (fnR_plain hp.1).2 ((fnR_plain hp.1).1 h4)⟩, VRs.pure x hp.2.1 h2, VRs.pure y hp.2.2 h3⟩
  | .nilf, _, _, h => by unfold VR at *; exact h
  | .ifc t x, _, hp, h => by unfold VR at *; obtain ⟨u, h1, h2⟩ := h; exact ⟨u, h1, VR.pure x (by simpa [AV.pureB] using hp) h2⟩
  | .nili, _, _, h => by unfold VR at *; exact h
  | .agg cs, _, hp, h => by unfold VR at *; obtain ⟨vs, h1, h2⟩ := h; exact ⟨vs, h1, VRs.pure cs (by simpa [AV.pureB] using hp) h2⟩
  | .tup cs, _, hp, h => by unfold VR at *; obtain ⟨vs, h1, h2⟩ := h; exact ⟨vs, h1, VRs.pure cs (by simpa [AV.pureB] using hp) h2⟩
theorem VRs.pure : ∀ (xs : List AV) {vs : List Value}, pureBs xs = true → VRs S m xs vs → VRs S m' xs vs
  | [], _, _, h => by unfold VRs at *; exact h
  | x :: xs, _, hp, h => by
    simp [pureBs] at hp
    unfold VRs at *; obtain ⟨v, vs', h1, h2, h3⟩ := h; exact ⟨v, vs', h1, VR.pure x hp.1 h2, VRs.pure xs hp.2 h3⟩
theorem CR.pure : ∀ (xs : List AV) {B q : Nat}, pureBs xs = true → CR S m xs B q → CR S m' xs B q
  | [], _, _, _, _ => by unfold CR; trivial
  | x :: xs, _, _, hp, h => by
    simp [pureBs] at hp
    unfold CR at *; obtain ⟨⟨v, h1, h2⟩, h3⟩ := h; exact ⟨⟨v, h1, VR.pure x hp.1 h2⟩, CR.pure xs hp.2 h3⟩
theorem ER.pure (sz : Nat) : ∀ (xs : List AV) {B q : Nat}, pureBs xs = true → ER S m sz xs B q → ER S m' sz xs B q
  | [], _, _, _, _ => by unfold ER; trivial
  | .agg cs :: xs, _, _, hp, h => by
    simp [pureBs, AV.pureB] at hp
    unfold ER at *; exact ⟨CR.pure cs hp.1 h.1, ER.pure sz xs hp.2 h.2⟩
  | .undef :: xs, _, _, hp, h => by simp [pureBs] at hp; unfold ER at *; obtain ⟨⟨v, h1, h2⟩, h3⟩ := h; exact ⟨⟨v, h1, VR.pure _ hp.1 h2⟩, ER.pure sz xs hp.2 h3⟩
  | .bool _ :: xs, _, _, hp, h => by simp [pureBs] at hp; unfold ER at *; obtain ⟨⟨v, h1, h2⟩, h3⟩ := h; exact ⟨⟨v, h1, VR.pure _ hp.1 h2⟩, ER.pure sz xs hp.2 h3⟩
  | .int _ _ :: xs, _, _, hp, h => by simp [pureBs] at hp; unfold ER at *; obtain ⟨⟨v, h1, h2⟩, h3⟩ := h; exact ⟨⟨v, h1, VR.pure _ hp.1 h2⟩, ER.pure sz xs hp.2 h3⟩
  | .flt _ _ :: xs, _, _, hp, h => by simp [pureBs] at hp; unfold ER at *; obtain ⟨⟨v, h1, h2⟩, h3⟩ := h; exact ⟨⟨v, h1, VR.pure _ hp.1 h2⟩, ER.pure sz xs hp.2 h3⟩
  | .str _ :: xs, _, _, hp, h => by simp [pureBs] at hp; unfold ER at *; obtain ⟨⟨v, h1, h2⟩, h3⟩ := h; exact ⟨⟨v, h1, VR.pure _ hp.1 h2⟩, ER.pure sz xs hp.2 h3⟩
  | .nilp :: xs, _, _, hp, h => by simp [pureBs] at hp; unfold ER at *; obtain ⟨⟨v, h1, h2⟩, h3⟩ := h; exact ⟨⟨v, h1, VR.pure _ hp.1 h2⟩, ER.pure sz xs hp.2 h3⟩
  | .ptr a b c :: xs, _, _, hp, h => by simp [pureBs] at hp; unfold ER at *; obtain ⟨⟨v, h1, h2⟩, h3⟩ := h; exact ⟨⟨v, h1, VR.pure (.ptr a b c) hp.1 h2⟩, ER.pure sz xs hp.2 h3⟩
  | .pin a b :: xs, _, _, hp, h => by simp [pureBs] at hp; unfold ER at *; obtain ⟨⟨v, h1, h2⟩, h3⟩ := h; exact ⟨⟨v, h1, VR.pure (.pin a b) hp.1 h2⟩, ER.pure sz xs hp.2 h3⟩
  | .lst a b c :: xs, _, _, hp, h => by simp [pureBs] at hp; unfold ER at *; obtain ⟨⟨v, h1, h2⟩, h3⟩ := h; exact ⟨⟨v, h1, VR.pure (.lst a b c) hp.1 h2⟩, ER.pure sz xs hp.2 h3⟩
  | .sl a b c d e :: xs, _, _, hp, h => by simp [pureBs] at hp; unfold ER at *; obtain ⟨⟨v, h1, h2⟩, h3⟩ := h; exact ⟨⟨v, h1, VR.pure (.sl a b c d e) hp.1 h2⟩, ER.pure sz xs hp.2 h3⟩
  | .mapn :: xs, _, _, hp, h => by simp [pureBs] at hp; unfold ER at *; obtain ⟨⟨v, h1, h2⟩, h3⟩ := h; exact ⟨⟨v, h1, VR.pure _ hp.1 h2⟩, ER.pure sz xs hp.2 h3⟩
  | .map a :: xs, _, _, hp, h => by simp [pureBs] at hp; unfold ER at *; obtain ⟨⟨v, h1, h2⟩, h3⟩ := h; exact ⟨⟨v, h1, VR.pure (.map a) hp.1 h2⟩, ER.pure sz xs hp.2 h3⟩
  | .fn a b c :: xs, _, _, hp, h => by simp [pureBs] at hp; unfold ER at *; obtain ⟨⟨v, h1, h2⟩, h3⟩ := h; exact ⟨⟨v, h1, VR.pure (.fn a b c) hp.1 h2⟩, ER.pure sz xs hp.2 h3⟩
  | .nilf :: xs, _, _, hp, h => by simp [pureBs] at hp; unfold ER at *; obtain ⟨⟨v, h1, h2⟩, h3⟩ := h; exact ⟨⟨v, h1, VR.pure _ hp.1 h2⟩, ER.pure sz xs hp.2 h3⟩
  | .ifc a b :: xs, _, _, hp, h => by simp [pureBs] at hp; unfold ER at *; obtain ⟨⟨v, h1, h2⟩, h3⟩ := h; exact ⟨⟨v, h1, VR.pure (.ifc a b) hp.1 h2⟩, ER.pure sz xs hp.2 h3⟩
  | .nili :: xs, _, _, hp, h => by simp [pureBs] at hp; unfold ER at *; obtain ⟨⟨v, h1, h2⟩, h3⟩ := h; exact ⟨⟨v, h1, VR.pure _ hp.1 h2⟩, ER.pure sz xs hp.2 h3⟩
  | .tup a :: xs, _, _, hp, h => by simp [pureBs] at hp; unfold ER at *; obtain ⟨⟨v, h1, h2⟩, h3⟩ := h; exact ⟨⟨v, h1, VR.pure (.tup a) hp.1 h2⟩, ER.pure sz xs hp.2 h3⟩
end
end

section
variable {P : Program} {n₀ : Nat} {w₀ : World} {S₀ S S' : SM} {m : BM} {h : AHeap} {w w' : World}

theorem noBM_le (m : BM) : noBM.le m := fun _ _ _ h => by cases h

/-- Behind a call that has left alone all that lay there. -/
theorem Sim.called (s : Sim n₀ w₀ S₀ S m h w) (hS : S.le S') (hst : ∀ b o v, S' b o = some v → w'.cell? ⟨b, o, Option.none⟩ = some v) (hnew : ∀ b o v, S' b o = some v → S b o = some v ∨ w.heap.size ≤ b) (hsz : w.heap.size ≤ w'.heap.size) (hold : ∀ b, b < w.heap.size → w'.heap[b]? = w.heap[b]?) (henv : Env w w') :
    Sim n₀ w₀ S₀ S' m h w' where
  stable := hst
  size := Nat.le_trans s.size hsz
  old b hb := by rw [hold b (by have := s.size; omega)]; exact s.old b hb
  new b o v hv := by
    rcases hnew b o v hv with h | h
    · exact s.new b o v h
    · exact .inr (Nat.le_trans s.size h)
  blk b x hx := (s.blk b x hx).same hS (BM.le_refl _) (fun ver B K h1 h2 => by
    obtain ⟨g2, g3, g4⟩ := s.img hx h1 h2
    refine ⟨hold B g3, fun o => ?_⟩
    cases hso : S' B o with
    | none => rfl
    | some v =>
      rcases hnew B o v hso with h | h
      · rw [g4 o] at h; cases h
      · omega) (fun ver hv => s.top hx hv)
  inj := s.inj
  lt := s.lt
  env := s.env.trans henv

theorem start_sim (S : SM) (w : World) (hst : ∀ b o v, S b o = some v → w.cell? ⟨b, o, none⟩ = some v) : Sim w.heap.size w S S noBM [] w where
  stable := hst
  size := Nat.le_refl _
  old _ _ := rfl
  new _ _ _ h := .inl h
  blk b x hx := by simp at hx
  inj b b' x x' ver ver' B K K' _ hx := by simp at hx
  lt b ver x hx := by cases hx
  env := Env.refl _

/-- All that a call's own memory holds is kept. -/
def SM.keep (S : SM) (n : Nat) (w : World) : SM := fun b o => if n ≤ b then w.cell? ⟨b, o, none⟩ else S b o

theorem keep_ok (s : Sim n₀ w₀ S₀ S m h w) : S.le (S.keep n₀ w) ∧ (∀ b o v, S.keep n₀ w b o = some v → w.cell? ⟨b, o, none⟩ = some v) ∧ (∀ b o v, S.keep n₀ w b o = some v → S₀ b o = some v ∨ n₀ ≤ b) ∧ Keeps h S m (S.keep n₀ w) := by
  have hle : S.le (S.keep n₀ w) := fun b o v hv => by
    unfold SM.keep
    split
    · exact s.stable b o v hv
    · exact hv
  refine ⟨hle, fun b o v hv => ?_, fun b o v hv => ?_, hle, fun b ver el cs f B K hb hm i x hx => ?_⟩
  · unfold SM.keep at hv
    split at hv
    · exact hv
    · exact s.stable b o v hv
  · unfold SM.keep at hv
    split at hv
    · rename_i hn; exact .inr hn
    · exact s.new b o v hv
  · obtain ⟨B', K', el₀, vs, fz, e1, e2, e3, e4, e5, e6, e7⟩ := blk_at s hb
    rw [hm] at e1; cases e1
    obtain ⟨v, g1, g2⟩ := e6 i x hx
    have hn := (s.img hb rfl hm).1
    refine ⟨v, ?_, g2⟩
    unfold SM.keep
    rw [if_pos hn]
    simpa using g1

theorem map?_sound {g : AV → Option AV} {r r' : CRes} {m' : BM} (hr : r.map? g = some r') {e : Ending} (hg : ∀ x y v, g x = some y → VR S m x v → VR S' m' y v) (hR : r.R S m e) : r'.R S' m' e := by
  cases r with
  | ret v =>
    unfold CRes.map? at hr
    cases hv : g v with
    | none => simp [hv] at hr
    | some y =>
      simp [hv] at hr; subst hr
      obtain ⟨u, e1, h1⟩ := hR
      exact ⟨u, e1, hg _ _ _ hv h1⟩
  | pan v =>
    unfold CRes.map? at hr
    cases hv : g v with
    | none => simp [hv] at hr
    | some y =>
      simp [hv] at hr; subst hr
      obtain ⟨u, e1, h1⟩ := hR
      exact ⟨u, e1, hg _ _ _ hv h1⟩

theorem pureA_sound {call : CallF} {draw : DrawF} (hcall : CallOk P call) {inl : FuncId → Bool} (hap : Apart inl call) (hdraw : DrawsOk P inl draw) {k : Nat} {f : FuncId} {args : List AV} {r : CRes} (hr : pureA P call draw k f args = some r) : PureCalls P f args r := by
  intro S w vs hst hv
  unfold pureA at hr
  split at hr
  · rename_i r' h hb
    refine (body_sound hcall (hdraw call hcall hap) hb (start_sim S w hst) hv).mono fun e w' hq => ?_
    obtain ⟨S', m', h1, h2, s', hR⟩ := hq
    obtain ⟨k1, k2, k3, k4⟩ := keep_ok s'
    refine ⟨S'.keep w.heap.size w', SM.le_trans h1 k1, k2, k3, s'.size, s'.old, s'.env, ?_⟩
    exact map?_sound hr (fun x y v hx hxv => (frz_sound k4 64).1 x y v hx hxv) hR
  · cases hr

theorem callN_sound {cfg : Cfg} {draw : DrawF} (hsum : SumOk P cfg) (hdraw : DrawsOk P cfg.inl draw) (k : Nat) : ∀ n, CallOk P (callN P cfg draw k n)
  | 0 => ⟨fun f args h r h' hr => (by unfold callN at hr; cases hr), fun b args h r h' hr => (by unfold callN at hr; cases hr)⟩
  | n + 1 => by
    have ih := callN_sound hsum hdraw k n
    refine ⟨?_, fun b args h r h' hr n₀ w₀ S₀ S m w vs B K hB s hv => ?_⟩
    case refine_2 =>
      unfold callN at hr
      split at hr
      · rw [if_pos (Nat.le_add_right _ _), Nat.add_sub_cancel_left] at hr
        exact yield_sound ih (hdraw _ ih (callN_apart P cfg draw k n)) hr hB s hv
      · rename_i hi
        exfalso
        rw [if_neg (by simp)] at hr
        cases hr
    intro f args h r h' hr hlt n₀ w₀ S₀ S m w vs s hv
    have pur : ∀ {r' : CRes}, PureCalls P f args r' → pureBs args = true → r' = r → h' = h → Calls P f vs w (CQ n₀ w₀ S₀ S m r h') := fun {r'} hp hpu e1 e2 => by
      subst e1 e2
      refine (hp S w vs s.stable (VRs.pure args hpu hv)).mono fun e w' hq => ?_
      obtain ⟨S', g1, g2, g3, g4, g5, genv, g6⟩ := hq
      refine ⟨S', m, g1, BM.le_refl _, s.called g1 g2 g3 g4 g5 genv, ?_⟩
      cases r' with
      | ret v => obtain ⟨u, e1, h1⟩ := g6; exact ⟨u, e1, h1.mono (SM.le_refl _) (noBM_le m)⟩
      | pan v => obtain ⟨u, e1, h1⟩ := g6; exact ⟨u, e1, h1.mono (SM.le_refl _) (noBM_le m)⟩
    unfold callN at hr
    split at hr
    · rw [if_neg (Nat.not_le.2 hlt)] at hr; exact body_sound ih (hdraw _ ih (callN_apart P cfg draw k n)) hr s hv
    · split at hr
      · rename_i hpu0
        have hpu : pureBs args = true := by simp only [Bool.and_eq_true] at hpu0; exact hpu0.1
        split at hr
        · rename_i v hs
          cases hr
          exact pur (hsum _ _ _ hs) hpu rfl rfl
        · cases hp : pureA P (callN P cfg draw k n) draw k f args with
          | none => simp [hp] at hr
          | some r' =>
            simp [hp] at hr
            obtain ⟨e1, e2⟩ := hr
            exact pur (pureA_sound ih (callN_apart P cfg draw k n) hdraw hp) hpu e1 e2.symm
      · cases hr
end
end Go.Abs
