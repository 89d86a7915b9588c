/- From calls of the small machine to the rows of laws. -/
import Derived.Test.YtfddiediieblhaaAbsS
import Derived.Carry
import Derived.Handed
import Derived.JoinedOf
import Derived.OpenShut
import Derived.ShutString
import Derived.ChangeOld
import Derived.WalkKit
import Derived.ProofKit
set_option linter.unusedVariables false
set_option linter.unusedSimpArgs false
namespace Go.Abs
open Go.ChangeShapes Go.WideShapes Go.ChangeAt Go.RowKit

/-- All cells of a world. -/
def cellsW (W : World) : SM := fun b o => W.cell? ⟨b, o, none⟩

section
variable {H : Type} {enc : TypeId × Value → H} {P : Program} {W W' : World}

theorem trodAll_lt {sp : Nat → Bool} : ∀ {ts : List TypeId} {vs : List Value} {ds : List (DataW H)} {p : List MemPlace}, DataW.TrodAll enc P W 0 sp true ts vs ds p → ∀ x ∈ p, x.block < W.heap.size
  | [], vs, ds, p, h => by
    obtain ⟨_, _, rfl⟩ := trodAll_nil h
    intro x hx; cases hx
  | t :: ts, vs, ds, p, h => by
    obtain ⟨v, vs', d, ds', p', q, rfl, rfl, rfl, h1, h2⟩ := trodAll_cons h
    intro x hx
    rcases List.mem_append.1 hx with hx | hx
    · obtain ⟨m, hm⟩ := h1; exact DataW.trod_lt m _ _ _ hm x hx
    · exact trodAll_lt h2 x hx

theorem trodAll_stays (hl : laidOutB P = true) (hb : Below W.heap.size W W') : ∀ {ts : List TypeId} {vs : List Value} {ds : List (DataW H)} {p : List MemPlace}, (ts.all fun t => P.readableRec t && decide (t < P.types.size)) = true → DataW.TrodAll enc P W 0 (fun _ => true) true ts vs ds p →
    DataW.TrodAll enc P W' 0 (fun b => decide (b < W.heap.size)) true ts vs ds p
  | [], vs, ds, p, _, h => by
    obtain ⟨rfl, rfl, rfl⟩ := trodAll_nil h
    exact trodAll_mk0
  | t :: ts, vs, ds, p, hty, h => by
    simp only [List.all_cons, Bool.and_eq_true, decide_eq_true_eq] at hty
    have hlt := trodAll_lt h
    obtain ⟨v, vs', d, ds', p', q, rfl, rfl, rfl, h1, h2⟩ := trodAll_cons h
    exact trodAll_cons_mk (Below.trod hl hty.1.1 hty.1.2 h1 hb fun x hx => hlt x (List.mem_append_left _ hx)) (trodAll_stays hl hb hty.2 h2)

theorem trodAll_len {sp : Nat → Bool} : ∀ {ts : List TypeId} {vs : List Value} {ds : List (DataW H)} {p : List MemPlace}, DataW.TrodAll enc P W 0 sp true ts vs ds p → ds.length = ts.length
  | [], vs, ds, p, h => by obtain ⟨_, rfl, _⟩ := trodAll_nil h; rfl
  | t :: ts, vs, ds, p, h => by
    obtain ⟨v, vs', d, ds', p', q, rfl, rfl, rfl, h1, h2⟩ := trodAll_cons h
    simp [trodAll_len h2]

/-- A law's call, read as a row reads it. -/
theorem law_call {f : FuncId} {fn : Func} {s : ChangeSpec} {tb : TypeId} (hl : laidOutB P = true) (hty : (fn.params.toList.all fun t => P.readableRec t && decide (t < P.types.size)) = true) (hres : fn.resultTypes = #[tb]) (htb : P.underlying tb = some .bool) (hvars : s.vars = [])
    (hs : ∀ (ds : List (DataW H)), ds.length = fn.params.size → s.fn H ds = { results := [.lit (.bool true)], args := ds }) {args : Array Value} {ds gs : List (DataW H)} {before : List MemPlace}
    (hW : DataW.Whole enc P fn.params.toList s.vars false W args.toList ds gs before) {as : List AV} (hv : VRs (cellsW W) noBM as args.toList) (hp : PureCalls P f as (.ret (.bool true))) :
    Calls P f args W fun e W' => ∃ v, e = .returned v ∧ s.post enc P fn false true false false W args v W' := by
  refine (hp (cellsW W) W args (fun b o v h => h) hv).mono fun e W' hq => ?_
  obtain ⟨S', g1, g2, g3, g4, g5, genv, u, e1, h1⟩ := hq
  unfold VR at h1
  subst h1
  have bel : Below W.heap.size W W' := ⟨genv.1, genv.2.2, genv.2.1, g4, g5⟩
  have hW' := hW
  obtain ⟨p, q, hA0, hV, rfl, hfz, hnd⟩ := hW
  have hA : DataW.TrodAll enc P W 0 (fun _ => true) true fn.params.toList args.toList ds p := hA0
  rw [hvars] at hV
  obtain ⟨rfl, rfl⟩ := trodVars_none hV
  have hlen : ds.length = fn.params.size := by rw [trodAll_len hA]; simp
  have hsp := hs (ds ++ []) (by simpa using hlen)
  refine ⟨.bool true, e1, ds, [], _, [], p, [], hW', ?_, ?_, ?_, bel.frame _, fun h => by cases h⟩
  · rw [hsp, hres]; exact trodAll_mk1 (shut_bool htb _)
  · rw [hsp]; simp only [List.append_nil]; exact trodAll_stays hl bel hty hA
  · rw [hsp, hvars]; exact rfl
end

section
variable {H : Type} {enc : TypeId × Value → H} {P : Program} {W : World} {base : Nat} {sp : Nat → Bool} {held : Bool} {fuel : Nat} {t : TypeId} {cs : List Value} {x : DataW H × List MemPlace}

theorem rd_str (ht : P.underlying t = some .string) (h : DataW.trod enc P W base sp held fuel t cs = some x) : ∃ s : List UInt8, cs = [.string ⟨s.toArray⟩] := by
  cases fuel with
  | zero => simp [DataW.trod] at h
  | succ n =>
    unfold DataW.trod at h
    rw [ht] at h
    split at h <;> simp_all
    rename_i s
    exact ⟨s.data.toList, by simp⟩
theorem rd_int {k : IntKind} (ht : P.underlying t = some (.int k)) (h : DataW.trod enc P W base sp held fuel t cs = some x) : ∃ n, cs = [.int k n] ∧ (Lit.int k n).wf = true := by
  cases fuel with
  | zero => simp [DataW.trod] at h
  | succ n =>
    unfold DataW.trod at h
    rw [ht] at h
    split at h <;> simp_all
theorem rd_bool (ht : P.underlying t = some .bool) (h : DataW.trod enc P W base sp held fuel t cs = some x) : ∃ b, cs = [.bool b] := by
  cases fuel with
  | zero => simp [DataW.trod] at h
  | succ n =>
    unfold DataW.trod at h
    rw [ht] at h
    split at h <;> simp_all
theorem rd_u8 (ht : P.underlying t = some (.int .u8)) (h : DataW.trod enc P W base sp held fuel t cs = some x) : ∃ b : UInt8, cs = [.int .u8 b.toNat] := by
  obtain ⟨n, rfl, hw⟩ := rd_int ht h
  refine ⟨UInt8.ofNat n.toNat, ?_⟩
  have h2 : 0 ≤ n ∧ n ≤ 255 := by simpa [Lit.wf, IntKind.min, IntKind.max, IntKind.signed, IntKind.bits] using hw
  have : (UInt8.ofNat n.toNat).toNat = n.toNat := by
    rw [UInt8.toNat_ofNat']; omega
  rw [this]
  congr 1
  congr 1
  omega

theorem VRs_get {S : SM} {m : BM} : ∀ {as : List AV} {vs : List Value}, as.length = vs.length → (∀ (i : Nat) (a : AV) (v : Value), as[i]? = some a → vs[i]? = some v → VR S m a v) → VRs S m as vs
  | [], [], _, _ => by unfold VRs; rfl
  | [], _ :: _, h, _ => by simp at h
  | _ :: _, [], h, _ => by simp at h
  | a :: as, v :: vs, h, hv => by
    unfold VRs
    exact ⟨v, vs, rfl, hv 0 a v rfl rfl, VRs_get (by simpa using h) fun i b u h1 h2 => hv (i + 1) b u (by simpa using h1) (by simpa using h2)⟩
theorem VRs_app {S : SM} {m : BM} : ∀ {as : List AV} {bs : List AV} {vs us : List Value}, VRs S m as vs → VRs S m bs us → VRs S m (as ++ bs) (vs ++ us)
  | [], bs, vs, us, h, k => by unfold VRs at h; subst h; exact k
  | a :: as, bs, vs, us, h, k => by
    unfold VRs at h
    obtain ⟨v, vs', rfl, h1, h2⟩ := h
    show VRs S m (a :: (as ++ bs)) (v :: vs' ++ us)
    unfold VRs
    exact ⟨v, vs' ++ us, rfl, h1, VRs_app h2 k⟩
theorem VRs_one {S : SM} {m : BM} {a : AV} {v : Value} (h : VR S m a v) : VRs S m [a] [v] := by unfold VRs; exact ⟨v, [], rfl, h, by unfold VRs; rfl⟩

theorem CR_of {S : SM} {m : BM} : ∀ {as : List AV} {vs : List Value} {B q : Nat}, VRs S m as vs → (∀ i v, vs[i]? = some v → S B (q + i) = some v) → CR S m as B q
  | [], _, _, _, _, _ => by unfold CR; trivial
  | a :: as, vs, B, q, h, hc => by
    unfold VRs at h
    obtain ⟨v, vs', rfl, h1, h2⟩ := h
    unfold CR
    refine ⟨⟨v, by simpa using hc 0 v rfl, h1⟩, CR_of h2 fun i u hu => ?_⟩
    have := hc (i + 1) u (by simpa using hu)
    rwa [show q + (i + 1) = q + 1 + i by omega] at this

/-- Elements that are structs. -/
theorem ER_of {S : SM} {m : BM} {α : Type} {g : α → List AV} {sz : Nat} : ∀ {l : List α} {B q : Nat}, (∀ i e, l[i]? = some e → CR S m (g e) B (q + i * sz)) → ER S m sz (l.map fun e => .agg (g e)) B q
  | [], _, _, _ => by unfold ER; trivial
  | e :: l, B, q, h => by
    show ER S m sz (.agg (g e) :: l.map fun e => .agg (g e)) B q
    unfold ER
    refine ⟨by simpa using h 0 e rfl, ER_of fun i e' he => ?_⟩
    have := h (i + 1) e' (by simpa using he)
    rwa [show q + (i + 1) * sz = q + sz + i * sz by rw [Nat.add_mul]; omega] at this

theorem list_of {α : Type} {p : Nat → α → Prop} : ∀ (n : Nat), (∀ i, i < n → ∃ a, p i a) → ∃ l : List α, l.length = n ∧ ∀ i a, l[i]? = some a → p i a
  | 0, _ => ⟨[], rfl, fun i a h => by simp at h⟩
  | n + 1, h => by
    obtain ⟨l, h1, h2⟩ := list_of n fun i hi => h i (by omega)
    obtain ⟨a, ha⟩ := h n (by omega)
    refine ⟨l ++ [a], by simp [h1], fun i b hb => ?_⟩
    rcases Nat.lt_or_ge i l.length with hi | hi
    · rw [List.getElem?_append_left hi] at hb; exact h2 i b hb
    · rw [List.getElem?_append_right hi] at hb
      have : i = n := by
        rcases Nat.lt_or_ge (i - l.length) 1 with h3 | h3
        · omega
        · rw [List.getElem?_eq_none (by simpa using h3)] at hb; cases hb
      subst this
      simp [h1] at hb
      subst hb; exact ha

/-- A slice of structs. -/
theorem rd_slice {α : Type} {g : α → List AV} {ok : α → Prop} {e : TypeId} {sz : Nat} (ht : P.underlying t = some (.slice e)) (hsz : P.cellsOf e = sz) (h0 : sz ≠ 0)
    (he : ∀ (fuel : Nat) (cs : List Value) (x : DataW H × List MemPlace), DataW.trod enc P W base sp held fuel e cs = some x → ∃ a : α, VRs (cellsW W) noBM (g a) cs ∧ ok a)
    (h : DataW.trod enc P W base sp held fuel t cs = some x) : ∃ (l : List α) (v : Value), cs = [v] ∧ VR (cellsW W) noBM (.lst sz (l.map fun a => .agg (g a)) false) v ∧ ∀ a ∈ l, ok a := by
  rcases DataW.trod_slice ht h with ⟨rfl, _⟩ | ⟨a, len, cap, elems, rest, n, _, rfl, _, hb, hlc, hcm, hel, hi, _, _⟩
  · exact ⟨[], _, rfl, by unfold VR; exact ⟨none, 0, rfl, Nat.le_refl _, (fun h => by cases h), fun h => (h rfl).elim⟩, fun a h => by cases h⟩
  · rw [hsz] at hi
    obtain ⟨l, hl, hg⟩ := list_of (p := fun i (b : α) => (∃ cs', W.cells? base (a.add (i * sz)) sz = some cs' ∧ VRs (cellsW W) noBM (g b) cs') ∧ ok b) len fun i hil => by
      have h1 := hi i hil
      have h2 : elems[i]? = some (elems[i]'(by omega)) := List.getElem?_eq_getElem (by omega)
      rw [h2] at h1
      obtain ⟨cs', h3, h4⟩ := Option.bind_eq_some_iff.1 h1
      obtain ⟨b, h5, h6⟩ := he _ _ _ h4
      exact ⟨b, ⟨cs', h3, h5⟩, h6⟩
    refine ⟨l, _, rfl, ?_, fun b hb => ?_⟩
    · unfold VR
      refine ⟨some a, cap, by simp [hl], by simpa [hl] using hlc, (fun h => by cases h), fun hne => ?_⟩
      have hpos : 0 < len := by
        rcases Nat.eq_zero_or_pos len with h | h
        · subst h
          have : l = [] := List.length_eq_zero_iff.1 hl
          subst this
          exact (hne rfl).elim
        · exact h
      have hspot : a.spot = none := by
        obtain ⟨b, hb⟩ : ∃ b, l[0]? = some b := ⟨_, List.getElem?_eq_getElem (by omega)⟩
        obtain ⟨⟨cs', h1, h2⟩, _⟩ := hg 0 b hb
        obtain ⟨_, h3, h4⟩ := World.cells?_some h1
        have h5 := h4 0 (by omega)
        rw [List.getElem?_eq_getElem (by omega)] at h5
        have := World.cell?_spot h5
        simpa [Addr.add] using this
      obtain ⟨B, q, spot⟩ := a
      simp only at hspot
      subst hspot
      refine ⟨B, q, rfl, ER_of fun i b hb => ?_⟩
      obtain ⟨⟨cs', h1, h2⟩, _⟩ := hg i b hb
      obtain ⟨_, h3, h4⟩ := World.cells?_some h1
      refine CR_of h2 fun j v hj => ?_
      have hjl : j < sz := by
        rcases Nat.lt_or_ge j sz with h | h
        · exact h
        · rw [List.getElem?_eq_none (by omega)] at hj; cases hj
      have h6 := h4 j hjl
      rw [hj] at h6
      have e7 : ((⟨B, q, none⟩ : Addr).add (i * sz)).add j = ⟨B, q + i * sz + j, none⟩ := by
        unfold Addr.add
        by_cases e1 : i * sz = 0 <;> by_cases e2 : j = 0 <;> simp [e1, e2]
      rw [e7] at h6
      exact h6
    · obtain ⟨i, hi', rfl⟩ := List.getElem_of_mem hb
      exact (hg i _ (List.getElem?_eq_getElem hi')).2
end

/-- Calls in memory of their own. -/
theorem pure_of_CN {P : Program} {c : Cfg} {n : Nat} {f : FuncId} {args : List AV} {v : AV} (hsum : SumOk P c) (hinl : c.inl f = false) (h : CN P c (n + 1) f args [] = some (.ret v, [])) : PureCalls P f args (.ret v) := by
  unfold CN callN at h
  simp only [hinl, Bool.false_eq_true, if_false] at h
  split at h
  · split at h
    · rename_i u hu
      cases h
      exact hsum _ _ _ hu
    · cases hp : pureA P (callN P c (drawA P c.inl) KK n) (drawA P c.inl) KK f args with
      | none => rw [hp] at h; cases h
      | some r =>
        rw [hp] at h
        cases h
        exact pureA_sound (callN_sound hsum (drawsOk P c.inl) KK n) (callN_apart P c (drawA P c.inl) KK n) (drawsOk P c.inl) hp
  · cases h
end Go.Abs
