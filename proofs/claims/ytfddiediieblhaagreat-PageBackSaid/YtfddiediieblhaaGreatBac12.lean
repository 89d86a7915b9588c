/- Texts put together: Ec, Ed, Fz, Ee, Ef, Eg, Nl, Qc, Qd, Qe, Nm, Es, Nn, No, Qf, Qg, Qh, Qi, Qj, Ql, Da. -/
import Derived.Test.YtfddiediieblhaaGreatBac11
import Derived.Test.YtfddiediieblhaaGreatBac9
import Derived.Test.YtfddiediieblhaaGreatBac8
import Derived.Test.YtfddiediieblhaaGreatBac7
/- Contracts: the reference's numbers, checksum, entries. -/
set_option linter.unusedVariables false
set_option linter.unusedSimpArgs false
namespace Go.Proofs
open Go Go.Abs
section
variable {n : Nat} {h : AHeap}
end
end Go.Proofs
/- Contracts: the reference's entries: their validity and bytes. -/
set_option linter.unusedVariables false
set_option linter.unusedSimpArgs false
namespace Go.Proofs
open Go Go.Abs
section
variable {n : Nat} {h : AHeap}
end
end Go.Proofs
/- Orders of keys; equal entries (as in Fd, for the seats without PageSearch). -/
set_option linter.unusedVariables false
set_option linter.unusedSimpArgs false
namespace Go.Proofs
open Go Go.Abs
theorem eq_ent (e : Entry) : eqA Tryz.prog 20 56 (.agg e.cells) (.agg e.cells) = some true := by
  have e1 : eqA Tryz.prog 20 56 (.agg e.cells) (.agg e.cells) = allEq (eqA Tryz.prog 19) [(9, .str e.key, .str e.key), (9, .str e.val, .str e.val), (3, i64 e.over, i64 e.over), (3, i64 e.len, i64 e.len), (3, i64 e.child, i64 e.child), (3, i64 e.count, i64 e.count), (54, .agg e.sum.cells, .agg e.sum.cells)] := by kernel_rfl
  have e2 : ∀ (s : Str), eqA Tryz.prog 19 9 (.str s) (.str s) = some (s == s) := fun s => by kernel_rfl
  have e3 : ∀ (k : Int), eqA Tryz.prog 19 3 (i64 k) (i64 k) = some (k == k) := fun k => by kernel_rfl
  have e4 : eqA Tryz.prog 19 54 (.agg e.sum.cells) (.agg e.sum.cells) = allEq (eqA Tryz.prog 18) (zipE 5 (e.sum.list.map u8) (e.sum.list.map u8)) := by kernel_rfl
  have e5 : ∀ (x y : UInt8), eqA Tryz.prog 18 5 (.int .u8 x.toNat) (.int .u8 y.toNat) = some (((x.toNat : Nat) : Int) == y.toNat) := fun x y => by kernel_rfl
  have e6 : eqA Tryz.prog 19 54 (.agg e.sum.cells) (.agg e.sum.cells) = some true := by
    rw [e4, allEq_u8 (fun x y => by rw [e5, eq_u8]) e.sum.list e.sum.list rfl]
    simp
  rw [e1]
  simp only [allEq, e2, e3, e6, beq_self_eq_true]
end Go.Proofs
/- Contracts: the reference's validity of entries, and their shared prefix. -/
set_option linter.unusedVariables false
set_option linter.unusedSimpArgs false
namespace Go.Proofs
open Go Go.Abs
section
variable {n : Nat} {h : AHeap}
end
end Go.Proofs
/- Contracts: the reference's shared prefix and suffixes. -/
set_option linter.unusedVariables false
set_option linter.unusedSimpArgs false
namespace Go.Proofs
open Go Go.Abs
section
variable {n : Nat} {h : AHeap}
end
end Go.Proofs
/- Contracts: the reference's bytes of entries, weights. -/
set_option linter.unusedVariables false
set_option linter.unusedSimpArgs false
namespace Go.Proofs
open Go Go.Abs
section
variable {n : Nat} {h : AHeap}
end
end Go.Proofs
/- Contracts: the reference's pieces, its numbers of pages. -/
set_option linter.unusedVariables false
set_option linter.unusedSimpArgs false
namespace Go.Proofs
open Go Go.Abs
/-- A slice that grows, held by a variable, behind the first blocks of memory. -/
def WBuf (lo : Nat) (el : TypeId) (sz : Nat) (hp : AHeap) (L : AV) (rows : List (List AV)) : Prop := VBuf el sz hp L rows ∧ ∀ eb ver, L = .sl sz eb ver 0 rows.length → lo ≤ eb
theorem WBuf.nil {lo el sz : Nat} {hp : AHeap} : WBuf lo el sz hp (.lst 0 [] true) [] := ⟨VBuf.nil, fun _ _ e => by cases e⟩
theorem wbuf_app {lo el sz : Nat} {hp : AHeap} {L x : AV} {rows : List (List AV)} {row : List AV} (hB : WBuf lo el sz hp L rows) (hlo : lo ≤ hp.length) (h1 : lenA x = some 1) (h2 : firstA hp sz 1 x = some row) (hr : row.length = sz ∧ row.all AV.scal = true) (hl : rows.length + 1 ≤ 1073741824) :
    ∃ v hp', appR hp el sz L x = some (v, some hp') ∧ WBuf lo el sz hp' v (rows ++ [row]) ∧ (∀ k, k < lo → hp'[k]? = hp[k]?) ∧ hp.length ≤ hp'.length := by
  have hrows : ∀ r ∈ rows ++ [row], r.length = sz ∧ r.all AV.scal = true := by
    intro r hm
    simp at hm
    rcases hm with hm | rfl
    · exact hB.1.1 r hm
    · exact hr
  unfold appR
  rw [h1]
  simp only
  rw [h2]
  simp only [hr.2, Bool.not_true, Bool.false_eq_true, if_false]
  rcases hB with ⟨⟨hB1, ⟨rfl, rfl⟩ | ⟨bb, ver, frz, rfl, g1, g3⟩⟩, hlo2⟩
  · simp only
    rw [if_neg (by decide)]
    have h3 : firstA hp sz ([] : List AV).length (.lst 0 [] true) = some [] := by
      unfold firstA
      simp
    rw [h3]
    simp only [List.length_nil, Nat.zero_add]
    rw [if_pos ⟨by decide, rfl⟩]
    refine ⟨_, _, rfl, ⟨⟨hrows, .inr ⟨hp.length, 0, 0, rfl, by simp, Nat.zero_le _⟩⟩, fun eb ver e => ?_⟩, fun k hk => ?_, by simp⟩
    · cases e; exact hlo
    · rw [List.getElem?_append_left (by omega)]
  · have hf := flatten_len hB1
    simp only
    rw [g1]
    simp only
    rw [if_pos ⟨.inl trivial, trivial, trivial, trivial, hf.1.symm, hf.2, hl, g3⟩, if_neg (by decide)]
    have hb := hlo2 bb ver rfl
    refine ⟨_, _, rfl, ⟨⟨hrows, .inr ⟨bb, ver + 1, frz, by simp, ?_, by rw [List.flatten_append, List.length_append]; omega⟩⟩, fun eb ver e => ?_⟩, fun k hk => ?_, by simp⟩
    · rw [List.getElem?_set_self (lt_of_get g1)]; simp
    · have := (AV.sl.inj e).2.1; omega
    · rw [List.getElem?_set_ne (by omega)]
theorem WBuf.sl {lo el sz : Nat} {hp : AHeap} {L : AV} {rows : List (List AV)} (b : WBuf lo el sz hp L rows) (hne : rows ≠ []) : ∃ eb ver, L = .sl sz eb ver 0 rows.length := by
  rcases b.1.2 with ⟨_, h⟩ | ⟨eb, ver, frz, h1, _⟩
  · exact (hne h).elim
  · exact ⟨eb, ver, h1⟩
theorem WBuf.fresh {lo el sz : Nat} {hp : AHeap} {L : AV} {rows : List (List AV)} (b : WBuf lo el sz hp L rows) {k : Nat} (x : AB) (hk : hp.length ≤ k) (xs : AHeap) : WBuf lo el sz ((hp ++ xs).set k x) L rows := ⟨b.1.fresh x hk xs, b.2⟩
theorem WBuf.low {lo el sz : Nat} {hp : AHeap} {L : AV} {rows : List (List AV)} (b : WBuf lo el sz hp L rows) {k : Nat} (x : AB) (hk : k < lo) : WBuf lo el sz (hp.set k x) L rows := by
  refine ⟨⟨b.1.1, ?_⟩, b.2⟩
  rcases b.1.2 with h | ⟨eb, ver, frz, h1, h2, h3⟩
  · exact .inl h
  · refine .inr ⟨eb, ver, frz, h1, ?_, h3⟩
    have := b.2 eb ver h1
    rw [List.getElem?_set_ne (by omega)]; exact h2
section
variable {n : Nat} {h : AHeap}
end
end Go.Proofs
/- Lists of freed pages in memory, each with numbers of its own. -/
set_option linter.unusedVariables false
set_option linter.unusedSimpArgs false
namespace Go.Proofs
open Go Go.Abs
/-- A version, its numbers, and the slice that holds them. -/
abbrev FQ : Type := Int × List Int × AV
def rowQ (t : FQ) : List AV := [i64 t.1, t.2.2]
def blkQ : AV → Option Nat
  | .sl _ b _ _ _ => some b
  | _ => none
/-- A slice of numbers in memory, or one that has none. -/
def NQ0 (hp : AHeap) (ps : List Int) (P : AV) : Prop := ((P = .lst 0 [] true ∨ P = .lst 1 [] true) ∧ ps = []) ∨ ∃ b ver frz, P = .sl 1 b ver 0 ps.length ∧ hp[b]? = some (.cells ver (some 3) (ps.map i64) frz) ∧ frz ≤ ps.length
/-- .. or (where kc says so) one that stands in no memory. -/
def NQ (kc : Bool) (hp : AHeap) (ps : List Int) (P : AV) : Prop := NQ0 hp ps P ∨ (kc = true ∧ ∃ z c, P = .lst z (ps.map i64) c ∧ (ps ≠ [] → z = 1))
theorem NQ.scal {kc : Bool} {hp : AHeap} {ps : List Int} {P : AV} (q : NQ kc hp ps P) : P.scal = true ∧ P.cells? = some [P] := by
  rcases q with (⟨rfl | rfl, _⟩ | ⟨b, ver, frz, rfl, _⟩) | ⟨_, z, c, rfl, _⟩ <;> exact ⟨rfl, rfl⟩
theorem NQ.lt {kc : Bool} {hp : AHeap} {ps : List Int} {P : AV} (q : NQ kc hp ps P) {b : Nat} (hb : blkQ P = some b) : b < hp.length := by
  rcases q with (⟨rfl | rfl, _⟩ | ⟨b', ver, frz, rfl, h2, _⟩) | ⟨_, z, c, rfl, _⟩
  · cases hb
  · cases hb
  · cases hb; exact lt_of_get h2
  · cases hb
theorem NQ.stays {kc : Bool} {hp hp' : AHeap} {ps : List Int} {P : AV} (q : NQ kc hp ps P) (e : ∀ b, blkQ P = some b → hp'[b]? = hp[b]?) : NQ kc hp' ps P := by
  rcases q with (h | ⟨b, ver, frz, rfl, h2, h3⟩) | h
  · exact .inl (.inl h)
  · exact .inl (.inr ⟨b, ver, frz, rfl, by rw [e b rfl]; exact h2, h3⟩)
  · exact .inr h
/-- A list of freed pages in memory, behind the first blocks. -/
structure LB (kc : Bool) (lo : Nat) (hp : AHeap) (L : AV) (ts : List FQ) : Prop where
  buf : WBuf lo tFrd 2 hp L (ts.map rowQ)
  val : ∀ t ∈ ts, NQ kc hp t.2.1 t.2.2
  own : ∀ t ∈ ts, ∀ b, blkQ t.2.2 = some b → lo ≤ b ∧ blkQ L ≠ some b
  apart : ts.Pairwise fun s t => ∀ b, blkQ s.2.2 = some b → blkQ t.2.2 ≠ some b
  emp : ts = [] → L = .lst 0 [] true
  fz : ∀ eb ver el cs f, blkQ L = some eb → hp[eb]? = some (.cells ver el cs f) → f = 0
theorem LB.nil {kc : Bool} {lo : Nat} {hp : AHeap} : LB kc lo hp (.lst 0 [] true) [] := ⟨WBuf.nil, by simp, by simp, List.Pairwise.nil, fun _ => rfl, fun _ _ _ _ _ h => by cases h⟩
theorem WBuf.keep {lo el sz : Nat} {hp hp' : AHeap} {L : AV} {rows : List (List AV)} (b : WBuf lo el sz hp L rows) (e : ∀ k, blkQ L = some k → hp'[k]? = hp[k]?) : WBuf lo el sz hp' L rows := by
  refine ⟨⟨b.1.1, ?_⟩, b.2⟩
  rcases b.1.2 with h | ⟨eb, ver, frz, rfl, h2, h3⟩
  · exact .inl h
  · exact .inr ⟨eb, ver, frz, rfl, by rw [e eb rfl]; exact h2, h3⟩
theorem WBuf.blt {lo el sz : Nat} {hp : AHeap} {L : AV} {rows : List (List AV)} (b : WBuf lo el sz hp L rows) {k : Nat} (hk : blkQ L = some k) : k < hp.length ∧ lo ≤ k := by
  rcases b.1.2 with ⟨rfl, _⟩ | ⟨eb, ver, frz, rfl, h2, _⟩
  · cases hk
  · cases hk; exact ⟨lt_of_get h2, b.2 _ _ rfl⟩
/-- What lies elsewhere may change. -/
theorem LB.keep {kc : Bool} {lo : Nat} {hp hp' : AHeap} {L : AV} {ts : List FQ} (l : LB kc lo hp L ts) (e : ∀ k, blkQ L = some k ∨ (∃ t ∈ ts, blkQ t.2.2 = some k) → hp'[k]? = hp[k]?) : LB kc lo hp' L ts :=
  ⟨l.buf.keep fun k hk => e k (.inl hk), fun t ht => (l.val t ht).stays fun b hb => e b (.inr ⟨t, ht, hb⟩), l.own, l.apart, l.emp, fun eb ver el cs f hb hc => l.fz eb ver el cs f hb (by rw [← e eb (.inl hb)]; exact hc)⟩
theorem LB.lt {kc : Bool} {lo : Nat} {hp : AHeap} {L : AV} {ts : List FQ} (l : LB kc lo hp L ts) {k : Nat} (h : blkQ L = some k ∨ ∃ t ∈ ts, blkQ t.2.2 = some k) : k < hp.length ∧ lo ≤ k := by
  rcases h with h | ⟨t, ht, hb⟩
  · exact l.buf.blt h
  · exact ⟨(l.val t ht).lt hb, (l.own t ht k hb).1⟩
theorem LB.old {kc : Bool} {lo : Nat} {hp hp' : AHeap} {L : AV} {ts : List FQ} (l : LB kc lo hp L ts) (e : ∀ k, lo ≤ k → k < hp.length → hp'[k]? = hp[k]?) : LB kc lo hp' L ts := l.keep fun k hk => e k (l.lt hk).2 (l.lt hk).1
theorem rowQ_ok {kc : Bool} {hp : AHeap} {t : FQ} (q : NQ kc hp t.2.1 t.2.2) : (rowQ t).length = 2 ∧ (rowQ t).all AV.scal = true := ⟨rfl, by simp only [rowQ, List.all_cons, List.all_nil, q.scal.1, Bool.and_true]; rfl⟩
/-- One more. -/
theorem LB.push {kc : Bool} {lo : Nat} {hp : AHeap} {L : AV} {ts : List FQ} (l : LB kc lo hp L ts) (hlo : lo ≤ hp.length) (t : FQ) (q : NQ kc hp t.2.1 t.2.2) (hown : ∀ b, blkQ t.2.2 = some b → lo ≤ b ∧ blkQ L ≠ some b) (hap : ∀ s ∈ ts, ∀ b, blkQ s.2.2 = some b → blkQ t.2.2 ≠ some b) (hl : ts.length + 1 ≤ 1073741824) :
    ∃ v hp', appR hp tFrd 2 L (.lst 2 [.agg (rowQ t)] true) = some (v, some hp') ∧ LB kc lo hp' v (ts ++ [t]) ∧ (∀ k, k < lo → hp'[k]? = hp[k]?) ∧ hp.length ≤ hp'.length ∧ ∀ k, k < hp.length → blkQ L ≠ some k → hp'[k]? = hp[k]? := by
  have hr := rowQ_ok q
  have hc : AV.cells? (.agg (rowQ t)) = some (rowQ t) := by
    show (if (rowQ t).all AV.scal = true then some (rowQ t) else none) = _
    rw [if_pos hr.2]
  obtain ⟨v, hp', ea, b', e0, hle⟩ := wbuf_app (x := .lst 2 [.agg (rowQ t)] true) l.buf hlo rfl (first_agg _ hr.1 hc) hr (by rw [List.length_map]; exact hl)
  -- which blocks it leaves alone
  have hk : ∀ k, k < hp.length → blkQ L ≠ some k → hp'[k]? = hp[k]? := fun k hk hn => by
    unfold appR at ea
    rw [show lenA (.lst 2 [.agg (rowQ t)] true) = some 1 from rfl] at ea
    simp only at ea
    rw [first_agg _ hr.1 hc] at ea
    simp only [hr.2, Bool.not_true, Bool.false_eq_true, if_false] at ea
    rcases l.buf.1.2 with ⟨rfl, e2⟩ | ⟨eb, ver, frz, rfl, g1, g3⟩
    · simp only at ea
      rw [if_neg (by decide)] at ea
      have h3 : firstA hp 2 ([] : List AV).length (.lst 0 [] true) = some [] := by
        unfold firstA
        simp
      rw [h3] at ea
      simp only [List.length_nil, Nat.zero_add] at ea
      rw [if_pos ⟨by decide, rfl⟩] at ea
      cases ea
      rw [List.getElem?_append_left hk]
    · have hf := flatten_len l.buf.1.1
      simp only at ea
      rw [g1] at ea
      simp only at ea
      rw [if_pos ⟨.inl trivial, trivial, trivial, trivial, hf.1.symm, hf.2, by rw [List.length_map]; exact hl, g3⟩, if_neg (by decide)] at ea
      cases ea
      have : eb ≠ k := fun e => hn (by rw [← e]; rfl)
      rw [List.getElem?_set_ne this]
  -- the slice's block: the old one, or a new one
  have hv : ∀ k, blkQ v = some k → blkQ L = some k ∨ hp.length ≤ k := fun k hkv => by
    unfold appR at ea
    rw [show lenA (.lst 2 [.agg (rowQ t)] true) = some 1 from rfl] at ea
    simp only at ea
    rw [first_agg _ hr.1 hc] at ea
    simp only [hr.2, Bool.not_true, Bool.false_eq_true, if_false] at ea
    rcases l.buf.1.2 with ⟨rfl, e2⟩ | ⟨eb, ver, frz, rfl, g1, g3⟩
    · simp only at ea
      rw [if_neg (by decide)] at ea
      have h3 : firstA hp 2 ([] : List AV).length (.lst 0 [] true) = some [] := by
        unfold firstA
        simp
      rw [h3] at ea
      simp only [List.length_nil, Nat.zero_add] at ea
      rw [if_pos ⟨by decide, rfl⟩] at ea
      cases ea
      cases hkv
      exact .inr (Nat.le_refl _)
    · have hf := flatten_len l.buf.1.1
      simp only at ea
      rw [g1] at ea
      simp only at ea
      rw [if_pos ⟨.inl trivial, trivial, trivial, trivial, hf.1.symm, hf.2, by rw [List.length_map]; exact hl, g3⟩, if_neg (by decide)] at ea
      cases ea
      cases hkv
      exact .inl rfl
  have hz : ∀ k ver el cs f, blkQ v = some k → hp'[k]? = some (.cells ver el cs f) → f = 0 := fun k ver el cs f hkv hkc => by
    unfold appR at ea
    rw [show lenA (.lst 2 [.agg (rowQ t)] true) = some 1 from rfl] at ea
    simp only at ea
    rw [first_agg _ hr.1 hc] at ea
    simp only [hr.2, Bool.not_true, Bool.false_eq_true, if_false] at ea
    rcases l.buf.1.2 with ⟨rfl, e2⟩ | ⟨eb, ver, frz, rfl, g1, g3⟩
    · simp only at ea
      rw [if_neg (by decide)] at ea
      have h3 : firstA hp 2 ([] : List AV).length (.lst 0 [] true) = some [] := by
        unfold firstA
        simp
      rw [h3] at ea
      simp only [List.length_nil, Nat.zero_add] at ea
      rw [if_pos ⟨by decide, rfl⟩] at ea
      cases ea
      cases hkv
      simp at hkc
      exact hkc.2.2.2.symm
    · have hf := flatten_len l.buf.1.1
      simp only at ea
      rw [g1] at ea
      simp only at ea
      rw [if_pos ⟨.inl trivial, trivial, trivial, trivial, hf.1.symm, hf.2, by rw [List.length_map]; exact hl, g3⟩, if_neg (by decide)] at ea
      cases ea
      cases hkv
      rw [List.getElem?_set_self (lt_of_get g1)] at hkc
      cases hkc
      exact l.fz _ _ _ _ _ rfl g1
  refine ⟨v, hp', ea, ⟨by rw [List.map_append]; exact b', fun s hs => ?_, fun s hs b hb => ?_, ?_, fun e => by simp at e, hz⟩, e0, hle, hk⟩
  · rw [List.mem_append, List.mem_singleton] at hs
    rcases hs with hs | rfl
    · exact (l.val s hs).stays fun b hb => hk b ((l.val s hs).lt hb) (l.own s hs b hb).2
    · exact q.stays fun b hb => hk b (q.lt hb) (hown b hb).2
  · rw [List.mem_append, List.mem_singleton] at hs
    have h1 : lo ≤ b ∧ blkQ L ≠ some b ∧ b < hp.length := by
      rcases hs with hs | rfl
      · exact ⟨(l.own s hs b hb).1, (l.own s hs b hb).2, (l.val s hs).lt hb⟩
      · exact ⟨(hown b hb).1, (hown b hb).2, q.lt hb⟩
    refine ⟨h1.1, fun e => ?_⟩
    rcases hv b e with h | h
    · exact h1.2.1 h
    · omega
  · rw [List.pairwise_append]
    exact ⟨l.apart, List.pairwise_singleton _ _, fun s hs t' ht' => by rw [List.mem_singleton] at ht'; subst ht'; exact hap s hs⟩
/-- A list of freed pages as a value. -/
def toQ (t : FQ) : Freed := ⟨t.1, match t.2.2 with
  | .sl _ _ _ _ _ => ⟨1, false⟩
  | .lst z _ c => ⟨z, c⟩
  | _ => ⟨0, true⟩, t.2.1⟩
theorem toQ_ok {kc : Bool} {hp : AHeap} {t : FQ} (q : NQ kc hp t.2.1 t.2.2) : (toQ t).Ok := fun hne => by
  obtain ⟨v, ps, P⟩ := t
  rcases q with (⟨_, h⟩ | ⟨b, ver, frz, h, _⟩) | ⟨_, z, c, h, hz⟩
  · exact (hne h).elim
  · simp only at h
    subst h
    rfl
  · simp only at h
    subst h
    exact hz hne
theorem NQ.frz {kc : Bool} {hp : AHeap} {t : FQ} (q : NQ kc hp t.2.1 t.2.2) (n : Nat) : Abs.frz hp (n + 2) t.2.2 = some (.lst (toQ t).sh.sz ((toQ t).pages.map i64) (toQ t).sh.c) := by
  obtain ⟨v, ps, P⟩ := t
  rcases q with (⟨h | h, h2⟩ | ⟨b, ver, frz, h, hb, _⟩) | ⟨_, z, c, h, hz⟩
  · simp only at h h2
    subst h h2
    rfl
  · simp only at h h2
    subst h h2
    rfl
  · simp only at h hb
    subst h
    unfold Abs.frz
    simp only [hb, List.length_map]
    rw [if_pos ⟨trivial, by omega⟩]
    have h1 : ((ps.map i64).drop 0).take (ps.length * 1) = ps.map i64 := by rw [List.drop_zero]; exact List.take_of_length_le (by simp)
    rw [h1, allM_id fun x hm => by obtain ⟨k, _, rfl⟩ := List.mem_map.1 hm; rfl]
    simp only
    rw [if_pos (by rw [List.all_eq_true]; intro x hm; obtain ⟨k, _, rfl⟩ := List.mem_map.1 hm; rfl)]
    rfl
  · simp only at h
    subst h
    exact (frzOk_lst (n := n + 1) fun x hx => by obtain ⟨k, _, rfl⟩ := List.mem_map.1 hx; exact frzOk_int) hp
theorem LB.frz {kc : Bool} {lo : Nat} {hp : AHeap} {L : AV} {ts : List FQ} (l : LB kc lo hp L ts) (n : Nat) : ∃ sh : Sh, Abs.frz hp (n + 3) L = some (.lst sh.sz ((ts.map toQ).map Freed.av) sh.c) ∧ (ts ≠ [] → sh.sz = 2) ∧ sh = (if ts = [] then ⟨0, true⟩ else ⟨2, false⟩) := by
  have ha : ∀ ts : List FQ, (∀ t ∈ ts, NQ kc hp t.2.1 t.2.2) → allM (Abs.frz hp (n + 2)) (ts.map rowQ).flatten = some ((ts.map toQ).map Freed.cells).flatten := fun ts hv => by
    induction ts with
    | nil => rfl
    | cons t r ih =>
      have h1 := (hv t (List.mem_cons_self ..)).frz n
      have h2 := ih fun s hs => hv s (List.mem_cons_of_mem _ hs)
      show allM _ (i64 t.1 :: t.2.2 :: (r.map rowQ).flatten) = _
      unfold allM allM
      rw [h1, h2]
      rfl
  by_cases e : ts = []
  · subst e
    rw [l.emp rfl]
    exact ⟨⟨0, true⟩, rfl, fun h => (h rfl).elim, by rw [if_pos rfl]⟩
  · rcases l.buf.1.2 with ⟨_, h⟩ | ⟨eb, ver, frz, rfl, h2, _⟩
    · exact (e (by simpa using h)).elim
    · refine ⟨⟨2, false⟩, ?_, fun _ => rfl, by rw [if_neg e]⟩
      have := frz_sl (n := n + 2) (sz := 2) (by decide) h2 (fun r hm => (l.buf.1.1 r hm).1) (ha ts l.val) (fun r hm => by
        obtain ⟨f, hf, rfl⟩ := List.mem_map.1 hm
        exact ⟨rfl, rfl⟩) (by simp)
      rw [this]
      congr 2
      rw [List.map_map]
      rfl
end Go.Proofs
/- Contracts: what fits in a page is cut from a list of freed pages. -/
set_option linter.unusedVariables false
set_option linter.unusedSimpArgs false
namespace Go.Proofs
open Go Go.Abs
abbrev FP : Type := Int × List Int
/-- What fits in a page, and what is left. -/
def cutQ : Nat → List FP → List FP × List FP
  | _, [] => ([], [])
  | room, (v, ps) :: r => if room < 12 then ([], (v, ps) :: r) else if (room - 8) / 4 < ps.length then ([(v, ps.take ((room - 8) / 4))], (v, ps.drop ((room - 8) / 4)) :: r) else ((v, ps) :: (cutQ (room - 8 - 4 * ps.length) r).1, (cutQ (room - 8 - 4 * ps.length) r).2)
theorem cutQ_low {room : Nat} (h : room < 12) : ∀ l, cutQ room l = ([], l)
  | [] => rfl
  | (v, ps) :: r => by unfold cutQ; rw [if_pos h]
def coreQ (t : FQ) : FP := (t.1, t.2.1)
theorem toQ_core (ts : List FQ) : (ts.map toQ).map Freed.core = ts.map coreQ := by rw [List.map_map]; rfl
theorem quo8 {room : Nat} (h : room ≤ 490) : -2 ≤ ((room : Int) - 8).tdiv 4 ∧ ((room : Int) - 8).tdiv 4 ≤ 121 := by
  rcases Nat.lt_or_ge room 8 with q | q
  · have : room = 0 ∨ room = 1 ∨ room = 2 ∨ room = 3 ∨ room = 4 ∨ room = 5 ∨ room = 6 ∨ room = 7 := by omega
    rcases this with rfl | rfl | rfl | rfl | rfl | rfl | rfl | rfl <;> decide
  · have e : ((room : Int) - 8).tdiv 4 = (((room - 8) / 4 : Nat) : Int) := by
      rw [show (room : Int) - 8 = ((room - 8 : Nat) : Int) by omega]
      exact Int.ofNat_tdiv _ _
    omega
theorem quo8' {room : Nat} (h : 8 ≤ room) : ((room : Int) - 8).tdiv 4 = (((room - 8) / 4 : Nat) : Int) := by
  rw [show (room : Int) - 8 = ((room - 8 : Nat) : Int) by omega]
  exact Int.ofNat_tdiv _ _
abbrev rowF' (l : List Freed) : List (List AV) := l.map Freed.cells
theorem rowF_ok {l : List Freed} : ∀ r ∈ rowF' l, r.length = 2 ∧ r.all AV.scal = true := fun r hm => by
  obtain ⟨f, _, rfl⟩ := List.mem_map.1 hm
  exact ⟨rfl, rfl⟩
theorem first_frd (h : AHeap) (l : List Freed) {z : Nat} (hz : l ≠ [] → z = 2) (c : Bool) : firstA h 2 l.length (.lst z (l.map Freed.av) c) = some (rowF' l).flatten := by
  by_cases e : l = []
  · subst e
    unfold firstA
    simp [rowF']
  · have := hz e
    subst this
    unfold firstA
    simp only [List.length_map]
    rw [if_pos ⟨Nat.le_refl _, .inl trivial⟩]
    have h1 : (l.map Freed.av).take l.length = l.map Freed.av := List.take_of_length_le (by simp)
    rw [h1]
    have h2 : (l.map Freed.av).map AV.cells? = l.map fun e => some e.cells := by rw [List.map_map]; rfl
    rw [h2]
    rw [if_pos (by rw [List.all_eq_true]; intro x hx; obtain ⟨e, _, rfl⟩ := List.mem_map.1 hx; rfl)]
    congr 1
    rw [List.flatMap_map]
    have : ∀ l : List Freed, (l.flatMap fun e => (some e.cells).getD []) = (rowF' l).flatten := fun l => by
      induction l with
      | nil => rfl
      | cons a r ih => simp only [List.flatMap_cons, rowF', List.map_cons, List.flatten_cons] at ih ⊢; rw [ih]; rfl
    exact this l
theorem app_frd (h : AHeap) (old news : List Freed) {z z' : Nat} (hz : old ≠ [] → z = 2) (hz' : news ≠ [] → z' = 2) (c : Bool) (hne : news ≠ []) (hl : old.length + news.length ≤ 1073741824) :
    appR h tFrd 2 (.lst z (old.map Freed.av) true) (.lst z' (news.map Freed.av) c) = some (.sl 2 h.length 0 0 (old ++ news).length, some (h ++ [.cells 0 (some tFrd) (rowF' (old ++ news)).flatten 0])) := by
  have hn : news.length ≠ 0 := fun e => hne (List.length_eq_zero_iff.1 e)
  have f1 := flatten_len (rowF_ok (l := news))
  have f2 := flatten_len (rowF_ok (l := old))
  unfold appR
  have h1 : lenA (.lst z' (news.map Freed.av) c) = some news.length := by simp [lenA]
  rw [h1]
  simp only
  rw [first_frd h news hz' c]
  simp only
  rw [if_neg (by simp [f1.2]), if_neg hn]
  have h2 : firstA h 2 (old.map Freed.av).length (.lst z (old.map Freed.av) true) = some (rowF' old).flatten := by
    rw [List.length_map]
    exact first_frd h old hz true
  rw [h2]
  simp only
  rw [if_pos ⟨by simpa using hl, f2.2⟩]
  simp [rowF']
theorem frz_frd {hp : AHeap} {b ver f : Nat} {el : Option TypeId} {l : List Freed} (hb : hp[b]? = some (.cells ver el (rowF' l).flatten f)) (n : Nat) : Abs.frz hp (n + 3) (.sl 2 b ver 0 l.length) = some (.lst 2 (l.map Freed.av) false) := by
  have := frz_sl (n := n + 2) (sz := 2) (by decide) hb (fun r hm => (rowF_ok r hm).1) (rows' := rowF' l) (allM_id fun x hx => by
    obtain ⟨r, hm, hx⟩ := List.mem_flatten.1 hx
    obtain ⟨f, _, rfl⟩ := List.mem_map.1 hm
    simp only [Freed.cells, List.mem_cons, List.not_mem_nil, or_false] at hx
    rcases hx with rfl | rfl
    · rfl
    · exact frzOk_lst (fun x hx => by obtain ⟨k, _, rfl⟩ := List.mem_map.1 hx; exact frzOk_int) hp) rowF_ok rfl
  rw [show (rowF' l).length = l.length by simp [rowF']] at this
  rw [this]
  congr 2
  rw [List.map_map]
  rfl
theorem freed_frz {n : Nat} (f : Freed) : FrzOk (n + 3) f.av := frzOk_agg fun x hx => by
  simp only [Freed.cells, List.mem_cons, List.not_mem_nil, or_false] at hx
  rcases hx with rfl | rfl
  · exact frzOk_int
  · exact frzOk_lst fun x hx => by obtain ⟨k, _, rfl⟩ := List.mem_map.1 hx; exact frzOk_int
theorem freedL_frz {n sz : Nat} {c : Bool} (l : List Freed) : FrzOk (n + 4) (.lst sz (l.map Freed.av) c) := frzOk_lst fun x hx => by
  obtain ⟨f, _, rfl⟩ := List.mem_map.1 hx
  exact freed_frz f
section
variable {n : Nat} {h : AHeap}
theorem more_eq (hn : 1 ≤ n) (l : List Freed) (sz : Nat) (c : Bool) : C n 138 [.lst sz (l.map Freed.av) c] h = some (.ret (.bool (decide (l ≠ []))), h) := by
  obtain ⟨m, rfl⟩ : ∃ m, n = m + 1 := ⟨n - 1, by omega⟩
  refine fun_pure F138 rfl rfl rfl (pure_lst freed_pure l rfl) ?_
  cases l with
  | nil =>
    conv => whnf
    exact retP rfl (frz_bool rfl)
  | cons a r =>
    conv => whnf
    exact retP rfl (frz_bool (by simp))
/-- A list that was cut. -/
structure CutS (p q : List FP) (r : CRes) : Prop where
  ex : ∃ (pl ql : List Freed) (s1 s2 : Sh), r = .ret (.tup [.lst s1.sz (pl.map Freed.av) s1.c, .lst s2.sz (ql.map Freed.av) s2.c]) ∧ pl.map Freed.core = p ∧ ql.map Freed.core = q ∧ (∀ f ∈ pl, f.Ok) ∧ (∀ f ∈ ql, f.Ok) ∧ (pl ≠ [] → s1.sz = 2) ∧ (ql ≠ [] → s2.sz = 2)
set_option maxRecDepth 10000 in
theorem cut_eq (hn : 2 ≤ n) (l : List Freed) (hl : l.length < 1048576) (hf : ∀ f ∈ l, f.Ok ∧ f.pages.length < 1048576) (hne : ∀ f ∈ l, f.pages ≠ []) (sz : Nat) (hz : l ≠ [] → sz = 2) (c : Bool) : ∃ r, (∀ h, C n 139 [.lst sz (l.map Freed.av) c] h = some (r, h)) ∧ CutS (cutQ 490 (l.map Freed.core)).1 (cutQ 490 (l.map Freed.core)).2 r := by
  obtain ⟨m, rfl⟩ : ∃ m, n = m + 1 := ⟨n - 1, by omega⟩
  refine fun_pureX F139 rfl rfl rfl (pure_lst freed_pure l rfl) ?_
  conv => whnf
  refine loopI (by decide) rfl (α := Nat × Nat × AV × AHeap × List FQ) (fun x => ⟨[(0, .lst sz (l.map Freed.av) c), (2, x.2.2.1), (3, .lst 0 [] true), (4, i64 x.2.1), (8, .lst sz (l.map Freed.av) c), (9, i64 l.length), (10, i64 x.1)], x.2.2.2.1, []⟩)
    (fun x => x.1 ≤ l.length ∧ x.2.1 ≤ 490 ∧ LB false 0 x.2.2.2.1 x.2.2.1 x.2.2.2.2 ∧ x.2.2.2.2.length = x.1 ∧ cutQ 490 (l.map Freed.core) = (x.2.2.2.2.map coreQ ++ (cutQ x.2.1 ((l.drop x.1).map Freed.core)).1, (cutQ x.2.1 ((l.drop x.1).map Freed.core)).2)) (fun x => l.length - x.1) (0, 490, .lst 0 [] true, [], []) ⟨⟨rfl, rfl, rfl, rfl, rfl, lenI _ _, rfl⟩, rfl, rfl⟩ ⟨Nat.zero_le _, Nat.le_refl _, LB.nil, rfl, by simp⟩ (by show l.length - 0 < KK; simp only [KK]; omega) ?_
  rintro ⟨j, room, L, hp, ts⟩ ⟨g1, g2, g3, g5, g4⟩
  simp only at g1 g2 g3 g4 g5
  conv => whnf
  refine brd (fun a => ?_) (fun a => ?_)
  · have hj : j < l.length := by simp only at a; omega
    obtain ⟨f1, f2⟩ := hf _ (List.getElem_mem hj)
    have f3 := hne _ (List.getElem_mem hj)
    have hlen : 0 < l[j].pages.length := by
      cases hc : l[j].pages with
      | nil => exact (f3 hc).elim
      | cons => simp
    have hqb := quo8 g2
    have hdr : l.drop j = l[j] :: l.drop (j + 1) := List.drop_eq_getElem_cons hj
    have hdne : l.drop j ≠ [] := fun e => by
      have := congrArg List.length e
      rw [List.length_drop, List.length_nil] at this
      omega
    rw [hdr, List.map_cons] at g4
    by_cases hb : room < 12
    · conv => whnf
      refine ixL freed_cells hj hz ?_
      conv => whnf
      refine stI (get_last _ _) (xs := l[j].cells) (by rfl) (by rfl) (by rfl) (by rfl) ?_
      conv => whnf
      refine zI (z := (room : Int) - 8) (wrap_i64 (by simp only; omega) (by simp only; omega)) ?_
      conv => whnf
      refine ⟨by decide, ((room : Int) - 8).tdiv 4, wrap_i64 (by omega) (by omega), ?_⟩
      conv => whnf
      refine ldI (get_set_last _ _ _) ?_
      conv => whnf
      refine ⟨_, rfl, ?_⟩
      conv => whnf
      refine brd (fun _ => ?_) (fun b => absurd (by simp only; omega) b)
      conv => whnf
      refine slI (sl_lo Freed.av l hz c j (by omega)) ?_
      conv => whnf
      refine apI (app_frd _ [] (l.drop j) (z := 0) (z' := 2) (fun q => (q rfl).elim) (fun _ => rfl) _ hdne (by rw [List.length_drop]; simp; omega)) ?_
      have hcut : cutQ 490 (l.map Freed.core) = (ts.map coreQ, (l.drop j).map Freed.core) := by
        rw [g4, cutQ_low hb, hdr, List.map_cons]
        simp
      have g6 : LB false 0 (((hp ++ [AB.cells 0 (some tFrd) [i64 0, .lst 0 [] true] 0]).set hp.length (.cells 0 (some tFrd) (putAt [i64 0, .lst 0 [] true] 0 l[j].cells) 0)) ++ [AB.cells 0 (some tFrd) (rowF' ([] ++ l.drop j)).flatten 0]) L ts := g3.old fun k _ hk => by
        rw [List.getElem?_append_left (by simp; omega), List.getElem?_set_ne (by omega), List.getElem?_append_left hk]
      obtain ⟨sh, e1, e2, _⟩ := g6.frz 60
      have e3 := frz_frd (hp := ((hp ++ [AB.cells 0 (some tFrd) [i64 0, .lst 0 [] true] 0]).set hp.length (.cells 0 (some tFrd) (putAt [i64 0, .lst 0 [] true] 0 l[j].cells) 0)) ++ [AB.cells 0 (some tFrd) (rowF' ([] ++ l.drop j)).flatten 0]) (b := ((hp ++ [AB.cells 0 (some tFrd) [i64 0, .lst 0 [] true] 0]).set hp.length (.cells 0 (some tFrd) (putAt [i64 0, .lst 0 [] true] 0 l[j].cells) 0)).length) (l := [] ++ l.drop j) (ver := 0) (f := 0) (el := some tFrd) (by simp) 60
      conv => whnf
      refine ⟨_, rfl, _, ⟨_, frz_tup2 e1 e3, rfl⟩, ⟨ts.map toQ, l.drop j, sh, ⟨2, false⟩, rfl, ?_, ?_, ?_, ?_, ?_, fun _ => rfl⟩⟩
      · rw [hcut, toQ_core]
      · rw [hcut]
      · exact fun f hm => by obtain ⟨t, ht, rfl⟩ := List.mem_map.1 hm; exact toQ_ok (g3.val t ht)
      · exact fun f hm => (hf f (List.mem_of_mem_drop hm)).1
      · exact fun q => e2 fun e => q (by rw [e]; rfl)
    · have hk : (room - 8) / 4 ≤ room - 8 := Nat.div_le_self _ _
      generalize hkd : min ((room - 8) / 4) l[j].pages.length = k
      have hk1 : 1 ≤ k := by omega
      have hk2 : k ≤ l[j].pages.length := by omega
      have hk3 : 8 + 4 * k ≤ room := by omega
      have htk : l[j].pages.take k ≠ [] := fun e => by
        have := congrArg List.length e
        rw [List.length_take, List.length_nil] at this
        omega
      have hlt : (l[j].pages.take k).length < 1073741824 := by rw [List.length_take]; omega
      conv => whnf
      refine ixL freed_cells hj hz ?_
      conv => whnf
      refine stI (get_last _ _) (xs := l[j].cells) (by rfl) (by rfl) (by rfl) (by rfl) ?_
      conv => whnf
      refine zI (z := (room : Int) - 8) (wrap_i64 (by simp only; omega) (by simp only; omega)) ?_
      conv => whnf
      refine ⟨by decide, ((room : Int) - 8).tdiv 4, wrap_i64 (by omega) (by omega), ?_⟩
      conv => whnf
      refine ldI (get_set_last _ _ _) ?_
      conv => whnf
      refine ⟨(k : Int), by rw [quo8' (by omega), List.length_map]; simp only [cond_false]; split <;> omega, ?_⟩
      conv => whnf
      refine brd (fun b => absurd b (by simp only; omega)) (fun _ => ?_)
      conv => whnf
      refine brd (fun b => absurd b (by omega)) (fun _ => ?_)
      conv => whnf
      refine ldI (get_set_last _ _ _) ?_
      conv => whnf
      refine ldI (get_set_last _ _ _) ?_
      conv => whnf
      refine slI (sl_hi i64 l[j].pages f1 l[j].sh.c k hk2) ?_
      conv => whnf
      refine clI (cloneN_eq (n := m) (by omega) htk hlt _) ?_
      have hH : ((hp ++ [AB.cells 0 (some tFrd) [i64 0, .lst 0 [] true] 0]).set hp.length (.cells 0 (some tFrd) (putAt [i64 0, .lst 0 [] true] 0 l[j].cells) 0)).length = hp.length + 1 := by simp
      have fX : ∀ z : AB, (((hp ++ [AB.cells 0 (some tFrd) [i64 0, .lst 0 [] true] 0]).set hp.length (.cells 0 (some tFrd) (putAt [i64 0, .lst 0 [] true] 0 l[j].cells) 0)) ++ [z])[hp.length]? = some (.cells 0 (some tFrd) (putAt [i64 0, .lst 0 [] true] 0 l[j].cells) 0) := fun z => by rw [List.getElem?_append_left (by simp), List.getElem?_set_self (by simp)]
      have g6 : LB false 0 (((hp ++ [AB.cells 0 (some tFrd) [i64 0, .lst 0 [] true] 0]).set hp.length (.cells 0 (some tFrd) (putAt [i64 0, .lst 0 [] true] 0 l[j].cells) 0)) ++ [AB.cells 0 (some 3) ((l[j].pages.take k).map i64) 0]) L ts := g3.old fun i _ hk => by
        rw [List.getElem?_append_left (by simp; omega), List.getElem?_set_ne (by omega), List.getElem?_append_left hk]
      obtain ⟨L', hp', ea, g7, _, hle, hkp⟩ := g6.push (Nat.zero_le _) (l[j].ver, l[j].pages.take k, .sl 1 ((hp ++ [AB.cells 0 (some tFrd) [i64 0, .lst 0 [] true] 0]).set hp.length (.cells 0 (some tFrd) (putAt [i64 0, .lst 0 [] true] 0 l[j].cells) 0)).length 0 0 (l[j].pages.take k).length) (.inl (.inr ⟨_, 0, 0, rfl, by simp, Nat.zero_le _⟩)) (fun b hb => ⟨Nat.zero_le _, fun e => by
        have h1 := (g3.lt (.inl e)).1
        cases hb
        omega⟩) (fun s hs b hb1 hb2 => by
        have h1 := (g3.lt (.inr ⟨s, hs, hb1⟩)).1
        cases hb2
        omega) (by omega)
      have fY : hp'[hp.length]? = some (.cells 0 (some tFrd) (putAt [i64 0, .lst 0 [] true] 0 l[j].cells) 0) := by
        rw [hkp _ (by rw [List.length_append, hH]; simp; omega) fun e => by have h1 := (g3.lt (.inl e)).1; omega]
        exact fX _
      conv => whnf
      refine ⟨?_, ?_⟩
      · repeat' first | ((conv => whnf) <;> done) | ((conv => whnf) <;> (first | exact ldI (fX _) rfl | exact slI (sl_hi i64 l[j].pages f1 l[j].sh.c k hk2) rfl | refine ⟨?_, ?_⟩))
      conv => whnf
      refine ⟨rfl, ?_⟩
      conv => whnf
      refine apI ea ?_
      conv => whnf
      refine ⟨?_, ?_⟩
      · repeat' first | ((conv => whnf) <;> done) | ((conv => whnf) <;> (first | exact ldI (fY) rfl | exact slI (sl_hi i64 l[j].pages f1 l[j].sh.c k hk2) rfl | refine ⟨?_, ?_⟩))
      conv => whnf
      refine zI (z := ((4 * k : Nat) : Int)) (by rw [wrap_i64 (by omega) (by omega)]; omega) ?_
      conv => whnf
      refine zI (z := ((8 + 4 * k : Nat) : Int)) (by rw [wrap_i64 (by omega) (by omega)]; omega) ?_
      conv => whnf
      refine zI (z := ((room - (8 + 4 * k) : Nat) : Int)) (by rw [wrap_i64 (by simp only; omega) (by simp only; omega)]; simp only; omega) ?_
      conv => whnf
      refine ldI fY ?_
      conv => whnf
      have htc : (ts ++ [((l[j].ver, l[j].pages.take k, AV.sl 1 ((hp ++ [AB.cells 0 (some tFrd) [i64 0, .lst 0 [] true] 0]).set hp.length (.cells 0 (some tFrd) (putAt [i64 0, .lst 0 [] true] 0 l[j].cells) 0)).length 0 0 (l[j].pages.take k).length) : FQ)]).map coreQ = ts.map coreQ ++ [(l[j].ver, l[j].pages.take k)] := by rw [List.map_append]; rfl
      refine brd (fun d => ?_) (fun d => ?_)
      · have hd : k < l[j].pages.length := by rw [List.length_map] at d; omega
        have hkk : (room - 8) / 4 = k := by omega
        have hcut : cutQ 490 (l.map Freed.core) = (ts.map coreQ ++ [(l[j].ver, l[j].pages.take k)], (l[j].ver, l[j].pages.drop k) :: (l.drop (j + 1)).map Freed.core) := by
          rw [g4]
          unfold Freed.core
          simp only [cutQ]
          rw [if_neg hb, hkk, if_pos hd]
        conv => whnf
        refine ldI fY ?_
        conv => whnf
        refine ldI fY ?_
        conv => whnf
        refine slI (sl_lo i64 l[j].pages f1 l[j].sh.c k hk2) ?_
        conv => whnf
        refine ⟨rfl, ?_⟩
        conv => whnf
        refine zI (z := ((j + 1 : Nat) : Int)) (by rw [wrap_i64 (by simp only; omega) (by simp only; omega)]; rfl) ?_
        conv => whnf
        refine slI (sl_lo Freed.av l hz c (j + 1) (by omega)) ?_
        have hnf : ((⟨l[j].ver, ⟨1, (1 != 0 && (l[j].sh.c && ((l[j].pages.length : Int) == (l[j].pages.length : Nat))))⟩, l[j].pages.drop k⟩ : Freed)).Ok := fun _ => rfl
        by_cases hdn : l.drop (j + 1) = []
        · have ex : appR hp' tFrd 2 (.lst 2 ([(⟨l[j].ver, ⟨1, (1 != 0 && (l[j].sh.c && ((l[j].pages.length : Int) == (l[j].pages.length : Nat))))⟩, l[j].pages.drop k⟩ : Freed)].map Freed.av) true) (.lst 2 ((l.drop (j + 1)).map Freed.av) (2 != 0 && (c && ((l.length : Int) == (l.length : Nat))))) = some (.lst 2 ([(⟨l[j].ver, ⟨1, (1 != 0 && (l[j].sh.c && ((l[j].pages.length : Int) == (l[j].pages.length : Nat))))⟩, l[j].pages.drop k⟩ : Freed)].map Freed.av) true, none) := by
            rw [hdn]; rfl
          obtain ⟨sh, e1, e2, _⟩ := g7.frz 60
          have e3 : Abs.frz hp' 63 (.lst 2 ([(⟨l[j].ver, ⟨1, (1 != 0 && (l[j].sh.c && ((l[j].pages.length : Int) == (l[j].pages.length : Nat))))⟩, l[j].pages.drop k⟩ : Freed)].map Freed.av) true) = some (.lst 2 ([(⟨l[j].ver, ⟨1, (1 != 0 && (l[j].sh.c && ((l[j].pages.length : Int) == (l[j].pages.length : Nat))))⟩, l[j].pages.drop k⟩ : Freed)].map Freed.av) true) := freedL_frz _ hp'
          conv => whnf
          refine ⟨_, ex, ?_⟩
          conv => whnf
          refine ⟨_, rfl, _, ⟨_, frz_tup2 e1 e3, rfl⟩, ⟨_, [_], sh, ⟨2, true⟩, rfl, ?_, ?_, ?_, ?_, ?_, fun _ => rfl⟩⟩
          · rw [hcut, toQ_core, htc]
          · rw [hcut, hdn]; rfl
          · exact fun f hm => by obtain ⟨t, ht, rfl⟩ := List.mem_map.1 hm; exact toQ_ok (g7.val t ht)
          · exact fun f hm => by rw [List.mem_singleton] at hm; subst hm; exact hnf
          · exact fun q => e2 fun e => q (by rw [e]; rfl)
        · have ex := app_frd hp' [(⟨l[j].ver, ⟨1, (1 != 0 && (l[j].sh.c && ((l[j].pages.length : Int) == (l[j].pages.length : Nat))))⟩, l[j].pages.drop k⟩ : Freed)] (l.drop (j + 1)) (z := 2) (z' := 2) (fun _ => rfl) (fun _ => rfl) (2 != 0 && (c && ((l.length : Int) == (l.length : Nat)))) hdn (by rw [List.length_drop]; simp; omega)
          have g8 : LB false 0 (hp' ++ [AB.cells 0 (some tFrd) (rowF' ([(⟨l[j].ver, ⟨1, (1 != 0 && (l[j].sh.c && ((l[j].pages.length : Int) == (l[j].pages.length : Nat))))⟩, l[j].pages.drop k⟩ : Freed)] ++ l.drop (j + 1))).flatten 0]) L' _ := g7.old fun i _ hi => by rw [List.getElem?_append_left hi]
          obtain ⟨sh, e1, e2, _⟩ := g8.frz 60
          have e3 := frz_frd (hp := hp' ++ [AB.cells 0 (some tFrd) (rowF' ([(⟨l[j].ver, ⟨1, (1 != 0 && (l[j].sh.c && ((l[j].pages.length : Int) == (l[j].pages.length : Nat))))⟩, l[j].pages.drop k⟩ : Freed)] ++ l.drop (j + 1))).flatten 0]) (b := hp'.length) (l := [(⟨l[j].ver, ⟨1, (1 != 0 && (l[j].sh.c && ((l[j].pages.length : Int) == (l[j].pages.length : Nat))))⟩, l[j].pages.drop k⟩ : Freed)] ++ l.drop (j + 1)) (ver := 0) (f := 0) (el := some tFrd) (by simp) 60
          conv => whnf
          refine ⟨_, ex, ?_⟩
          conv => whnf
          refine ⟨_, rfl, _, ⟨_, frz_tup2 e1 e3, rfl⟩, ⟨_, _, sh, ⟨2, false⟩, rfl, ?_, ?_, ?_, ?_, ?_, fun _ => rfl⟩⟩
          · rw [hcut, toQ_core, htc]
          · rw [hcut]; rfl
          · exact fun f hm => by obtain ⟨t, ht, rfl⟩ := List.mem_map.1 hm; exact toQ_ok (g8.val t ht)
          · exact fun f hm => by
              rcases List.mem_cons.1 hm with rfl | hm
              · exact hnf
              · exact (hf f (List.mem_of_mem_drop hm)).1
          · exact fun q => e2 fun e => q (by rw [e]; rfl)
      · have hd : k = l[j].pages.length := by rw [List.length_map] at d; omega
        have hcut : cutQ 490 (l.map Freed.core) = ((ts.map coreQ ++ [(l[j].ver, l[j].pages.take k)]) ++ (cutQ (room - (8 + 4 * k)) ((l.drop (j + 1)).map Freed.core)).1, (cutQ (room - (8 + 4 * k)) ((l.drop (j + 1)).map Freed.core)).2) := by
          rw [g4]
          unfold Freed.core
          simp only [cutQ]
          rw [if_neg hb, if_neg (by omega), hd, List.take_length, show room - (8 + 4 * l[j].pages.length) = room - 8 - 4 * l[j].pages.length by omega]
          simp
        conv => whnf
        refine zI (z := ((j + 1 : Nat) : Int)) (by rw [wrap_i64 (by simp only; omega) (by simp only; omega)]; rfl) ?_
        refine nxI (j + 1, room - (8 + 4 * k), L', hp', ts ++ [(l[j].ver, l[j].pages.take k, .sl 1 ((hp ++ [AB.cells 0 (some tFrd) [i64 0, .lst 0 [] true] 0]).set hp.length (.cells 0 (some tFrd) (putAt [i64 0, .lst 0 [] true] 0 l[j].cells) 0)).length 0 0 (l[j].pages.take k).length)]) ⟨hj, by simp only; omega, g7, by simp [g5], by simp only; rw [htc]; exact hcut⟩ (by simp only; omega) ⟨⟨rfl, rfl, rfl, rfl, rfl, rfl, rfl⟩, rfl, rfl⟩
  · have hj : j = l.length := by simp only at a; omega
    subst hj
    obtain ⟨sh, e1, e2, _⟩ := g3.frz 60
    conv => whnf
    refine cutI (by decide) rfl (t := ⟨[(2, L)], hp, []⟩) ⟨rfl, rfl, rfl⟩ ?_
    conv => whnf
    rw [List.drop_length] at g4
    simp only [List.map_nil, cutQ, List.append_nil] at g4
    refine ⟨_, rfl, _, ⟨_, frz_tup2 e1 rfl, rfl⟩, ⟨ts.map toQ, [], sh, ⟨0, true⟩, rfl, ?_, ?_, ?_, (fun f hm => (by cases hm)), ?_, fun q => (q rfl).elim⟩⟩
    · rw [g4, toQ_core]
    · rw [g4]; rfl
    · exact fun f hm => by obtain ⟨t, ht, rfl⟩ := List.mem_map.1 hm; exact toQ_ok (g3.val t ht)
    · exact fun q => e2 fun e => q (by rw [e]; rfl)
end
end Go.Proofs
/- Contracts: a list of freed pages in parts. -/
set_option linter.unusedVariables false
set_option linter.unusedSimpArgs false
namespace Go.Proofs
open Go Go.Abs
/-- The parts of a list. -/
inductive Parts : List FP → List (List FP) → Prop
  | nil : Parts [] []
  | step {l : List FP} {ds : List (List FP)} : l ≠ [] → Parts (cutQ 490 l).2 ds → Parts l ((cutQ 490 l).1 :: ds)
theorem Parts.one {l : List FP} {a b : List (List FP)} (h : Parts l a) : Parts l b → a = b := by
  induction h generalizing b with
  | nil =>
    intro h2
    cases h2 with
    | nil => rfl
    | step h => exact (h rfl).elim
  | step h _ ih =>
    intro h2
    cases h2 with
    | nil => exact (h rfl).elim
    | step h' h2 => rw [ih h2]
/-- How much a list has. -/
def wgt (l : List FP) : Nat := (l.map fun x => x.2.length + 1).sum
theorem cutQ_wgt : ∀ (room : Nat) (l : List FP), wgt (cutQ room l).2 ≤ wgt l
  | _, [] => Nat.le_refl _
  | room, (v, ps) :: r => by
    unfold cutQ
    split
    · exact Nat.le_refl _
    · split
      · rename_i h
        simp only [wgt, List.map_cons, List.sum_cons, List.length_drop]
        omega
      · have := cutQ_wgt (room - 8 - 4 * ps.length) r
        simp only [wgt, List.map_cons, List.sum_cons] at this ⊢
        omega
theorem cutQ_less {l : List FP} (hne : l ≠ []) : wgt (cutQ 490 l).2 < wgt l := by
  cases l with
  | nil => exact (hne rfl).elim
  | cons a r =>
    obtain ⟨v, ps⟩ := a
    unfold cutQ
    rw [if_neg (by decide)]
    split
    · rename_i h
      simp only [wgt, List.map_cons, List.sum_cons, List.length_drop]
      omega
    · have := cutQ_wgt (490 - 8 - 4 * ps.length) r
      simp only [wgt, List.map_cons, List.sum_cons] at this ⊢
      omega
/-- What is left of a list has numbers in each of its elements, and no more of them. -/
theorem cutQ_left : ∀ (room : Nat) (l : List FP), (∀ x ∈ l, x.2 ≠ [] ∧ x.2.length < 1048576) → ∀ x ∈ (cutQ room l).2, x.2 ≠ [] ∧ x.2.length < 1048576
  | _, [], h, x, hx => by cases hx
  | room, (v, ps) :: r, h, x, hx => by
    unfold cutQ at hx
    split at hx
    · exact h x hx
    · split at hx
      · rename_i h2
        rcases List.mem_cons.1 hx with rfl | hx
        · have := (h _ (List.mem_cons_self ..)).2
          simp only at this ⊢
          refine ⟨fun e => ?_, by rw [List.length_drop]; omega⟩
          have := congrArg List.length e
          rw [List.length_drop, List.length_nil] at this
          omega
        · exact h x (List.mem_cons_of_mem _ hx)
      · exact cutQ_left _ r (fun x hx => h x (List.mem_cons_of_mem _ hx)) x hx
theorem cutQ_len : ∀ (room : Nat) (l : List FP), (cutQ room l).2.length ≤ l.length
  | _, [] => Nat.le_refl _
  | room, (v, ps) :: r => by
    unfold cutQ
    split
    · exact Nat.le_refl _
    · split
      · simp
      · have := cutQ_len (room - 8 - 4 * ps.length) r
        simp only [List.length_cons]
        omega
/-- A list of lists of freed pages, as values. -/
abbrev LP : Type := List Freed × Sh
def avP (x : LP) : AV := .lst x.2.sz (x.1.map Freed.av) x.2.c
def LP.Ok (x : LP) : Prop := (x.1 ≠ [] → x.2.sz = 2) ∧ ∀ f ∈ x.1, f.Ok
def coreP (x : LP) : List FP := x.1.map Freed.core
structure PartsS (l : List FP) (r : CRes) : Prop where
  ex : ∃ (ds : List LP) (sh : Sh), r = .ret (.lst sh.sz (ds.map avP) sh.c) ∧ Parts l (ds.map coreP) ∧ (∀ x ∈ ds, x.Ok) ∧ (ds ≠ [] → sh.sz = 1)
theorem avP_frz {n : Nat} (x : LP) : FrzOk (n + 4) (avP x) := freedL_frz x.1
theorem vbuf_frzL {el : TypeId} {hp : AHeap} {L : AV} {xs : List LP} {n : Nat} (b : VBuf el 1 hp L ((xs.map avP).map fun x => [x])) : ∃ sh : Sh, Abs.frz hp (n + 5) L = some (.lst sh.sz (xs.map avP) sh.c) ∧ (xs ≠ [] → sh.sz = 1) := by
  obtain ⟨sh, e1, e2⟩ := vbuf_frz (n := n + 4) b (fun x hx => by
    obtain ⟨y, _, rfl⟩ := List.mem_map.1 hx
    exact avP_frz y hp)
  exact ⟨sh, e1, fun h => e2 (by simpa using h)⟩
section
variable {n : Nat} {h : AHeap}
set_option maxRecDepth 10000 in
theorem dividedF_eq (hn : 3 ≤ n) (l : List Freed) (hl : l.length < 1048576) (hf : ∀ f ∈ l, f.Ok ∧ f.pages.length < 1048576) (hne : ∀ f ∈ l, f.pages ≠ []) (hw : wgt (l.map Freed.core) < 1048576) (sz : Nat) (hz : l ≠ [] → sz = 2) (c : Bool) : ∃ r, (∀ h, C n 137 [.lst sz (l.map Freed.av) c, .fn (.func 138) [] [], .fn (.func 139) [] []] h = some (r, h)) ∧ PartsS (l.map Freed.core) r := by
  obtain ⟨m, rfl⟩ : ∃ m, n = m + 1 := ⟨n - 1, by omega⟩
  have c1 : ∀ (l : List Freed) sz c h, C m 138 [.lst sz (l.map Freed.av) c] h = some (.ret (.bool (decide (l ≠ []))), h) := fun l sz c h => more_eq (by omega) l sz c
  have fine1 : fnOk Tryz.prog 138 = true := by kernel_rfl
  have fine2 : fnOk Tryz.prog 139 = true := by kernel_rfl
  refine fun_pureX F137 rfl rfl rfl (pure_lst freed_pure l rfl) ?_
  conv => whnf
  refine loopI (by decide) rfl (α := List Freed × Sh × AV × AHeap × List LP) (fun x => ⟨[(0, .lst x.2.1.sz (x.1.map Freed.av) x.2.1.c), (1, .fn (.func 138) [] []), (2, .fn (.func 139) [] []), (7, x.2.2.1)], x.2.2.2.1, []⟩)
    (fun x => (x.1.length < 1048576 ∧ (∀ f ∈ x.1, f.Ok ∧ f.pages.length < 1048576) ∧ (∀ f ∈ x.1, f.pages ≠ []) ∧ (x.1 ≠ [] → x.2.1.sz = 2)) ∧ VBuf 23 1 x.2.2.2.1 x.2.2.1 ((x.2.2.2.2.map avP).map fun x => [x]) ∧ (∀ y ∈ x.2.2.2.2, y.Ok) ∧ (∀ ds, Parts (x.1.map Freed.core) ds → Parts (l.map Freed.core) (x.2.2.2.2.map coreP ++ ds)) ∧ x.2.2.2.2.length + wgt (x.1.map Freed.core) ≤ wgt (l.map Freed.core)) (fun x => wgt (x.1.map Freed.core)) (l, ⟨sz, c⟩, .lst 0 [] true, [], []) ⟨⟨rfl, rfl, rfl, rfl⟩, rfl, rfl⟩ ⟨⟨hl, hf, hne, hz⟩, VBuf.nil, by simp, fun ds h => h, by simp⟩ (by show wgt _ < KK; simp only [KK]; omega) ?_
  rintro ⟨r, sh, L, hp, ds⟩ ⟨⟨g1, g2, g3, g4⟩, g5, g6, g7, g8⟩
  simp only at g1 g2 g3 g4 g5 g6 g7 g8
  conv => whnf
  refine cvI fine1 (c1 _ _ _ _) ?_
  conv => whnf
  refine brd (fun a => ?_) (fun a => ?_)
  · obtain ⟨r1, e1, ⟨pl, ql, s1, s2, rfl, p1, p2, p3, p4, p5, p6⟩⟩ := cut_eq (n := m) (by omega) r g1 g2 g3 sh.sz g4 sh.c
    have hcne : r.map Freed.core ≠ [] := by simpa using a
    have hleft := cutQ_left 490 (r.map Freed.core) (fun x hx => by obtain ⟨f, hf', rfl⟩ := List.mem_map.1 hx; exact ⟨g3 f hf', (g2 f hf').2⟩)
    have hless := cutQ_less hcne
    have hql : ql.length ≤ r.length := by
      have := cutQ_len 490 (r.map Freed.core)
      rw [← p2, List.length_map, List.length_map] at this
      exact this
    rw [← p2] at hleft hless
    have hin : ∀ f ∈ ql, f.pages ≠ [] ∧ f.pages.length < 1048576 := fun f hm => hleft _ (List.mem_map.2 ⟨f, hm, rfl⟩)
    obtain ⟨v, hp', ea, b', _⟩ := vbuf_app (x := .lst 1 [avP (pl, s1)] true) g5 rfl (vfirst_one hp rfl) ⟨rfl, rfl⟩ (by simp; omega)
    conv => whnf
    refine cvI fine2 (e1 _) ?_
    conv => whnf
    refine ⟨rfl, ?_⟩
    conv => whnf
    refine apI ea ?_
    conv => whnf
    refine nxI (ql, s2, v, hp', ds ++ [(pl, s1)]) ⟨⟨by simp only; omega, fun f hm => ⟨p4 f hm, (hin f hm).2⟩, fun f hm => (hin f hm).1, p6⟩, ?_, ?_, ?_, ?_⟩ hless ⟨⟨rfl, rfl, rfl, rfl⟩, rfl, rfl⟩
    · simp only [List.map_append, List.map_cons, List.map_nil]
      exact b'
    · intro y hy
      simp only [List.mem_append, List.mem_singleton] at hy
      rcases hy with hy | rfl
      · exact g6 y hy
      · exact ⟨p5, p3⟩
    · intro ds' hd
      have := g7 _ (Parts.step hcne (by rw [← p2]; exact hd))
      rw [← p1] at this
      simpa [coreP] using this
    · simp only [List.length_append, List.length_cons, List.length_nil]
      omega
  · have hr : r = [] := by simpa using a
    subst hr
    have := g7 [] Parts.nil
    rw [List.append_nil] at this
    obtain ⟨sh', e1, e2⟩ := vbuf_frzL (n := 59) g5
    conv => whnf
    refine cutI (by decide) rfl (t := ⟨[(7, L)], hp, []⟩) ⟨rfl, rfl, rfl⟩ ?_
    conv => whnf
    exact ⟨_, rfl, _, ⟨_, e1, rfl⟩, ⟨ds, sh', rfl, this, g6, e2⟩⟩
theorem listParts_eq (hn : 4 ≤ n) (l : List Freed) (hl : l.length < 1048576) (hf : ∀ f ∈ l, f.Ok ∧ f.pages.length < 1048576) (hne : ∀ f ∈ l, f.pages ≠ []) (hw : wgt (l.map Freed.core) < 1048576) (sz : Nat) (hz : l ≠ [] → sz = 2) (c : Bool) : ∃ r, (∀ h, C n 100 [.lst sz (l.map Freed.av) c] h = some (r, h)) ∧ PartsS (l.map Freed.core) r := by
  obtain ⟨m, rfl⟩ : ∃ m, n = m + 1 := ⟨n - 1, by omega⟩
  obtain ⟨r, e1, ⟨ds, sh, rfl, h1, h2, h3⟩⟩ := dividedF_eq (n := m) (by omega) l hl hf hne hw sz hz c
  refine ⟨_, fun h => ?_, ⟨ds, sh, rfl, h1, h2, h3⟩⟩
  refine fun_pure F100 rfl rfl rfl (pure_lst freed_pure l rfl) ?_
  conv => whnf
  refine clI (e1 _) ?_
  conv => whnf
  refine retP rfl ?_
  refine (frzOk_lst fun x hx => ?_) _
  obtain ⟨y, _, rfl⟩ := List.mem_map.1 hx
  exact avP_frz y
end
end Go.Proofs
/- Contracts: the reference's chain. -/
set_option linter.unusedVariables false
set_option linter.unusedSimpArgs false
namespace Go.Proofs
open Go Go.Abs
section
variable {n : Nat} {h : AHeap}
end
end Go.Proofs
/- Contracts: the reference's equality of pages. -/
set_option linter.unusedVariables false
set_option linter.unusedSimpArgs false
namespace Go.Proofs
open Go Go.Abs
section
variable {n : Nat} {h : AHeap}
theorem sameEnts_eq (hn : 1 ≤ n) (l : List Entry) (hl : l.length < 1099511627776) (sz sz' : Nat) (hz : l ≠ [] → sz = 22) (hz' : l ≠ [] → sz' = 22) (c c' : Bool) : C n 77 [.lst sz (l.map Entry.av) c, .lst sz' (l.map Entry.av) c'] h = some (.ret (.bool true), h) := by
  obtain ⟨m, rfl⟩ : ∃ m, n = m + 1 := ⟨n - 1, by omega⟩
  refine fun_pure F77 rfl rfl rfl (pure_lst entry_pure l (pure_lst entry_pure l rfl)) ?_
  conv => whnf
  refine brq (fun a => absurd rfl a) (fun _ => ?_)
  conv => whnf
  refine loopI (by decide) rfl (α := Nat) (fun x => ⟨[(0, .lst sz (l.map Entry.av) c), (1, .lst sz' (l.map Entry.av) c'), (5, i64 x)], [], []⟩) (fun x => x ≤ l.length) (fun x => l.length - x) 0 ⟨⟨rfl, rfl, rfl⟩, rfl, rfl⟩ (Nat.zero_le _) (by show l.length - 0 < KK; simp only [KK]; omega) ?_
  intro j g1
  conv => whnf
  refine brd (fun a => ?_) (fun a => ?_)
  · have hj : j < l.length := by simp only [List.length_map] at a; omega
    conv => whnf
    refine ixL entry_cells hj hz ?_
    conv => whnf
    refine ixL entry_cells hj hz' ?_
    conv => whnf
    refine eqI (eq_ent l[j]) ?_
    conv => whnf
    refine zI (z := ((j + 1 : Nat) : Int)) (by rw [wrap_i64 (by omega) (by omega)]; rfl) ?_
    exact nxI (j + 1) hj (by omega) ⟨⟨rfl, rfl, rfl⟩, rfl, rfl⟩
  · conv => whnf
    refine cutI (by decide) rfl (t := ⟨[], [], []⟩) ⟨trivial, rfl, rfl⟩ ?_
    conv => whnf
    exact retP rfl (frz_bool rfl)
theorem sameInts_eq (hn : 1 ≤ n) (l : List Int) (hl : l.length < 9223372036854775808) (sz sz' : Nat) (hz : l ≠ [] → sz = 1) (hz' : l ≠ [] → sz' = 1) (c c' : Bool) : C n 103 [.lst sz (l.map i64) c, .lst sz' (l.map i64) c'] h = some (.ret (.bool true), h) := by
  obtain ⟨m, rfl⟩ : ∃ m, n = m + 1 := ⟨n - 1, by omega⟩
  have hp : ∀ k : Int, (i64 k).pureB = true := fun _ => rfl
  refine fun_pure F103 rfl rfl rfl (pure_lst hp l (pure_lst hp l rfl)) ?_
  conv => whnf
  refine brq (fun a => absurd rfl a) (fun _ => ?_)
  conv => whnf
  refine loopI (by decide) rfl (α := Nat) (fun x => ⟨[(0, .lst sz (l.map i64) c), (1, .lst sz' (l.map i64) c'), (5, i64 x)], [], []⟩) (fun x => x ≤ l.length) (fun x => l.length - x) 0 ⟨⟨rfl, rfl, rfl⟩, rfl, rfl⟩ (Nat.zero_le _) (by show l.length - 0 < KK; simp only [KK]; omega) ?_
  intro j g1
  conv => whnf
  refine brd (fun a => ?_) (fun a => ?_)
  · have hj : j < l.length := by simp only [List.length_map] at a; omega
    have hne : l ≠ [] := by rintro rfl; simp at hj
    conv => whnf
    refine ⟨by omega, hz hne, i64 l[j], by simp [hj], [i64 l[j]], rfl, ?_⟩
    conv => whnf
    refine ⟨by omega, hz' hne, i64 l[j], by simp [hj], [i64 l[j]], rfl, ?_⟩
    conv => whnf
    refine brq (fun a => absurd rfl a) (fun _ => ?_)
    conv => whnf
    refine zI (z := ((j + 1 : Nat) : Int)) (by rw [wrap_i64 (by omega) (by omega)]; rfl) ?_
    exact nxI (j + 1) hj (by omega) ⟨⟨rfl, rfl, rfl⟩, rfl, rfl⟩
  · conv => whnf
    refine cutI (by decide) rfl (t := ⟨[], [], []⟩) ⟨trivial, rfl, rfl⟩ ?_
    conv => whnf
    exact retP rfl (frz_bool rfl)
theorem core_get {a b : List Freed} (h : a.map Freed.core = b.map Freed.core) {j : Nat} (ha : j < a.length) (hb : j < b.length) : a[j].ver = b[j].ver ∧ a[j].pages = b[j].pages := by
  have := core_at h j
  have e1 : a.getD j default = a[j] := by simp [ha]
  have e2 : b.getD j default = b[j] := by simp [hb]
  rw [e1, e2] at this
  exact this
theorem sameFreed_eq (hn : 2 ≤ n) (a b : List Freed) (hc : a.map Freed.core = b.map Freed.core) (hl : a.length < 1099511627776) (ha : ∀ f ∈ a, f.Ok ∧ f.pages.length < 9223372036854775808) (hb : ∀ f ∈ b, f.Ok ∧ f.pages.length < 9223372036854775808) (sz sz' : Nat) (hz : a ≠ [] → sz = 2) (hz' : b ≠ [] → sz' = 2) (c c' : Bool) : C n 44 [.lst sz (a.map Freed.av) c, .lst sz' (b.map Freed.av) c'] h = some (.ret (.bool true), h) := by
  obtain ⟨m, rfl⟩ : ∃ m, n = m + 1 := ⟨n - 1, by omega⟩
  have hlen := core_len hc
  refine fun_pure F44 rfl rfl rfl (pure_lst freed_pure a (pure_lst freed_pure b rfl)) ?_
  conv => whnf
  refine brq (fun q => absurd (by rw [List.length_map, List.length_map, hlen]) q) (fun _ => ?_)
  conv => whnf
  refine loopI (by decide) rfl (α := Nat) (fun x => ⟨[(0, .lst sz (a.map Freed.av) c), (1, .lst sz' (b.map Freed.av) c'), (5, i64 x)], [], []⟩) (fun x => x ≤ a.length) (fun x => a.length - x) 0 ⟨⟨rfl, rfl, rfl⟩, rfl, rfl⟩ (Nat.zero_le _) (by show a.length - 0 < KK; simp only [KK]; omega) ?_
  intro j g1
  conv => whnf
  refine brd (fun q => ?_) (fun q => ?_)
  · have hj : j < a.length := by simp only [List.length_map] at q; omega
    have hj' : j < b.length := by omega
    obtain ⟨e1, e2⟩ := core_get hc hj hj'
    obtain ⟨a1, a2⟩ := ha _ (List.getElem_mem hj)
    obtain ⟨b1, _⟩ := hb _ (List.getElem_mem hj')
    have cI : ∀ h, C m 103 [.lst a[j].sh.sz (a[j].pages.map i64) a[j].sh.c, .lst b[j].sh.sz (b[j].pages.map i64) b[j].sh.c] h = some (.ret (.bool true), h) := fun h => by
      rw [← e2]
      exact sameInts_eq (by omega) a[j].pages a2 _ _ a1 (by rw [e2]; exact b1) _ _
    conv => whnf
    refine ixL freed_cells hj hz ?_
    conv => whnf
    refine ixL freed_cells hj' hz' ?_
    conv => whnf
    refine brq (fun q => absurd e1 q) (fun _ => ?_)
    conv => whnf
    refine ixL freed_cells hj hz ?_
    conv => whnf
    refine ixL freed_cells hj' hz' ?_
    conv => whnf
    refine clI (cI _) ?_
    conv => whnf
    refine zI (z := ((j + 1 : Nat) : Int)) (by rw [wrap_i64 (by omega) (by omega)]; rfl) ?_
    exact nxI (j + 1) hj (by omega) ⟨⟨rfl, rfl, rfl⟩, rfl, rfl⟩
  · conv => whnf
    refine cutI (by decide) rfl (t := ⟨[], [], []⟩) ⟨trivial, rfl, rfl⟩ ?_
    conv => whnf
    exact retP rfl (frz_bool rfl)
theorem refSame_eq (hn : 3 ≤ n) {p q : Page} (hs : Same p q) (op : p.Ok) (oq : q.Ok) : C n 17 [p.av, q.av] h = some (.ret (.bool true), h) := by
  obtain ⟨m, rfl⟩ : ∃ m, n = m + 1 := ⟨n - 1, by omega⟩
  have cE : ∀ h, C m 77 [.lst p.esh.sz (p.entries.map Entry.av) p.esh.c, .lst q.esh.sz (q.entries.map Entry.av) q.esh.c] h = some (.ret (.bool true), h) := fun h => by
    rw [hs.entries]
    exact sameEnts_eq (by omega) p.entries op.elen _ _ op.esz (by rw [← hs.entries]; exact oq.esz) _ _
  have cF : ∀ h, C m 44 [.lst p.fsh.sz (p.freed.map Freed.av) p.fsh.c, .lst q.fsh.sz (q.freed.map Freed.av) q.fsh.c] h = some (.ret (.bool true), h) := fun h =>
    sameFreed_eq (by omega) p.freed q.freed hs.freed.symm (by have := op.flen; omega) op.fr oq.fr _ _ op.fsz oq.fsz _ _
  have hpure : pureBs [p.av, q.av] = true := by simp [pureBs, page_pure]
  refine fun_pure F17 rfl rfl rfl hpure ?_
  conv => whnf
  refine ldI (by rfl) ?_
  conv => whnf
  refine ldI (by rfl) ?_
  conv => whnf
  refine brq (fun a => absurd hs.kind.symm a) (fun _ => ?_)
  conv => whnf
  refine ldI (by rfl) ?_
  conv => whnf
  refine ldI (by rfl) ?_
  conv => whnf
  refine brq (fun a => absurd hs.no.symm a) (fun _ => ?_)
  conv => whnf
  refine ldI (by rfl) ?_
  conv => whnf
  refine ldI (by rfl) ?_
  conv => whnf
  refine brq (fun a => absurd hs.ver.symm a) (fun _ => ?_)
  conv => whnf
  refine ldI (by rfl) ?_
  conv => whnf
  refine ldI (by rfl) ?_
  conv => whnf
  refine brq (fun a => absurd hs.tree.symm a) (fun _ => ?_)
  conv => whnf
  refine ldI (by rfl) ?_
  conv => whnf
  refine ldI (by rfl) ?_
  conv => whnf
  refine brq (fun a => absurd hs.level.symm a) (fun _ => ?_)
  conv => whnf
  refine ldI (by rfl) ?_
  conv => whnf
  refine ldI (by rfl) ?_
  conv => whnf
  refine eqI (r := true) (by rw [eq_bool, hs.top]; simp) ?_
  conv => whnf
  refine ldI (by rfl) ?_
  conv => whnf
  refine ldI (by rfl) ?_
  conv => whnf
  refine brq (fun a => absurd hs.next.symm a) (fun _ => ?_)
  conv => whnf
  refine ldI (by rfl) ?_
  conv => whnf
  refine ldI (by rfl) ?_
  conv => whnf
  refine brq (fun a => absurd hs.data.symm a) (fun _ => ?_)
  conv => whnf
  refine ldI (by rfl) ?_
  conv => whnf
  refine ldI (by rfl) ?_
  conv => whnf
  refine clI (cE _) ?_
  conv => whnf
  refine ldI (by rfl) ?_
  conv => whnf
  refine ldI (by rfl) ?_
  conv => whnf
  refine clI (cF _) ?_
  conv => whnf
  exact retP rfl (frz_bool rfl)
end
end Go.Proofs
/- Contracts: the reference's equality of pages without entries. -/
set_option linter.unusedVariables false
set_option linter.unusedSimpArgs false
namespace Go.Proofs
open Go Go.Abs
section
variable {n : Nat} {h : AHeap}
theorem refInts_eq (hn : 1 ≤ n) (a b : List Int) (hl : a.length < 9223372036854775808) (sz sz' : Nat) (hz : a ≠ [] → sz = 1) (hz' : b ≠ [] → sz' = 1) (c c' : Bool) : C n 103 [.lst sz (a.map i64) c, .lst sz' (b.map i64) c'] h = some (.ret (.bool (decide (a = b))), h) := by
  obtain ⟨m, rfl⟩ : ∃ m, n = m + 1 := ⟨n - 1, by omega⟩
  refine fun_pure F103 rfl rfl rfl (ints_pure a (ints_pure b rfl)) ?_
  conv => whnf
  refine brq (fun q => ?_) (fun q => ?_)
  · conv => whnf
    refine retP rfl (frz_bool ?_)
    have : a ≠ b := by rintro rfl; exact q rfl
    simp [this]
  have hlen : a.length = b.length := by simp at q; omega
  conv => whnf
  refine loopI (by decide) rfl (α := Nat) (fun x => ⟨[(0, .lst sz (a.map i64) c), (1, .lst sz' (b.map i64) c'), (5, i64 x)], [], []⟩) (fun x => x ≤ a.length ∧ a.take x = b.take x) (fun x => a.length - x) 0 ⟨⟨rfl, rfl, rfl⟩, rfl, rfl⟩ ⟨Nat.zero_le _, rfl⟩ (by show a.length - 0 < KK; simp only [KK]; omega) ?_
  rintro j ⟨g1, g2⟩
  conv => whnf
  refine brd (fun d => ?_) (fun d => ?_)
  · have hj : j < a.length := by simp only [List.length_map] at d; omega
    have hj' : j < b.length := by omega
    have hne : a ≠ [] := by rintro rfl; simp at hj
    have hne' : b ≠ [] := by rintro rfl; simp at hj'
    conv => whnf
    refine ⟨by omega, hz hne, i64 a[j], by simp [hj], [i64 a[j]], rfl, ?_⟩
    conv => whnf
    refine ⟨by omega, hz' hne', i64 b[j], by simp [hj'], [i64 b[j]], rfl, ?_⟩
    conv => whnf
    refine brq (fun e => ?_) (fun e => ?_)
    · conv => whnf
      refine retP rfl (frz_bool ?_)
      have : a ≠ b := by rintro rfl; exact e rfl
      simp [this]
    · conv => whnf
      refine zI (z := ((j + 1 : Nat) : Int)) (by rw [wrap_i64 (by omega) (by omega)]; rfl) ?_
      exact nxI (j + 1) ⟨hj, take_eq_step hj hj' g2 e⟩ (by omega) ⟨⟨rfl, rfl, rfl⟩, rfl, rfl⟩
  · have hj : j = a.length := by simp only [List.length_map] at d; omega
    subst hj
    have e : a = b := by
      rw [List.take_length] at g2
      rw [g2, hlen, List.take_length]
    conv => whnf
    refine cutI (by decide) rfl (t := ⟨[], [], []⟩) ⟨trivial, rfl, rfl⟩ ?_
    conv => whnf
    exact retP rfl (frz_bool (by simp [e]))
theorem refFreeds_eq (hn : 2 ≤ n) (a b : List Freed) (hl : a.length < 1099511627776) (ha : ∀ f ∈ a, f.Ok ∧ f.pages.length < 9223372036854775808) (hb : ∀ f ∈ b, f.Ok) (sz sz' : Nat) (hz : a ≠ [] → sz = 2) (hz' : b ≠ [] → sz' = 2) (c c' : Bool) : C n 44 [.lst sz (a.map Freed.av) c, .lst sz' (b.map Freed.av) c'] h = some (.ret (.bool (decide (a.map Freed.core = b.map Freed.core))), h) := by
  obtain ⟨m, rfl⟩ : ∃ m, n = m + 1 := ⟨n - 1, by omega⟩
  refine fun_pure F44 rfl rfl rfl (pure_lst freed_pure a (pure_lst freed_pure b rfl)) ?_
  conv => whnf
  refine brq (fun q => ?_) (fun q => ?_)
  · conv => whnf
    refine retP rfl (frz_bool ?_)
    have : a.map Freed.core ≠ b.map Freed.core := fun e => q (by have := congrArg List.length e; simp at this; simp [this])
    simp [this]
  have hlen : a.length = b.length := by simp at q; omega
  conv => whnf
  refine loopI (by decide) rfl (α := Nat) (fun x => ⟨[(0, .lst sz (a.map Freed.av) c), (1, .lst sz' (b.map Freed.av) c'), (5, i64 x)], [], []⟩) (fun x => x ≤ a.length ∧ (a.take x).map Freed.core = (b.take x).map Freed.core) (fun x => a.length - x) 0 ⟨⟨rfl, rfl, rfl⟩, rfl, rfl⟩ ⟨Nat.zero_le _, rfl⟩ (by show a.length - 0 < KK; simp only [KK]; omega) ?_
  rintro j ⟨g1, g2⟩
  conv => whnf
  refine brd (fun q => ?_) (fun q => ?_)
  · have hj : j < a.length := by simp only [List.length_map] at q; omega
    have hj' : j < b.length := by omega
    obtain ⟨a1, a2⟩ := ha _ (List.getElem_mem hj)
    have b1 := hb _ (List.getElem_mem hj')
    have cI : ∀ h, C m 103 [.lst a[j].sh.sz (a[j].pages.map i64) a[j].sh.c, .lst b[j].sh.sz (b[j].pages.map i64) b[j].sh.c] h = some (.ret (.bool (decide (a[j].pages = b[j].pages))), h) := fun h => refInts_eq (by omega) a[j].pages b[j].pages a2 _ _ a1 b1 _ _
    conv => whnf
    refine ixL freed_cells hj hz ?_
    conv => whnf
    refine ixL freed_cells hj' hz' ?_
    conv => whnf
    refine brq (fun e => ?_) (fun e => ?_)
    · conv => whnf
      refine retP rfl (frz_bool ?_)
      have := core_ne hj hj' (fun q => e (by unfold Freed.core at q; exact (Prod.mk.inj q).1))
      simp [this]
    conv => whnf
    refine ixL freed_cells hj hz ?_
    conv => whnf
    refine ixL freed_cells hj' hz' ?_
    conv => whnf
    refine clI (cI _) ?_
    conv => whnf
    refine brn (fun e2 => ?_) (fun e2 => ?_)
    · conv => whnf
      refine retP rfl (frz_bool ?_)
      have := core_ne hj hj' (fun q => of_decide_eq_false e2 (by unfold Freed.core at q; exact (Prod.mk.inj q).2))
      simp [this]
    conv => whnf
    refine zI (z := ((j + 1 : Nat) : Int)) (by rw [wrap_i64 (by omega) (by omega)]; rfl) ?_
    exact nxI (j + 1) ⟨hj, core_step hj hj' g2 (by unfold Freed.core; rw [e, of_decide_eq_true e2])⟩ (by omega) ⟨⟨rfl, rfl, rfl⟩, rfl, rfl⟩
  · have hj : j = a.length := by simp only [List.length_map] at q; omega
    subst hj
    have e : a.map Freed.core = b.map Freed.core := by
      rw [List.take_length] at g2
      rw [g2, hlen, List.take_length]
    conv => whnf
    refine cutI (by decide) rfl (t := ⟨[], [], []⟩) ⟨trivial, rfl, rfl⟩ ?_
    conv => whnf
    exact retP rfl (frz_bool (by simp [e]))
end
end Go.Proofs
/- Contracts: the reference's joined value. -/
set_option linter.unusedVariables false
set_option linter.unusedSimpArgs false
namespace Go.Proofs
open Go Go.Abs
/-- A page without entries, as its kind asks. -/
structure Bare (q : Page) : Prop where
  tree : q.tree = 0
  level : q.level = 0
  top : q.top = false
  entries : q.entries = []
theorem chain_bare {ps : List Str} {no : List Int} {v : Int} : ∀ q ∈ chainPs ps no v, Bare q := fun q hq => by
  obtain ⟨k, _, rfl⟩ := List.mem_map.1 hq
  exact ⟨rfl, rfl, rfl, rfl⟩
section
variable {n : Nat} {h : AHeap}
end
end Go.Proofs
/- Contracts: how many pages a list needs, the pages of a list. -/
set_option linter.unusedVariables false
set_option linter.unusedSimpArgs false
namespace Go.Proofs
open Go Go.Abs
theorem Parts.ex : ∀ (k : Nat) (l : List FP), wgt l ≤ k → ∃ ds, Parts l ds
  | 0, l, h => by
    cases l with
    | nil => exact ⟨_, Parts.nil⟩
    | cons a r => simp [wgt] at h
  | k + 1, l, h => by
    by_cases e : l = []
    · subst e; exact ⟨_, Parts.nil⟩
    · have := cutQ_less e
      obtain ⟨ds, hd⟩ := Parts.ex k (cutQ 490 l).2 (by omega)
      exact ⟨_, Parts.step e hd⟩
noncomputable def partsOf (l : List FP) : List (List FP) := Classical.choose (Parts.ex (wgt l) l (Nat.le_refl _))
theorem partsOf_spec (l : List FP) : Parts l (partsOf l) := Classical.choose_spec (Parts.ex (wgt l) l (Nat.le_refl _))
theorem Parts.eq {l : List FP} {ds : List (List FP)} (h : Parts l ds) : ds = partsOf l := h.one (partsOf_spec l)
theorem freedOk_ne {l : List Freed} (h : freedOk l = true) : ∀ f ∈ l, f.pages ≠ [] := fun f hf => by
  obtain ⟨j, hj, rfl⟩ := List.mem_iff_getElem.1 hf
  exact (freedOk_at h hj).2.1
theorem Parts.len {l : List FP} {ds : List (List FP)} (h : Parts l ds) : ds.length ≤ wgt l := by
  induction h with
  | nil => exact Nat.zero_le _
  | step hne _ ih =>
    have := cutQ_less hne
    simp only [List.length_cons]
    omega
/-- A page of a list. -/
structure LPg (ns : List Int) (v : Int) (ds : List (List FP)) (k : Nat) (p : Page) : Prop where
  kind : p.kind = 4
  no : p.no = ns.getD k 0
  ver : p.ver = v
  bare : Bare p
  next : p.next = nextOf ns k
  data : p.data = []
  freed : p.freed.map Freed.core = ds.getD k []
/-- What ListPages returns. -/
inductive ListSpec (l : List Freed) (no : List Int) (v : Int) : List Page → Int → Prop
  | form : freedOk l = false → ListSpec l no v [] 2
  | arg : freedOk l = true → (no.length < (partsOf (l.map Freed.core)).length ∨ numsOk no v = false) → ListSpec l no v [] 1
  | ok {ps : List Page} : freedOk l = true → (partsOf (l.map Freed.core)).length ≤ no.length → numsOk no v = true → ps.length = no.length → (∀ k (hk : k < ps.length), LPg no v (partsOf (l.map Freed.core)) k ps[k]) → ListSpec l no v ps 0
def lstPg (ds : List LP) (no : List Int) (v : Int) (k : Nat) : Page := ⟨4, no.getD k 0, v, 0, 0, false, ⟨0, true⟩, [], nextOf no k, [], (ds.getD k ([], ⟨0, true⟩)).2, (ds.getD k ([], ⟨0, true⟩)).1⟩
def lstPs (ds : List LP) (no : List Int) (v : Int) : List Page := (List.range no.length).map (lstPg ds no v)
def lstD (k : Nat) : AV := .str []
def lstF (ds : List LP) (j k : Nat) : AV := if k < j then avP (ds.getD k ([], ⟨0, true⟩)) else .lst 0 [] true
theorem lstR_ext {ds : List LP} {j : Nat} {R : Nat → List AV} (h1 : R j = iniR lstD (fun _ => avP (ds.getD j ([], ⟨0, true⟩))) j) (h2 : ∀ k, k ≠ j → R k = iniR lstD (lstF ds j) k) (k : Nat) : R k = iniR lstD (lstF ds (j + 1)) k := by
  by_cases e : k = j
  · subst e
    rw [h1]; unfold iniR lstF; rw [if_pos (Nat.lt_succ_self _)]
  · rw [h2 k e]
    unfold iniR lstF
    by_cases q : k < j
    · rw [if_pos q, if_pos (by omega)]
    · rw [if_neg q, if_neg (by omega)]
theorem list_frz {hp : AHeap} {ds : List LP} {no : List Int} {v : Int} {b : Nat} (hb : hp[b]? = some (.cells 0 (some tPage) (rowsOf no.length (finR no 4 v lstD (fun k => avP (ds.getD k ([], ⟨0, true⟩))))).flatten 0)) (n : Nat) : Abs.frz hp (n + 5) (.sl 10 b 0 0 no.length) = some (.lst 10 ((lstPs ds no v).map Page.av) false) := by
  have hlen : ∀ r ∈ rowsOf no.length (finR no 4 v lstD (fun k => avP (ds.getD k ([], ⟨0, true⟩)))), r.length = 10 ∧ r.all AV.scal = true := fun r hm => by
    obtain ⟨k, _, rfl⟩ := List.mem_map.1 hm
    exact ⟨rfl, rfl⟩
  have h1 := frz_sl (n := n + 4) (sz := 10) (by decide) hb (fun r hm => (hlen r hm).1) (rows' := rowsOf no.length (finR no 4 v lstD (fun k => avP (ds.getD k ([], ⟨0, true⟩))))) (allM_id fun x hx => by
    obtain ⟨r, hm, hx⟩ := List.mem_flatten.1 hx
    obtain ⟨k, _, rfl⟩ := List.mem_map.1 hm
    simp only [finR, lstD, List.mem_cons, List.not_mem_nil, or_false] at hx
    rcases hx with rfl | rfl | rfl | rfl | rfl | rfl | rfl | rfl | rfl | rfl
    all_goals first | rfl | exact avP_frz _ hp) hlen rfl
  have h2 : (rowsOf no.length (finR no 4 v lstD (fun k => avP (ds.getD k ([], ⟨0, true⟩))))).length = no.length := by simp [rowsOf]
  rw [h2] at h1
  rw [h1]
  congr 2
  unfold lstPs rowsOf
  rw [List.map_map, List.map_map]
  rfl
theorem lstPs_ok {ds : List LP} {no : List Int} {v : Int} (h : ∀ x ∈ ds, x.Ok) (hw : ∀ x ∈ ds, x.1.length < 1048576 ∧ ∀ f ∈ x.1, f.pages.length < 1048576) : ∀ p ∈ lstPs ds no v, p.Ok := fun p hp => by
  obtain ⟨k, _, rfl⟩ := List.mem_map.1 hp
  have hx : (ds.getD k ([], ⟨0, true⟩)).1 = [] ∨ ds.getD k ([], ⟨0, true⟩) ∈ ds := by
    rw [List.getD_eq_getElem?_getD]
    cases hk : ds[k]? with
    | none => exact .inl rfl
    | some x => exact .inr (List.mem_of_getElem? hk)
  refine ⟨fun q => (q rfl).elim, fun q => ?_, (by show 0 < 1099511627776; decide), ?_, (by show 0 < 1099511627776; decide), fun e he => (by cases he), fun f hf => ?_⟩
  · rcases hx with hx | hx
    · exact (q hx).elim
    · exact (h _ hx).1 q
  · show (ds.getD k ([], ⟨0, true⟩)).1.length < _
    rcases hx with hx | hx
    · rw [hx]; decide
    · exact (hw _ hx).1
  · change f ∈ (ds.getD k ([], ⟨0, true⟩)).1 at hf
    rcases hx with hx | hx
    · rw [hx] at hf; cases hf
    · have := (hw _ hx).2 f hf
      exact ⟨(h _ hx).2 f hf, by omega⟩
/-- Parts are no longer than the list. -/
theorem cutQ_part : ∀ (room : Nat) (l : List FP), (∀ x ∈ l, x.2.length < 1048576) → (cutQ room l).1.length ≤ l.length ∧ ∀ x ∈ (cutQ room l).1, x.2.length < 1048576
  | _, [], _ => ⟨Nat.le_refl _, fun x hx => by cases hx⟩
  | room, (v, ps) :: r, h => by
    have h0 := h _ (List.mem_cons_self ..)
    unfold cutQ
    split
    · exact ⟨Nat.zero_le _, fun x hx => by cases hx⟩
    · split
      · refine ⟨by simp, fun x hx => ?_⟩
        rw [List.mem_singleton] at hx
        subst hx
        simp only [List.length_take] at h0 ⊢
        omega
      · obtain ⟨i1, i2⟩ := cutQ_part (room - 8 - 4 * ps.length) r fun x hx => h x (List.mem_cons_of_mem _ hx)
        refine ⟨by simp only [List.length_cons]; omega, fun x hx => ?_⟩
        rcases List.mem_cons.1 hx with rfl | hx
        · exact h0
        · exact i2 x hx
theorem Parts.small {l : List FP} {ds : List (List FP)} (h : Parts l ds) (hl : l.length < 1048576) (hx : ∀ x ∈ l, x.2 ≠ [] ∧ x.2.length < 1048576) : ∀ d ∈ ds, d.length < 1048576 ∧ ∀ x ∈ d, x.2.length < 1048576 := by
  induction h with
  | nil => intro d hd; cases hd
  | step hne _ ih =>
    intro d hd
    have hp := cutQ_part 490 _ fun x hm => (hx x hm).2
    rcases List.mem_cons.1 hd with rfl | hd
    · exact ⟨by omega, hp.2⟩
    · exact ih (Nat.lt_of_le_of_lt (cutQ_len 490 _) hl) (cutQ_left 490 _ hx) d hd
section
variable {n : Nat} {h : AHeap}
theorem lstPs_spec {ds : List LP} {l : List FP} {no : List Int} {v : Int} (h : Parts l (ds.map coreP)) : ∀ k (hk : k < (lstPs ds no v).length), LPg no v (partsOf l) k (lstPs ds no v)[k] := fun k hk => by
  have e : (lstPs ds no v)[k] = lstPg ds no v k := by simp [lstPs]
  rw [e, ← h.eq]
  refine ⟨rfl, rfl, rfl, ⟨rfl, rfl, rfl, rfl⟩, rfl, rfl, ?_⟩
  show (ds.getD k ([], ⟨0, true⟩)).1.map Freed.core = (ds.map coreP).getD k []
  rw [List.getD_eq_getElem?_getD, List.getD_eq_getElem?_getD, List.getElem?_map]
  cases ds[k]? <;> rfl
set_option maxRecDepth 10000 in
theorem listPages_eq (hn : 7 ≤ n) (l : List Freed) (hl : l.length < 1048576) (hf : ∀ f ∈ l, f.Ok ∧ f.pages.length < 9223372036854775808) (hw : freedOk l = true → wgt (l.map Freed.core) < 1048576) (sz : Nat) (hz : l ≠ [] → sz = 2) (c : Bool) (no : List Int) (hno : no.length < 1048576) (nz : Nat) (hnz : no ≠ [] → nz = 1) (nc : Bool) (v : Int) :
    ∃ (ps : List Page) (sh : Sh) (e : Int), (∀ h, C n 40 [.lst sz (l.map Freed.av) c, .lst nz (no.map i64) nc, i64 v] h = some (.ret (.tup [.lst sh.sz (ps.map Page.av) sh.c, i64 e]), h)) ∧ ListSpec l no v ps e ∧ (ps ≠ [] → sh.sz = 10) ∧ ∀ p ∈ ps, p.Ok := by
  obtain ⟨m, rfl⟩ : ∃ m, n = m + 1 := ⟨n - 1, by omega⟩
  have cF : ∀ h, C m 75 [.lst sz (l.map Freed.av) c] h = some (.ret (.bool (freedOk l)), h) := fun h => freed_eq (by omega) l hl hf sz hz c
  have cN : ∀ h, C m 92 [.lst nz (no.map i64) nc, i64 v] h = some (.ret (.bool (numsOk no v)), h) := fun h => numbers_eq (by omega) no (by omega) nz hnz nc v
  have hpure : pureBs [.lst sz (l.map Freed.av) c, .lst nz (no.map i64) nc, i64 v] = true := pure_lst freed_pure l (ints_pure no rfl)
  cases hk : freedOk l with
  | false =>
    rw [hk] at cF
    refine ⟨[], ⟨0, true⟩, 2, fun h => ?_, .form hk, fun q => (q rfl).elim, fun p hp => (by cases hp)⟩
    refine fun_cold F40 rfl rfl rfl hpure ?_
    conv => whnf
    refine clI (cF _) ?_
    conv => whnf
    exact retP rfl rfl
  | true =>
    rw [hk] at cF
    have hfew := freed_few hk hf
    have hne := freedOk_ne hk
    obtain ⟨r, e1, ⟨ds, sh, rfl, h1, h2, h3⟩⟩ := listParts_eq (n := m) (by omega) l hl hfew hne (hw hk) sz hz c
    have hd : (partsOf (l.map Freed.core)).length = ds.length := by rw [← h1.eq, List.length_map]
    have hsm := h1.small (by rw [List.length_map]; exact hl) (fun x hx => by obtain ⟨f, hf', rfl⟩ := List.mem_map.1 hx; exact ⟨hne f hf', (hfew f hf').2⟩)
    have hw2 : ∀ x ∈ ds, x.1.length < 1048576 ∧ ∀ f ∈ x.1, f.pages.length < 1048576 := fun x hx => by
      obtain ⟨q1, q2⟩ := hsm (coreP x) (List.mem_map.2 ⟨x, hx, rfl⟩)
      refine ⟨by simpa [coreP] using q1, fun f hf' => q2 f.core (List.mem_map.2 ⟨f, hf', rfl⟩)⟩
    by_cases hlt : no.length < ds.length
    · refine ⟨[], ⟨0, true⟩, 1, fun h => ?_, .arg hk (.inl (by omega)), fun q => (q rfl).elim, fun p hp => (by cases hp)⟩
      refine fun_cold F40 rfl rfl rfl hpure ?_
      conv => whnf
      refine clI (cF _) ?_
      conv => whnf
      refine clI (e1 _) ?_
      conv => whnf
      refine brd (fun _ => ?_) (fun a => absurd (by rw [List.length_map, List.length_map]; omega) a)
      conv => whnf
      exact retP rfl rfl
    cases hq : numsOk no v with
    | false =>
      rw [hq] at cN
      refine ⟨[], ⟨0, true⟩, 1, fun h => ?_, .arg hk (.inr hq), fun q => (q rfl).elim, fun p hp => (by cases hp)⟩
      refine fun_cold F40 rfl rfl rfl hpure ?_
      conv => whnf
      refine clI (cF _) ?_
      conv => whnf
      refine clI (e1 _) ?_
      conv => whnf
      refine brd (fun a => absurd a (by rw [List.length_map, List.length_map]; omega)) (fun _ => ?_)
      conv => whnf
      refine clI (cN _) ?_
      conv => whnf
      exact retP rfl rfl
    | true =>
      rw [hq] at cN
      refine ⟨lstPs ds no v, ⟨10, false⟩, 0, fun h => ?_, .ok hk (by omega) hq (by simp [lstPs]) (lstPs_spec h1), fun _ => rfl, lstPs_ok h2 hw2⟩
      refine fun_cold F40 rfl rfl rfl hpure ?_
      conv => whnf
      refine clI (cF _) ?_
      conv => whnf
      refine clI (e1 _) ?_
      conv => whnf
      refine brd (fun a => absurd a (by rw [List.length_map, List.length_map]; omega)) (fun _ => ?_)
      conv => whnf
      refine clI (cN _) ?_
      conv => whnf
      refine ⟨by omega, by omega, by simp; omega, ?_⟩
      conv => whnf
      refine loopI (by decide) rfl (α := Nat × AHeap) (fun x => ⟨[(1, .lst nz (no.map i64) nc), (2, i64 v), (9, .sl 10 0 0 0 no.length), (31, .lst sh.sz (ds.map avP) sh.c), (32, i64 ds.length), (33, i64 x.1)], x.2, []⟩)
        (fun x => x.1 ≤ ds.length ∧ x.2 = [.cells 0 (some tPage) (rowsOf no.length (iniR lstD (lstF ds x.1))).flatten 0]) (fun x => ds.length - x.1) (0, [.cells 0 (some tPage) (rowsOf no.length (iniR lstD (lstF ds 0))).flatten 0]) ⟨⟨rfl, rfl, ?_, rfl, ?_, rfl⟩, ?_, rfl⟩ ⟨Nat.zero_le _, rfl⟩ (by show ds.length - 0 < KK; simp only [KK]; omega) ?_
      · show some (AV.sl 10 0 0 0 ((List.map i64 no).length : Int).toNat) = _
        rw [List.length_map]; rfl
      · show some (AV.int .i64 ((ds.map avP).length : Int)) = _
        rw [List.length_map]
      · show [] ++ [AB.cells 0 (some tPage) (rep ((List.map i64 no).length : Int).toNat [.int .i64 0, .int .i64 0, .int .i64 0, .int .i64 0, .int .i64 0, .bool false, .lst 0 [] true, .int .i64 0, .str [], .lst 0 [] true]) 0] = _
        rw [List.length_map, Int.toNat_natCast, rep_rows]
        rfl
      rintro ⟨j, hp⟩ ⟨g1, g2⟩
      simp only at g1 g2
      subst g2
      conv => whnf
      refine brd (fun a => ?_) (fun a => ?_)
      · have hj : j < ds.length := by simp only at a; omega
        have hdne : ds ≠ [] := by rintro rfl; simp at hj
        have hg : ds.getD j ([], ⟨0, true⟩) = ds[j] := by simp [hj]
        obtain ⟨b0, f1, w1, p0⟩ := stRows (h := [.cells 0 (some tPage) (rowsOf no.length (iniR lstD (lstF ds j))).flatten 0]) (b := 0) (N := no.length) (o := 0 + ((j : Nat) : Int).toNat * 10 + 9) (x := avP ds[j]) (row := iniR lstD (fun _ => avP ds[j]) j) (fun _ => rfl) (show j < no.length by omega) (d := 9) (by decide) rfl (by rfl) (by omega)
        conv => whnf
        refine ⟨by omega, h3 hdne, avP ds[j], by simp [hj], [avP ds[j]], rfl, ?_⟩
        conv => whnf
        refine ⟨by omega, by simp only; omega, rfl, ?_⟩
        conv => whnf
        refine stI (xs := [avP ds[j]]) (by rfl) (by rfl) (by rfl) b0 (by rfl) ?_
        conv => whnf
        refine zI (z := ((j + 1 : Nat) : Int)) (by rw [wrap_i64 (by simp only; omega) (by simp only; omega)]; rfl) ?_
        refine nxI (j + 1, _) ⟨hj, ?_⟩ (by simp only; omega) ⟨⟨rfl, rfl, rfl, rfl, rfl, rfl⟩, rfl, rfl⟩
        show [AB.cells 0 (some tPage) (putAt (rowsOf no.length (iniR lstD (lstF ds j))).flatten (0 + ((j : Nat) : Int).toNat * 10 + 9) [avP ds[j]]) 0] = _
        rw [p0, rowsOf_ext fun k _ => lstR_ext (R := upd _ j _) ?_ ?_ k]
        · rw [upd_at, hg]
        · intro k hk
          rw [upd_ne _ _ hk]
      · have hj : j = ds.length := by simp only at a; omega
        subst hj
        have e2 : rowsOf no.length (iniR lstD (lstF ds ds.length)) = rowsOf no.length (iniR lstD (fun k => avP (ds.getD k ([], ⟨0, true⟩)))) := by
          refine rowsOf_ext fun k hk => ?_
          unfold iniR lstF
          by_cases q : k < ds.length
          · rw [if_pos q]
          · rw [if_neg q]
            have : ds.getD k ([], ⟨0, true⟩) = ([], ⟨0, true⟩) := by simp [Nat.le_of_not_lt q]
            simp only
            rw [this]
            rfl
        rw [e2]
        have cH := chained_eq (n := m) (hp := [.cells 0 (some tPage) (rowsOf no.length (iniR lstD (fun k => avP (ds.getD k ([], ⟨0, true⟩))))).flatten 0]) (b := 0) (by omega) no hno nz hnz nc 4 v lstD (fun k => avP (ds.getD k ([], ⟨0, true⟩))) rfl
        conv => whnf
        refine cutI (by decide) rfl (t := ⟨[(1, .lst nz (no.map i64) nc), (2, i64 v), (9, .sl 10 0 0 0 no.length)], [.cells 0 (some tPage) (rowsOf no.length (iniR lstD (fun k => avP (ds.getD k ([], ⟨0, true⟩))))).flatten 0], []⟩) ⟨⟨rfl, rfl, rfl⟩, rfl, rfl⟩ ?_
        conv => whnf
        refine clI cH ?_
        conv => whnf
        refine retP rfl ?_
        have e3 := list_frz (hp := [.cells 0 (some tPage) (rowsOf no.length (finR no 4 v lstD (fun k => avP (ds.getD k ([], ⟨0, true⟩))))).flatten 0]) (b := 0) (v := v) rfl 58
        exact frz_tup2 e3 rfl
end
end Go.Proofs
/- Lists of freed pages in memory: the last one grows. -/
set_option linter.unusedVariables false
set_option linter.unusedSimpArgs false
namespace Go.Proofs
open Go Go.Abs
theorem row_cell {ts : List FQ} {j : Nat} (hj : j < ts.length) (o : Nat) (ho : o < 2) : ((ts.map rowQ).flatten)[j * 2 + o]? = (rowQ ts[j])[o]? := by
  induction ts generalizing j with
  | nil => simp at hj
  | cons t r ih =>
    cases j with
    | zero =>
      simp only [List.map_cons, List.flatten_cons, Nat.zero_mul, Nat.zero_add, List.getElem_cons_zero]
      rw [List.getElem?_append_left (by simp [rowQ]; omega)]
    | succ j =>
      simp only [List.map_cons, List.flatten_cons, List.getElem_cons_succ]
      have h1 : (rowQ t).length = 2 := rfl
      rw [List.getElem?_append_right (by rw [h1]; omega), h1, show (j + 1) * 2 + o - 2 = j * 2 + o by omega]
      exact ih (by simpa using hj)
theorem first_ints (h : AHeap) (l : List Int) (c : Bool) : firstA h 1 l.length (.lst 1 (l.map i64) c) = some (l.map i64) := by
  unfold firstA
  simp only [List.length_map]
  rw [if_pos ⟨Nat.le_refl _, .inl trivial⟩]
  have h1 : (l.map i64).take l.length = l.map i64 := List.take_of_length_le (by simp)
  rw [h1]
  have h2 : (l.map i64).map AV.cells? = l.map fun e => some [i64 e] := by rw [List.map_map]; rfl
  rw [h2]
  rw [if_pos (by rw [List.all_eq_true]; intro x hx; obtain ⟨e, _, rfl⟩ := List.mem_map.1 hx; rfl)]
  congr 1
  rw [List.flatMap_map]
  have : ∀ l : List Int, (l.flatMap fun e => (some [i64 e]).getD []) = l.map i64 := fun l => by
    induction l with
    | nil => rfl
    | cons a r ih => simp [List.flatMap_cons] at ih ⊢; exact ih
  exact this l
/-- Numbers appended to numbers. -/
theorem nq_app {kc : Bool} {hp : AHeap} {ps qs : List Int} {P Q : AV} (p : NQ false hp ps P) (q : NQ kc hp qs Q) (hl : ps.length + qs.length ≤ 1073741824) :
    ∃ v oh, appR hp 3 1 P Q = some (v, oh) ∧ NQ false (oh.getD hp) (ps ++ qs) v ∧ (∀ k, k < hp.length → blkQ P ≠ some k → (oh.getD hp)[k]? = hp[k]?) ∧ hp.length ≤ (oh.getD hp).length ∧ (∀ k, blkQ v = some k → blkQ P = some k ∨ hp.length ≤ k) := by
  have hs : ∀ l : List Int, (l.map i64).all AV.scal = true := fun l => by
    rw [List.all_eq_true]; intro x hx; obtain ⟨k, _, rfl⟩ := List.mem_map.1 hx; rfl
  have hL : lenA Q = some qs.length := by
    rcases q with (⟨rfl | rfl, rfl⟩ | ⟨b, ver, frz, rfl, _⟩) | ⟨_, z, c, rfl, _⟩
    · rfl
    · rfl
    · rfl
    · simp [lenA]
  have hF : firstA hp 1 qs.length Q = some (qs.map i64) := by
    rcases q with (⟨rfl | rfl, rfl⟩ | ⟨b, ver, frz, rfl, h2, _⟩) | ⟨_, z, c, rfl, hz⟩
    rotate_right
    · by_cases e : qs = []
      · subst e; unfold firstA; simp
      · rw [hz e]; exact first_ints hp qs c
    · unfold firstA; simp
    · rfl
    · have e1 : (qs.map i64).take qs.length = qs.map i64 := List.take_of_length_le (by simp)
      unfold firstA
      simp [h2, e1]
  unfold appR
  rw [hL]
  simp only
  rw [hF]
  simp only [hs, Bool.not_true, Bool.false_eq_true, if_false]
  have hP : (∃ z, P = .lst z [] true ∧ ps = [] ∧ (z = 0 ∨ z = 1)) ∨ ∃ b ver frz, P = .sl 1 b ver 0 ps.length ∧ hp[b]? = some (.cells ver (some 3) (ps.map i64) frz) ∧ frz ≤ ps.length := by
    rcases p with (⟨rfl | rfl, h⟩ | h) | ⟨h, _⟩
    · exact .inl ⟨0, rfl, h, .inl rfl⟩
    · exact .inl ⟨1, rfl, h, .inr rfl⟩
    · exact .inr h
    · cases h
  rcases hP with ⟨z, rfl, rfl, hz⟩ | ⟨b, ver, frz, rfl, h2, h3⟩
  · simp only
    by_cases e : qs.length = 0
    · have : qs = [] := List.length_eq_zero_iff.1 e
      subst this
      rw [if_pos (show ([] : List Int).length = 0 from rfl)]
      refine ⟨_, _, rfl, .inl (.inl ⟨?_, rfl⟩), fun k _ _ => rfl, Nat.le_refl _, fun k hk => by cases hk⟩
      rcases hz with rfl | rfl
      · exact .inl rfl
      · exact .inr rfl
    · rw [if_neg e]
      have h3 : firstA hp 1 ([] : List AV).length (.lst z [] true) = some [] := by
        rcases hz with rfl | rfl
        · unfold firstA; simp
        · rfl
      rw [h3]
      simp only [List.length_nil, Nat.zero_add]
      rw [if_pos ⟨by simpa using hl, rfl⟩]
      refine ⟨_, _, rfl, .inl (.inr ⟨hp.length, 0, 0, rfl, by simp, Nat.zero_le _⟩), fun k hk _ => ?_, by simp, fun k hk => by cases hk; exact .inr (Nat.le_refl _)⟩
      simp only [Option.getD_some]
      rw [List.getElem?_append_left hk]
  · simp only
    rw [h2]
    simp only
    rw [if_pos ⟨.inl trivial, trivial, trivial, trivial, by simp, hs ps, hl, by simpa using h3⟩]
    by_cases e : qs.length = 0
    · have : qs = [] := List.length_eq_zero_iff.1 e
      subst this
      rw [if_pos (show ([] : List Int).length = 0 from rfl)]
      exact ⟨_, _, rfl, .inl (.inr ⟨b, ver, frz, by simp, by simpa using h2, by simpa using h3⟩), fun k _ _ => rfl, Nat.le_refl _, fun k hk => .inl hk⟩
    · rw [if_neg e]
      refine ⟨_, _, rfl, .inl (.inr ⟨b, ver + 1, frz, by simp, ?_, by simp; omega⟩), fun k hk hn => ?_, by simp, fun k hk => .inl hk⟩
      · simp only [Option.getD_some, List.map_append]; rw [List.getElem?_set_self (lt_of_get h2)]
      · simp only [Option.getD_some]
        have : b ≠ k := fun e => hn (by rw [← e]; rfl)
        rw [List.getElem?_set_ne this]
/-- The last one's numbers are others. -/
theorem LB.last {kc : Bool} {lo : Nat} {hp hp2 : AHeap} {ts : List FQ} {t : FQ} {eb ver frz : Nat} (l : LB kc lo hp (.sl 2 eb ver 0 (ts ++ [t]).length) (ts ++ [t])) (hb : hp[eb]? = some (.cells ver (some tFrd) ((ts ++ [t]).map rowQ).flatten frz)) (hfz : frz ≤ ((ts ++ [t]).map rowQ).flatten.length) (ps : List Int) (v : AV) (hlo : lo ≤ hp.length) (q : NQ kc hp2 ps v)
    (hk : ∀ k, k < hp.length → blkQ t.2.2 ≠ some k → hp2[k]? = hp[k]?) (hv : ∀ k, blkQ v = some k → blkQ t.2.2 = some k ∨ hp.length ≤ k) :
    hp2[eb]? = hp[eb]? ∧ LB kc lo (hp2.set eb (.cells ver (some tFrd) (putAt ((ts ++ [t]).map rowQ).flatten (ts.length * 2 + 1) [v]) frz)) (.sl 2 eb ver 0 (ts ++ [t]).length) (ts ++ [(t.1, ps, v)]) := by
  have hebl := lt_of_get hb
  have hteb : blkQ t.2.2 ≠ some eb := fun e => (l.own t (by simp) eb e).2 rfl
  have h1 : hp2[eb]? = hp[eb]? := hk eb hebl hteb
  have hlen : (ts ++ [t]).length = (ts ++ [((t.1, ps, v) : FQ)]).length := by simp
  have hput : putAt ((ts ++ [t]).map rowQ).flatten (ts.length * 2 + 1) [v] = ((ts ++ [((t.1, ps, v) : FQ)]).map rowQ).flatten := by
    have := putAt_rows (w := 2) (o := 1) (xs := [v]) (by simp) (rows := (ts ++ [t]).map rowQ) (j := ts.length) (fun r hm => by obtain ⟨s, _, rfl⟩ := List.mem_map.1 hm; rfl) (by simp)
    rw [this]
    congr 1
    simp [rowQ, putAt]
  have hap := List.pairwise_append.1 l.apart
  have htsl : ∀ s ∈ ts, ∀ b, blkQ s.2.2 = some b → b < hp.length ∧ blkQ t.2.2 ≠ some b ∧ b ≠ eb := fun s hs b hb => by
    have hm : s ∈ ts ++ [t] := by simp [hs]
    exact ⟨(l.val s hm).lt hb, hap.2.2 s hs t (by simp) b hb, fun e => (l.own s hm b hb).2 (by rw [e]; rfl)⟩
  have hveb : ∀ b, blkQ v = some b → b ≠ eb := fun b hvb e => by
    rcases hv b hvb with h | h
    · exact hteb (by rw [← e]; exact h)
    · omega
  refine ⟨h1, ⟨⟨⟨fun r hm => ?_, .inr ⟨eb, ver, frz, ?_, ?_, ?_⟩⟩, fun eb' ver' e => ?_⟩, fun s hs => ?_, fun s hs b hb' => ?_, ?_, fun e => by simp at e, fun eb' ver' el cs f e hc => ?_⟩⟩
  · obtain ⟨s, hs, rfl⟩ := List.mem_map.1 hm
    rw [List.mem_append, List.mem_singleton] at hs
    rcases hs with hs | rfl
    · exact l.buf.1.1 _ (List.mem_map.2 ⟨s, by simp [hs], rfl⟩)
    · exact rowQ_ok q
  · rw [List.length_map, hlen]
  · rw [List.getElem?_set_self (lt_of_get (h1.trans hb)), hput]
  · have e1 : ((ts ++ [t]).map rowQ).flatten.length = ((ts ++ [((t.1, ps, v) : FQ)]).map rowQ).flatten.length := by simp [rowQ]
    rw [← e1]; exact hfz
  · have := (l.buf.2 eb ver (by rw [List.length_map]))
    have := (AV.sl.inj e).2.1
    omega
  · rw [List.mem_append, List.mem_singleton] at hs
    rcases hs with hs | rfl
    · refine (l.val s (by simp [hs])).stays fun b hb' => ?_
      obtain ⟨q1, q2, q3⟩ := htsl s hs b hb'
      rw [List.getElem?_set_ne (Ne.symm q3), hk b q1 q2]
    · exact q.stays fun b hb' => by rw [List.getElem?_set_ne (Ne.symm (hveb b hb'))]
  · rw [List.mem_append, List.mem_singleton] at hs
    rcases hs with hs | rfl
    · exact ⟨(l.own s (by simp [hs]) b hb').1, fun e => (htsl s hs b hb').2.2 (Option.some.inj e).symm⟩
    · refine ⟨?_, fun e => hveb b hb' (Option.some.inj e).symm⟩
      rcases hv b hb' with h | h
      · exact (l.own t (by simp) b h).1
      · omega
  · rw [List.pairwise_append]
    refine ⟨hap.1, List.pairwise_singleton _ _, fun s hs t' ht' b hb1 hb2 => ?_⟩
    rw [List.mem_singleton] at ht'
    subst ht'
    obtain ⟨q1, q2, q3⟩ := htsl s hs b hb1
    rcases hv b hb2 with h | h
    · exact q2 h
    · omega
  · cases e
    rw [List.getElem?_set_self (lt_of_get (h1.trans hb))] at hc
    cases hc
    exact l.fz _ _ _ _ _ rfl hb
end Go.Proofs
/- Contracts: the list of the pages of a list. -/
set_option linter.unusedVariables false
set_option linter.unusedSimpArgs false
namespace Go.Proofs
open Go Go.Abs
/-- The first of a page goes on with the last one, where the versions are equal. -/
def addF0 : List FP → FP → List FP
  | [], f => [f]
  | [a], f => if a.1 = f.1 then [(a.1, a.2 ++ f.2)] else [a, f]
  | a :: b :: r, f => a :: addF0 (b :: r) f
theorem addF0_snoc (a f : FP) : ∀ ts : List FP, addF0 (ts ++ [a]) f = ts ++ (if a.1 = f.1 then [(a.1, a.2 ++ f.2)] else [a, f])
  | [] => rfl
  | [b] => rfl
  | b :: c :: r => by
    have := addF0_snoc a f (c :: r)
    show b :: addF0 (c :: (r ++ [a])) f = _
    rw [show c :: (r ++ [a]) = (c :: r) ++ [a] from rfl, this]
    rfl
def addP (ts fs : List FP) : List FP := match fs with
  | [] => ts
  | f :: r => addF0 ts f ++ r
/-- What the pages of a list have, in one list. -/
def allF (l : List Page) : List FP := l.foldl (fun ts p => addP ts (p.freed.map Freed.core)) []
theorem allF_take {l : List Page} {i : Nat} (hi : i < l.length) : allF (l.take (i + 1)) = addP (allF (l.take i)) (l[i].freed.map Freed.core) := by
  unfold allF
  rw [List.take_succ_eq_append_getElem hi, List.foldl_append]
  rfl
theorem addP_take {ts fs : List FP} {k : Nat} (hk : k < fs.length) : addP ts (fs.take (k + 1)) = if k = 0 then addF0 (addP ts (fs.take k)) fs[k] else addP ts (fs.take k) ++ [fs[k]] := by
  cases fs with
  | nil => simp at hk
  | cons f r =>
    by_cases e : k = 0
    · subst e
      simp [addP]
    · obtain ⟨j, rfl⟩ : ∃ j, k = j + 1 := ⟨k - 1, by omega⟩
      rw [if_neg e]
      have hj : j < r.length := by simpa using hk
      simp only [List.take_succ_cons, addP, List.getElem_cons_succ]
      rw [List.take_succ_eq_append_getElem hj, List.append_assoc]
theorem wgt_app (a b : List FP) : wgt (a ++ b) = wgt a + wgt b := by simp [wgt]
theorem wgt_one (f : FP) : wgt [f] = f.2.length + 1 := by simp [wgt]
theorem wgt_mem {l : List FP} {x : FP} (h : x ∈ l) : x.2.length + 1 ≤ wgt l := by
  induction l with
  | nil => cases h
  | cons a r ih =>
    simp only [wgt, List.map_cons, List.sum_cons] at ih ⊢
    rcases List.mem_cons.1 h with rfl | h
    · omega
    · have := ih h; omega
theorem wgt_len (l : List FP) : l.length ≤ wgt l := by
  induction l with
  | nil => exact Nat.le_refl _
  | cons a r ih => simp only [wgt, List.map_cons, List.sum_cons, List.length_cons] at ih ⊢; omega
/-- How much the pages have. -/
def wl (l : List Page) : Nat := (l.map fun p => wgt (p.freed.map Freed.core)).sum
theorem wl_drop {l : List Page} {i : Nat} (hi : i < l.length) : wl (l.drop i) = wgt (l[i].freed.map Freed.core) + wl (l.drop (i + 1)) := by
  unfold wl
  rw [List.drop_eq_getElem_cons hi, List.map_cons, List.sum_cons]
theorem wgt_drop {fs : List Freed} {k : Nat} (hk : k < fs.length) : wgt ((fs.drop k).map Freed.core) = (fs[k].pages.length + 1) + wgt ((fs.drop (k + 1)).map Freed.core) := by
  unfold wgt
  rw [List.drop_eq_getElem_cons hk, List.map_cons, List.map_cons, List.sum_cons]
  rfl
section
variable {n : Nat} {h : AHeap}
/-- A copy of numbers, in memory. -/
theorem cloneQ_eq (hn : 1 ≤ n) (hp : AHeap) (f : Freed) (hf : f.Ok) (hl : f.pages.length < 1048576) :
    (f.pages = [] ∧ C n 102 [.lst f.sh.sz (f.pages.map i64) f.sh.c] hp = some (.ret (.lst 1 [] true), hp)) ∨
    (f.pages ≠ [] ∧ C n 102 [.lst f.sh.sz (f.pages.map i64) f.sh.c] hp = some (.ret (.sl 1 hp.length 0 0 f.pages.length), hp ++ [.cells 0 (some 3) (f.pages.map i64) 0])) := by
  by_cases e : f.pages = []
  · left
    refine ⟨e, ?_⟩
    rw [e]
    exact clone0_eq hn _ _
  · right
    refine ⟨e, ?_⟩
    rw [hf e]
    exact cloneN_eq hn e (by omega) _
set_option maxRecDepth 10000 in
/-- The inner loop, one round. -/
theorem listOf_in {m : Nat} (hm : 1 ≤ m) (l : List Page) (sz : Nat) (c : Bool) (i : Nat) (fs : List Freed) (fz : Nat) (hfz : fs ≠ [] → fz = 2) (fc : Bool) (hfs : ∀ f ∈ fs, f.Ok) (L0 : AV) (hp0 : AHeap) (ts0 : List FQ) (b0 : LB false 0 hp0 L0 ts0) (hw : wgt (ts0.map coreQ) + wgt (fs.map Freed.core) < 1048576) {Q : Ex → LS → Prop} {st : LS}
    (hs : LS.sub ⟨[(0, .lst sz (l.map Page.av) c), (4, L0), (15, .lst sz (l.map Page.av) c), (16, i64 l.length), (17, i64 i), (22, .lst fz (fs.map Freed.av) fc), (23, i64 fs.length), (24, i64 0)], hp0, []⟩ st)
    (hE : ∀ L hp ts, LB false 0 hp L ts → ts.map coreQ = addP (ts0.map coreQ) (fs.map Freed.core) → ∀ Lt, subL [(0, .lst sz (l.map Page.av) c), (4, L), (15, .lst sz (l.map Page.av) c), (16, i64 l.length), (17, i64 i)] Lt → Q (.exit 2) ⟨Lt, hp, []⟩) :
    OkR Tryz.prog (C m) cfg0.inl KK 90 7 (.loop (c42.lp 1)) st Q := by
  refine loopI (by decide) rfl (α := Nat × AV × AHeap × List FQ) (fun x => ⟨[(0, .lst sz (l.map Page.av) c), (4, x.2.1), (15, .lst sz (l.map Page.av) c), (16, i64 l.length), (17, i64 i), (22, .lst fz (fs.map Freed.av) fc), (23, i64 fs.length), (24, i64 x.1)], x.2.2.1, []⟩)
    (fun x => x.1 ≤ fs.length ∧ LB false 0 x.2.2.1 x.2.1 x.2.2.2 ∧ x.2.2.2.map coreQ = addP (ts0.map coreQ) ((fs.map Freed.core).take x.1) ∧ wgt (x.2.2.2.map coreQ) + wgt ((fs.drop x.1).map Freed.core) < 1048576) (fun x => fs.length - x.1) (0, L0, hp0, ts0) hs ⟨Nat.zero_le _, b0, rfl, by simpa using hw⟩ (by
      have := wgt_len (fs.map Freed.core)
      rw [List.length_map] at this
      show fs.length - 0 < KK; simp only [KK]; omega) ?_
  rintro ⟨k, L, hp, ts⟩ ⟨g1, g2, g3, g4⟩
  simp only at g1 g2 g3 g4
  have hfl : fs.length < 1048576 := by
    have := wgt_len (fs.map Freed.core)
    rw [List.length_map] at this
    omega
  conv => whnf
  refine brd (fun a => ?_) (fun a => ?_)
  · have hk : k < fs.length := by simp only at a; omega
    have hkc : k < (fs.map Freed.core).length := by rw [List.length_map]; exact hk
    have hcg : (fs.map Freed.core)[k] = fs[k].core := List.getElem_map _
    have hstep := addP_take (ts := ts0.map coreQ) hkc
    rw [hcg, ← g3] at hstep
    rw [wgt_drop hk] at g4
    have hfk := hfs _ (List.getElem_mem hk)
    have htl := wgt_len (ts.map coreQ)
    rw [List.length_map] at htl
    have hH1 : ((hp ++ [AB.cells 0 (some tFrd) [i64 0, .lst 0 [] true] 0]).set hp.length (.cells 0 (some tFrd) (putAt [i64 0, .lst 0 [] true] 0 fs[k].cells) 0)).length = hp.length + 1 := by simp
    have hpl' : fs[k].pages.length < 1048576 := by omega
    obtain ⟨P, Hc, cC, hP, hNQ, hkeep, hlen, hbl⟩ : ∃ P Hc, C m 102 [.lst fs[k].sh.sz (fs[k].pages.map i64) fs[k].sh.c] ((hp ++ [AB.cells 0 (some tFrd) [i64 0, .lst 0 [] true] 0]).set hp.length (.cells 0 (some tFrd) (putAt [i64 0, .lst 0 [] true] 0 fs[k].cells) 0)) = some (.ret P, Hc) ∧ (P = .lst 1 [] true ∨ ∃ nb cnt, P = .sl 1 nb 0 0 cnt) ∧ NQ false Hc fs[k].pages P ∧ (∀ b, b < hp.length + 1 → Hc[b]? = ((hp ++ [AB.cells 0 (some tFrd) [i64 0, .lst 0 [] true] 0]).set hp.length (.cells 0 (some tFrd) (putAt [i64 0, .lst 0 [] true] 0 fs[k].cells) 0))[b]?) ∧ hp.length + 1 ≤ Hc.length ∧ (∀ b, blkQ P = some b → hp.length + 1 ≤ b) := by
      rcases cloneQ_eq (n := m) hm ((hp ++ [AB.cells 0 (some tFrd) [i64 0, .lst 0 [] true] 0]).set hp.length (.cells 0 (some tFrd) (putAt [i64 0, .lst 0 [] true] 0 fs[k].cells) 0)) fs[k] hfk hpl' with ⟨e0, cC⟩ | ⟨e0, cC⟩
      · exact ⟨_, _, cC, .inl rfl, .inl (.inl ⟨.inr rfl, e0⟩), fun _ _ => rfl, by rw [hH1]; exact Nat.le_refl _, fun b hb => by cases hb⟩
      · refine ⟨_, _, cC, .inr ⟨_, _, rfl⟩, .inl (.inr ⟨_, 0, 0, rfl, by simp, Nat.zero_le _⟩), fun b hb => ?_, by rw [List.length_append, hH1]; simp, fun b hb => ?_⟩
        · rw [List.getElem?_append_left (by rw [hH1]; exact hb)]
        · cases hb; rw [hH1]; exact Nat.le_refl _
    have hP1 := hNQ.scal.2
    have fE0 : Hc[hp.length]? = some (.cells 0 (some tFrd) (putAt [i64 0, .lst 0 [] true] 0 fs[k].cells) 0) := by
      rw [hkeep _ (Nat.lt_succ_self _), List.getElem?_set_self (by simp)]
    have fE : (Hc.set hp.length (.cells 0 (some tFrd) (putAt (putAt [i64 0, .lst 0 [] true] 0 fs[k].cells) 1 [P]) 0))[hp.length]? = some (.cells 0 (some tFrd) [i64 fs[k].ver, P] 0) := by
      rw [List.getElem?_set_self (lt_of_get fE0)]; rfl
    have old : ∀ b, b < hp.length → (Hc.set hp.length (.cells 0 (some tFrd) (putAt (putAt [i64 0, .lst 0 [] true] 0 fs[k].cells) 1 [P]) 0))[b]? = hp[b]? := fun b hb => by
      rw [List.getElem?_set_ne (by omega), hkeep b (by omega), List.getElem?_set_ne (by omega), List.getElem?_append_left hb]
    have gL : LB false 0 (Hc.set hp.length (.cells 0 (some tFrd) (putAt (putAt [i64 0, .lst 0 [] true] 0 fs[k].cells) 1 [P]) 0)) L ts := g2.old fun b _ hb => old b hb
    have qP : NQ false (Hc.set hp.length (.cells 0 (some tFrd) (putAt (putAt [i64 0, .lst 0 [] true] 0 fs[k].cells) 1 [P]) 0)) fs[k].pages P := hNQ.stays fun b hb => by
      have := hbl b hb
      rw [List.getElem?_set_ne (by omega)]
    have hfree : ∀ b, blkQ P = some b → hp.length < b := fun b hb => hbl b hb
    obtain ⟨L', hp', ea, g7, _, _, _⟩ := gL.push (Nat.zero_le _) (fs[k].ver, fs[k].pages, P) qP (fun b hb => ⟨Nat.zero_le _, fun e => by
      have h1 := (g2.lt (.inl e)).1
      have := hfree b hb
      omega⟩) (fun s hs b hb1 hb2 => by
      have h1 := (g2.lt (.inr ⟨s, hs, hb1⟩)).1
      have := hfree b hb2
      omega) (by omega)
    have hcore : (ts ++ [((fs[k].ver, fs[k].pages, P) : FQ)]).map coreQ = ts.map coreQ ++ [fs[k].core] := by rw [List.map_append]; rfl
    have hwt : wgt ((ts ++ [((fs[k].ver, fs[k].pages, P) : FQ)]).map coreQ) + wgt ((fs.drop (k + 1)).map Freed.core) < 1048576 := by
      rw [hcore, wgt_app, wgt_one]
      simp only [Freed.core]
      omega
    rcases List.eq_nil_or_concat ts with hts | ⟨ts1, t, hts⟩
    · subst hts
      have hL := g2.emp rfl
      subst hL
      have hpl : ([] ++ [((fs[k].ver, fs[k].pages, P) : FQ)]).map coreQ = addP (ts0.map coreQ) ((fs.map Freed.core).take (k + 1)) := by
        rw [hcore, hstep]
        split <;> rfl
      rcases hP with rfl | ⟨nb, cnt, rfl⟩
      all_goals
        conv => whnf
        refine ixL freed_cells hk hfz ?_
        conv => whnf
        refine stI (get_last _ _) (xs := fs[k].cells) (by rfl) (by rfl) (by rfl) (by rfl) ?_
        conv => whnf
        refine ldI (get_set_last _ _ _) ?_
        conv => whnf
        refine clI cC ?_
        conv => whnf
        refine stI fE0 hP1 (by rfl) (by rfl) (by rfl) ?_
        conv => whnf
        refine zI (z := -1) (by rfl) ?_
        conv => whnf
        refine bre (fun e => ?_) (fun e => ?_)
        all_goals
          conv => whnf
          refine ldI fE ?_
          conv => whnf
          refine ⟨rfl, ?_⟩
          conv => whnf
          refine apI ea ?_
          conv => whnf
          refine zI (z := ((k + 1 : Nat) : Int)) (by rw [wrap_i64 (by simp only; omega) (by simp only; omega)]; rfl) ?_
          exact nxI (k + 1, L', hp', _) ⟨hk, g7, hpl, hwt⟩ (by simp only; omega) ⟨⟨rfl, rfl, rfl, rfl, rfl, rfl, rfl, rfl⟩, rfl, rfl⟩
    · rw [List.concat_eq_append] at hts
      subst hts
      obtain ⟨eb, ver, hL⟩ := g2.buf.sl (by simp)
      rw [List.length_map] at hL
      subst hL
      obtain ⟨frz, hbb, hfz2⟩ : ∃ frz, (Hc.set hp.length (.cells 0 (some tFrd) (putAt (putAt [i64 0, .lst 0 [] true] 0 fs[k].cells) 1 [P]) 0))[eb]? = some (.cells ver (some tFrd) ((ts1 ++ [t]).map rowQ).flatten frz) ∧ frz ≤ ((ts1 ++ [t]).map rowQ).flatten.length := by
        rcases gL.buf.1.2 with ⟨h, _⟩ | ⟨eb', ver', frz, h, h2, h3⟩
        · cases h
        · obtain ⟨_, q1, q2, _, _⟩ := AV.sl.inj h
          subst q1 q2
          exact ⟨frz, h2, h3⟩
      have hc0 : ((ts1 ++ [t]).map rowQ).flatten[ts1.length * 2 + 0]? = some (i64 t.1) := by
        rw [row_cell (by simp) 0 (by decide)]; simp [rowQ]
      have hc1 : ((ts1 ++ [t]).map rowQ).flatten[ts1.length * 2 + 1]? = some t.2.2 := by
        rw [row_cell (by simp) 1 (by decide)]; simp [rowQ]
      have hmerge : t.1 = fs[k].ver → k = 0 → addP (ts0.map coreQ) ((fs.map Freed.core).take (k + 1)) = (ts1 ++ [((t.1, t.2.1 ++ fs[k].pages, P) : FQ)]).map coreQ := fun e1 e2 => by
        rw [hstep, if_pos e2, List.map_append, List.map_cons, List.map_nil, addF0_snoc, if_pos (by simpa [coreQ, Freed.core] using e1)]
        simp [coreQ, Freed.core]
      have hsplit : ¬ (t.1 = fs[k].ver ∧ k = 0) → ((ts1 ++ [t]) ++ [((fs[k].ver, fs[k].pages, P) : FQ)]).map coreQ = addP (ts0.map coreQ) ((fs.map Freed.core).take (k + 1)) := fun e => by
        rw [hcore, hstep]
        by_cases e2 : k = 0
        · rw [if_pos e2, List.map_append, List.map_cons, List.map_nil, addF0_snoc, if_neg (by simp only [coreQ, Freed.core]; exact fun q => e ⟨q, e2⟩)]
          simp
        · rw [if_neg e2]
      have htw := wgt_mem (l := (ts1 ++ [t]).map coreQ) (x := coreQ t) (by simp)
      change t.2.1.length + 1 ≤ _ at htw
      obtain ⟨v, oh, ea2, qv, kv, lv, bv⟩ := nq_app (gL.val t (by simp)) qP (by omega)
      have gN := gL.last hbb hfz2 (t.2.1 ++ fs[k].pages) v (Nat.zero_le _) qv kv bv
      have hwt2 : wgt ((ts1 ++ [((t.1, t.2.1 ++ fs[k].pages, v) : FQ)]).map coreQ) + wgt ((fs.drop (k + 1)).map Freed.core) < 1048576 := by
        rw [List.map_append, wgt_app] at g4 ⊢
        simp only [List.map_cons, List.map_nil, wgt_one, coreQ, List.length_append] at g4 ⊢
        omega
      have hlen2 : ((ts1 ++ [t]).map rowQ).flatten.length = (ts1.length + 1) * 2 := by
        rw [rows_len (sz := 2) (fun r hm => by obtain ⟨s, _, rfl⟩ := List.mem_map.1 hm; rfl)]
        simp
      have hble : Nat.ble (0 + ((ts1.length : Nat) : Int).toNat * 2 + 1 + [v].length) ((ts1 ++ [t]).map rowQ).flatten.length = true := by
        rw [Nat.ble_eq, hlen2]
        simp only [List.length_cons, List.length_nil]
        omega
      rcases hP with rfl | ⟨nb, cnt, rfl⟩
      all_goals
        conv => whnf
        refine ixL freed_cells hk hfz ?_
        conv => whnf
        refine stI (get_last _ _) (xs := fs[k].cells) (by rfl) (by rfl) (by rfl) (by rfl) ?_
        conv => whnf
        refine ldI (get_set_last _ _ _) ?_
        conv => whnf
        refine clI cC ?_
        conv => whnf
        refine stI fE0 hP1 (by rfl) (by rfl) (by rfl) ?_
        conv => whnf
        refine zI (z := (ts1.length : Int)) (by rw [wrap_i64 (by simp only [List.length_append, List.length_cons, List.length_nil]; omega) (by simp only [List.length_append, List.length_cons, List.length_nil] at htl ⊢; omega)]; simp only [List.length_append, List.length_cons, List.length_nil]; omega) ?_
        conv => whnf
        refine bre (fun e => ?_) (fun e => ?_)
        · have hk0 : k = 0 := by simp only at e; omega
          conv => whnf
          refine ⟨by omega, by simp; omega, rfl, ?_⟩
          conv => whnf
          refine ldI hbb ?_
          conv => whnf
          refine wpartI (v := i64 t.1) (by unfold partR; rw [if_neg (by decide), Int.toNat_natCast, Nat.zero_add]; exact hc0) ?_
          conv => whnf
          refine ldI fE ?_
          conv => whnf
          refine bre (fun e1 => ?_) (fun e1 => ?_)
          · conv => whnf
            refine ⟨by omega, by simp; omega, rfl, ?_⟩
            conv => whnf
            refine ldI hbb ?_
            conv => whnf
            refine wpartI (v := t.2.2) (by unfold partR; rw [if_neg (by decide), Int.toNat_natCast, Nat.zero_add]; exact hc1) ?_
            conv => whnf
            refine ldI fE ?_
            conv => whnf
            refine ⟨_, ea2, ?_⟩
            cases oh with
            | none =>
              conv => whnf
              refine ⟨by omega, by simp; omega, rfl, ?_⟩
              conv => whnf
              refine stI (xs := [v]) hbb qv.scal.2 (by rfl) hble (by rw [gL.fz _ _ _ _ _ rfl hbb]; rfl) ?_
              conv => whnf
              refine zI (z := ((k + 1 : Nat) : Int)) (by rw [wrap_i64 (by simp only; omega) (by simp only; omega)]; rfl) ?_
              refine nxI (k + 1, _, _, ts1 ++ [(t.1, t.2.1 ++ fs[k].pages, v)]) ⟨hk, ?_, (by rw [hmerge e1 hk0]; simp [coreQ]), hwt2⟩ (by simp only; omega) ⟨⟨rfl, rfl, rfl, rfl, rfl, rfl, rfl, rfl⟩, rfl, rfl⟩
              have := gN.2
              rw [show 0 + ((ts1.length : Nat) : Int).toNat * 2 + 1 = ts1.length * 2 + 1 by omega]
              exact this
            | some h9 =>
              conv => whnf
              refine ⟨by omega, by simp; omega, rfl, ?_⟩
              conv => whnf
              refine stI (xs := [v]) (gN.1.trans hbb) qv.scal.2 (by rfl) hble (by rw [gL.fz _ _ _ _ _ rfl hbb]; rfl) ?_
              conv => whnf
              refine zI (z := ((k + 1 : Nat) : Int)) (by rw [wrap_i64 (by simp only; omega) (by simp only; omega)]; rfl) ?_
              refine nxI (k + 1, _, _, ts1 ++ [(t.1, t.2.1 ++ fs[k].pages, v)]) ⟨hk, ?_, (by rw [hmerge e1 hk0]; simp [coreQ]), hwt2⟩ (by simp only; omega) ⟨⟨rfl, rfl, rfl, rfl, rfl, rfl, rfl, rfl⟩, rfl, rfl⟩
              have := gN.2
              rw [show 0 + ((ts1.length : Nat) : Int).toNat * 2 + 1 = ts1.length * 2 + 1 by omega]
              exact this
          · have hpl := hsplit fun q => e1 q.1
            conv => whnf
            refine ldI fE ?_
            conv => whnf
            refine ⟨rfl, ?_⟩
            conv => whnf
            refine apI ea ?_
            conv => whnf
            refine zI (z := ((k + 1 : Nat) : Int)) (by rw [wrap_i64 (by simp only; omega) (by simp only; omega)]; rfl) ?_
            exact nxI (k + 1, L', hp', _) ⟨hk, g7, hpl, hwt⟩ (by simp only; omega) ⟨⟨rfl, rfl, rfl, rfl, rfl, rfl, rfl, rfl⟩, rfl, rfl⟩
        · have hpl := hsplit fun q => e (by simp only; omega)
          conv => whnf
          refine ldI fE ?_
          conv => whnf
          refine ⟨rfl, ?_⟩
          conv => whnf
          refine apI ea ?_
          conv => whnf
          refine zI (z := ((k + 1 : Nat) : Int)) (by rw [wrap_i64 (by simp only; omega) (by simp only; omega)]; rfl) ?_
          exact nxI (k + 1, L', hp', _) ⟨hk, g7, hpl, hwt⟩ (by simp only; omega) ⟨⟨rfl, rfl, rfl, rfl, rfl, rfl, rfl, rfl⟩, rfl, rfl⟩
  · have hk : k = fs.length := by simp only at a; omega
    subst hk
    rw [List.take_of_length_le (by rw [List.length_map]; exact Nat.le_refl _)] at g3
    conv => whnf
    exact hE L hp ts g2 g3 _ ⟨rfl, rfl, rfl, rfl, rfl⟩
end
end Go.Proofs
/- Contracts: the list of the pages of a list, whole. -/
set_option linter.unusedVariables false
set_option linter.unusedSimpArgs false
namespace Go.Proofs
open Go Go.Abs
theorem wgt_addF0 (f : FP) : ∀ ts : List FP, wgt (addF0 ts f) ≤ wgt ts + (f.2.length + 1)
  | [] => by simp [addF0, wgt]
  | [a] => by
    unfold addF0
    split
    · simp only [wgt, List.map_cons, List.map_nil, List.sum_cons, List.sum_nil, List.length_append]; omega
    · simp only [wgt, List.map_cons, List.map_nil, List.sum_cons, List.sum_nil]; omega
  | a :: b :: r => by
    have := wgt_addF0 f (b :: r)
    show wgt (a :: addF0 (b :: r) f) ≤ _
    simp only [wgt, List.map_cons, List.sum_cons] at this ⊢
    omega
theorem wgt_addP (ts fs : List FP) : wgt (addP ts fs) ≤ wgt ts + wgt fs := by
  cases fs with
  | nil => simp [addP, wgt]
  | cons f r =>
    have := wgt_addF0 f ts
    unfold addP
    rw [wgt_app]
    simp only [wgt, List.map_cons, List.sum_cons] at this ⊢
    omega
/-- What ListOf returns. -/
structure LofS (l : List Page) (r : CRes) : Prop where
  ex : ∃ (fs : List Freed) (sh : Sh) (ps : List Page) (e : Int), r = .ret (.tup (if l = [] ∨ (e = 0 ∧ samePs l ps = true) then [.lst sh.sz (fs.map Freed.av) sh.c, i64 0] else [.lst 0 [] true, i64 2])) ∧ fs.map Freed.core = allF l ∧ (∀ f ∈ fs, f.Ok) ∧ (fs ≠ [] → sh.sz = 2) ∧ (l = [] ∨ ListSpec fs (l.map Page.no) (headV l) ps e)
section
variable {n : Nat} {h : AHeap}
set_option maxRecDepth 10000 in
theorem listOf_eq (hn : 9 ≤ n) (l : List Page) (hl : l.length ≤ 1000) (ho : ∀ p ∈ l, p.Ok) (hW : wl l < 1048576) (sz : Nat) (hz : l ≠ [] → sz = 10) (c : Bool) : ∃ r, (∀ h, C n 42 [.lst sz (l.map Page.av) c] h = some (r, h)) ∧ LofS l r := by
  obtain ⟨m, rfl⟩ : ∃ m, n = m + 1 := ⟨n - 1, by omega⟩
  refine fun_pureX F42 rfl rfl rfl (pure_lst page_pure l rfl) ?_
  by_cases hne : l = []
  · subst hne
    conv => whnf
    exact ⟨_, rfl, _, ⟨_, rfl, rfl⟩, ⟨[], ⟨0, true⟩, [], 0, by rw [if_pos (.inl rfl)]; rfl, rfl, (fun f hf => by cases hf), fun q => (q rfl).elim, .inl rfl⟩⟩
  have h0 : 0 < l.length := by cases l with | nil => exact (hne rfl).elim | cons => simp
  have hhd : l[0].ver = headV l := by cases l with | nil => exact (hne rfl).elim | cons => rfl
  have cN := fun h => numbersOf_eq (n := m) (h := h) (by omega) l (by omega) sz hz c hne
  have hs := hz hne
  subst hs
  conv => whnf
  refine bre (fun a => ?_) (fun _ => ?_)
  · exfalso; rw [List.length_map] at a; omega
  conv => whnf
  refine loopI (by decide) rfl (α := Nat × AV × AHeap × List FQ) (fun x => ⟨[(0, .lst 10 (l.map Page.av) c), (4, x.2.1), (15, .lst 10 (l.map Page.av) c), (16, i64 l.length), (17, i64 x.1)], x.2.2.1, []⟩)
    (fun x => x.1 ≤ l.length ∧ LB false 0 x.2.2.1 x.2.1 x.2.2.2 ∧ x.2.2.2.map coreQ = allF (l.take x.1) ∧ wgt (x.2.2.2.map coreQ) + wl (l.drop x.1) < 1048576) (fun x => l.length - x.1) (0, .lst 0 [] true, [], []) ⟨⟨rfl, rfl, rfl, lenI _ _, rfl⟩, rfl, rfl⟩ ⟨Nat.zero_le _, LB.nil, rfl, by simpa [wgt] using hW⟩ (by show l.length - 0 < KK; simp only [KK]; omega) ?_
  rintro ⟨i, L, hp, ts⟩ ⟨g1, g2, g3, g4⟩
  simp only at g1 g2 g3 g4
  conv => whnf
  refine brd (fun a => ?_) (fun a => ?_)
  · have hi : i < l.length := by simp only at a; omega
    have op := ho _ (List.getElem_mem hi)
    rw [wl_drop hi] at g4
    have hadd := wgt_addP (ts.map coreQ) (l[i].freed.map Freed.core)
    conv => whnf
    refine ixL page_cells hi hz ?_
    conv => whnf
    refine stI (get_last _ _) (xs := l[i].cells) (by rfl) (by rfl) (by rfl) (by rfl) ?_
    conv => whnf
    refine ldI (get_set_last _ _ _) ?_
    conv => whnf
    refine listOf_in (by omega) l 10 c i l[i].freed l[i].fsh.sz op.fsz l[i].fsh.c (fun f hf => (op.fr f hf).1) L _ ts (g2.old fun k _ hk => by rw [List.getElem?_set_ne (by simp only; omega), List.getElem?_append_left hk]) (by omega) ⟨⟨rfl, rfl, rfl, rfl, rfl, rfl, lenI Freed.av _, rfl⟩, rfl, rfl⟩ (fun L' hp' ts' b' e' Lt hL => ?_)
    conv => whnf
    refine cutI (by decide) rfl (t := ⟨[(0, .lst 10 (l.map Page.av) c), (4, L'), (15, .lst 10 (l.map Page.av) c), (16, i64 l.length), (17, i64 i)], hp', []⟩) ⟨hL, rfl, rfl⟩ ?_
    conv => whnf
    refine zI (z := ((i + 1 : Nat) : Int)) (by rw [wrap_i64 (by omega) (by omega)]; rfl) ?_
    exact nxI (i + 1, L', hp', ts') ⟨hi, b', by simp only; rw [e', g3, allF_take hi], by simp only; rw [e']; omega⟩ (by simp only; omega) ⟨⟨rfl, rfl, rfl, rfl, rfl⟩, rfl, rfl⟩
  · have hi : i = l.length := by simp only at a; omega
    subst hi
    rw [List.take_length] at g3
    obtain ⟨sh, f1, f2, f3⟩ := g2.frz 61
    have f4 : Abs.frz hp 63 L = some (.lst sh.sz ((ts.map toQ).map Freed.av) sh.c) := by
      obtain ⟨sh', q1, _, q3⟩ := g2.frz 60
      rw [f3, ← q3]; exact q1
    have hfs : (ts.map toQ).map Freed.core = allF l := by rw [toQ_core, g3]
    have hok : ∀ f ∈ ts.map toQ, f.Ok := fun f hm => by obtain ⟨t, ht, rfl⟩ := List.mem_map.1 hm; exact toQ_ok (g2.val t ht)
    have hwq : wgt ((ts.map toQ).map Freed.core) < 1048576 := by rw [toQ_core]; omega
    have hfl : ∀ f ∈ ts.map toQ, f.Ok ∧ f.pages.length < 9223372036854775808 := fun f hm => by
      have := wgt_mem (l := (ts.map toQ).map Freed.core) (x := f.core) (List.mem_map.2 ⟨f, hm, rfl⟩)
      change f.pages.length + 1 ≤ _ at this
      exact ⟨hok f hm, by omega⟩
    have hll : (ts.map toQ).length < 1048576 := by
      have := wgt_len ((ts.map toQ).map Freed.core)
      rw [List.length_map] at this
      omega
    have hsz : ts.map toQ ≠ [] → sh.sz = 2 := fun q => f2 fun e => q (by rw [e]; rfl)
    obtain ⟨ps, psh, e, cLP, spec, pz, pok⟩ := listPages_eq (n := m) (by omega) (ts.map toQ) hll hfl (fun _ => hwq) sh.sz hsz sh.c (l.map Page.no) (by rw [List.length_map]; omega) 1 (fun _ => rfl) false l[0].ver
    rw [hhd] at spec
    have cE := fun h => eqPages_eq (n := m) (h := h) (by omega) l ps (by omega) ho pok 10 psh.sz hz pz c psh.c
    obtain ⟨hpF, cL, hF⟩ : ∃ hpF, C m 40 [L, .lst 1 ((l.map Page.no).map i64) false, i64 l[0].ver] hp = some (.ret (.tup [.lst psh.sz (ps.map Page.av) psh.c, i64 e]), hpF) ∧ Abs.frz hpF 63 L = some (.lst sh.sz ((ts.map toQ).map Freed.av) sh.c) := by
      by_cases hts : ts = []
      · subst hts
        have hL := g2.emp rfl
        subst hL
        rw [if_pos rfl] at f3
        subst f3
        exact ⟨hp, cLP hp, rfl⟩
      · obtain ⟨eb, ver, hL⟩ := g2.buf.sl (by simpa using hts)
        obtain ⟨m', rfl⟩ : ∃ m', m = m' + 1 := ⟨m - 1, by omega⟩
        refine ⟨_, cold_mem (args' := [.lst sh.sz ((ts.map toQ).map Freed.av) sh.c, .lst 1 ((l.map Page.no).map i64) false, i64 l[0].ver]) rfl rfl (of_decide_eq_true (by kernel_rfl)) (by rw [hL]; rfl) ?_ (pure_lst freed_pure _ (ints_pure _ rfl)) (cLP hp) rfl rfl, ?_⟩
        · unfold allM allM allM allM
          rw [f1]
          have e2 : Abs.frz hp 64 (.lst 1 ((l.map Page.no).map i64) false) = some (.lst 1 ((l.map Page.no).map i64) false) := (frzOk_lst fun x hx => by obtain ⟨k, _, rfl⟩ := List.mem_map.1 hx; exact frzOk_int) hp
          rw [e2]
          rfl
        · rw [frz_lock]; exact f4
    have fin : ∀ (b : Bool), b = decide (e = 0 ∧ samePs l ps = true) → LofS l (.ret (.tup (if b = true then [.lst sh.sz ((ts.map toQ).map Freed.av) sh.c, i64 0] else [.lst 0 [] true, i64 2]))) := fun b hb => by
      subst hb
      refine ⟨ts.map toQ, sh, ps, e, ?_, hfs, hok, hsz, .inr spec⟩
      by_cases q : e = 0 ∧ samePs l ps = true
      · rw [if_pos (decide_eq_true q), if_pos (.inr q)]
      · rw [if_neg (by simpa using q), if_neg (by simp [hne]; simpa using q)]
    conv => whnf
    refine cutI (by decide) rfl (t := ⟨[(0, .lst 10 (l.map Page.av) c), (4, L)], hp, []⟩) ⟨⟨rfl, rfl⟩, rfl, rfl⟩ ?_
    conv => whnf
    refine clI (cN _) ?_
    conv => whnf
    refine ixL page_cells h0 hz ?_
    conv => whnf
    refine clI cL ?_
    conv => whnf
    refine ⟨?_, ?_⟩
    · repeat' first | ((conv => whnf) <;> done) | ((conv => whnf) <;> (first | exact ldI (rfl) rfl | refine ⟨?_, ?_⟩))
    conv => whnf
    refine brq (fun q => ?_) (fun q => ?_)
    · conv => whnf
      have := fin false (by symm; rw [decide_eq_false_iff_not]; exact fun h => q h.1)
      exact ⟨_, rfl, _, ⟨_, rfl, rfl⟩, this⟩
    conv => whnf
    refine clI (cE _) ?_
    conv => whnf
    refine brn (fun r => ?_) (fun r => ?_)
    · conv => whnf
      have := fin false (by symm; rw [decide_eq_false_iff_not]; exact fun h => by rw [r] at h; cases h.2)
      exact ⟨_, rfl, _, ⟨_, rfl, rfl⟩, this⟩
    · conv => whnf
      have := fin true (by symm; rw [decide_eq_true_eq]; exact ⟨q, r⟩)
      exact ⟨_, rfl, _, ⟨_, frz_tup2 hF rfl, rfl⟩, this⟩
end
end Go.Proofs
/- Lists of freed pages: what both answers have in common, and what was cut is put together again. -/
set_option linter.unusedVariables false
set_option linter.unusedSimpArgs false
namespace Go.Proofs
open Go Go.Abs
/-- Two pages of one list. -/
structure Alike (p q : Page) : Prop where
  kind : p.kind = q.kind
  no : p.no = q.no
  ver : p.ver = q.ver
  next : p.next = q.next
  data : p.data = q.data
  freed : p.freed.map Freed.core = q.freed.map Freed.core
  bp : Bare p
  bq : Bare q
theorem LPg.alike {ns : List Int} {v : Int} {ds : List (List FP)} {k : Nat} {p q : Page} (a : LPg ns v ds k p) (b : LPg ns v ds k q) : Alike p q :=
  ⟨a.kind.trans b.kind.symm, a.no.trans b.no.symm, a.ver.trans b.ver.symm, a.next.trans b.next.symm, a.data.trans b.data.symm, a.freed.trans b.freed.symm, a.bare, b.bare⟩
theorem Alike.plain {p q : Page} (a : Alike p q) : p.plain = true ∧ q.plain = true := by
  obtain ⟨a1, a2, a3, a4⟩ := a.bp
  obtain ⟨b1, b2, b3, b4⟩ := a.bq
  unfold Page.plain
  rw [a1, a2, a3, a4, b1, b2, b3, b4]
  exact ⟨rfl, rfl⟩
theorem Alike.sameP {p q : Page} (a : Alike p q) (x : Page) : Go.Proofs.sameP x p = Go.Proofs.sameP x q := by
  unfold Go.Proofs.sameP
  rw [a.kind, a.no, a.ver, a.next, a.data, a.freed, a.plain.1, a.plain.2]
theorem Alike.self {p q : Page} (a : Alike p q) : Go.Proofs.sameP p q = true := by
  unfold Go.Proofs.sameP
  rw [a.kind, a.no, a.ver, a.next, a.data, a.freed, a.plain.1, a.plain.2]
  simp
theorem ListSpec.bare {l : List Freed} {no : List Int} {v : Int} {ps : List Page} {e : Int} (s : ListSpec l no v ps e) : ∀ p ∈ ps, Bare p := by
  cases s with
  | form => intro p hp; cases hp
  | arg => intro p hp; cases hp
  | ok _ _ _ _ h =>
    intro p hp
    obtain ⟨k, hk, rfl⟩ := List.mem_iff_getElem.1 hp
    exact (h k hk).bare
theorem ListSpec.one {l : List Freed} {no : List Int} {v : Int} {ps ps' : List Page} {e e' : Int} (s : ListSpec l no v ps e) (s' : ListSpec l no v ps' e') : e = e' ∧ ps.length = ps'.length ∧ ∀ k (hk : k < ps.length) (hk' : k < ps'.length), Alike ps[k] ps'[k] := by
  cases s with
  | form h =>
    cases s' with
    | form _ => exact ⟨rfl, rfl, fun k hk => absurd hk (Nat.not_lt_zero _)⟩
    | arg h2 _ => rw [h] at h2; cases h2
    | ok h2 _ _ _ _ => rw [h] at h2; cases h2
  | arg h q =>
    cases s' with
    | form h2 => rw [h] at h2; cases h2
    | arg _ _ => exact ⟨rfl, rfl, fun k hk => absurd hk (Nat.not_lt_zero _)⟩
    | ok _ h3 h4 _ _ =>
      rcases q with q | q
      · omega
      · rw [q] at h4; cases h4
  | ok h h3 h4 h5 h6 =>
    cases s' with
    | form h2 => rw [h] at h2; cases h2
    | arg _ q =>
      rcases q with q | q
      · omega
      · rw [q] at h4; cases h4
    | ok _ _ _ h5' h6' => exact ⟨rfl, h5.trans h5'.symm, fun k hk hk' => (h6 k hk).alike (h6' k hk')⟩
theorem ListSpec.core {a b : List Freed} (h : a.map Freed.core = b.map Freed.core) {no : List Int} {v : Int} {ps : List Page} {e : Int} (s : ListSpec a no v ps e) : ListSpec b no v ps e := by
  have h1 := freedOk_core h
  cases s with
  | form q => exact .form (by rw [← h1]; exact q)
  | arg q r => exact .arg (by rw [← h1]; exact q) (by rw [← h]; exact r)
  | ok q r t u w => exact .ok (by rw [← h1]; exact q) (by rw [← h]; exact r) t u (by rw [← h]; exact w)
theorem alikes_self {a b : List Page} (hl : a.length = b.length) (h : ∀ k (hk : k < a.length) (hk' : k < b.length), Alike a[k] b[k]) : samePs a b = true := samePs_yes hl fun j ha hb => (h j ha hb).self
end Go.Proofs
/- Lists of freed pages: what was cut into pages is put together again. -/
set_option linter.unusedVariables false
set_option linter.unusedSimpArgs false
namespace Go.Proofs
open Go Go.Abs
/-- Versions increase. -/
def Asc : List FP → Prop
  | [] => True
  | [_] => True
  | a :: b :: r => a.1 < b.1 ∧ Asc (b :: r)
theorem asc_of : ∀ {l : List FP}, (∀ k (h : k + 1 < l.length), l[k].1 < l[k + 1].1) → Asc l
  | [], _ => trivial
  | [_], _ => trivial
  | a :: b :: r, h => ⟨h 0 (by simp), asc_of fun k hk => h (k + 1) (by simp only [List.length_cons] at hk ⊢; omega)⟩
theorem Asc.tail {a : FP} {l : List FP} (h : Asc (a :: l)) : Asc l := by
  cases l with
  | nil => trivial
  | cons b r => exact h.2
theorem Asc.head {a b : FP} {l : List FP} (h : Asc (a :: l)) (e : b.1 = a.1) : Asc (b :: l) := by
  cases l with
  | nil => trivial
  | cons c r => exact ⟨by rw [e]; exact h.1, h.2⟩
/-- A cut: between two elements, or within one. -/
inductive CutAt : List FP → List FP → List FP → Prop
  | between (p q : List FP) : CutAt (p ++ q) p q
  | within (p r : List FP) (v : Int) (a b : List Int) : CutAt (p ++ (v, a ++ b) :: r) (p ++ [(v, a)]) ((v, b) :: r)
theorem CutAt.cons {l p q : List FP} (x : FP) (h : CutAt l p q) : CutAt (x :: l) (x :: p) q := by
  cases h with
  | between => exact .between (x :: p) q
  | within p r v a b => exact .within (x :: p) r v a b
theorem cutQ_at : ∀ (room : Nat) (l : List FP), CutAt l (cutQ room l).1 (cutQ room l).2
  | _, [] => .between [] []
  | room, (v, ps) :: r => by
    unfold cutQ
    split
    · exact .between [] _
    · split
      · have := CutAt.within [] r v (ps.take ((room - 8) / 4)) (ps.drop ((room - 8) / 4))
        rw [List.take_append_drop] at this
        exact this
      · exact (cutQ_at _ r).cons _
theorem cutQ_asc {l : List FP} (h : Asc l) (room : Nat) : Asc (cutQ room l).2 := by
  have hc := cutQ_at room l
  have main : ∀ {l p q : List FP}, CutAt l p q → Asc l → Asc q := fun {l p q} hc h => by
    cases hc with
    | between =>
      induction p with
      | nil => exact h
      | cons a r ih => exact ih h.tail
    | within p r v a b =>
      induction p with
      | nil => exact h.head rfl
      | cons x r' ih => exact ih h.tail
  exact main hc h
/-- The last one has the version of what was added. -/
theorem addF0_last (ts : List FP) (f : FP) : ∃ t y, addF0 ts f = t ++ [y] ∧ y.1 = f.1 := by
  rcases List.eq_nil_or_concat ts with rfl | ⟨t, y, rfl⟩
  · exact ⟨[], f, rfl, rfl⟩
  · rw [List.concat_eq_append, addF0_snoc]
    split
    · rename_i h
      exact ⟨t, _, rfl, h⟩
    · exact ⟨t ++ [y], f, by simp, rfl⟩
theorem addP_last {ts p : List FP} (hp : p ≠ []) : ∃ t y x, addP ts p = t ++ [y] ∧ p.getLast? = some x ∧ y.1 = x.1 := by
  cases p with
  | nil => exact (hp rfl).elim
  | cons f r =>
    rcases List.eq_nil_or_concat r with rfl | ⟨r', z, rfl⟩
    · obtain ⟨t, y, h1, h2⟩ := addF0_last ts f
      exact ⟨t, y, f, by simp only [addP, List.append_nil]; exact h1, rfl, h2⟩
    · rw [List.concat_eq_append]
      exact ⟨addF0 ts f ++ r', z, z, by simp [addP], by rw [← List.cons_append, List.getLast?_append]; rfl, rfl⟩
theorem addP_app {ts p q : List FP} (hp : p ≠ []) : addP ts (p ++ q) = addP ts p ++ q := by
  cases p with
  | nil => exact (hp rfl).elim
  | cons f r => simp [addP]
theorem addF0_twice (ts : List FP) (v : Int) (a b : List Int) : addF0 (addF0 ts (v, a)) (v, b) = addF0 ts (v, a ++ b) := by
  rcases List.eq_nil_or_concat ts with rfl | ⟨t, y, rfl⟩
  · simp [addF0]
  · rw [List.concat_eq_append, addF0_snoc, addF0_snoc]
    by_cases h : y.1 = v
    · rw [if_pos h, if_pos h, addF0_snoc, if_pos h]
      simp
    · rw [if_neg h, if_neg h, show t ++ [y, (v, a)] = (t ++ [y]) ++ [(v, a)] by simp, addF0_snoc, if_pos rfl]
      simp
theorem asc_mid {p q : List FP} {x f : FP} (h : Asc (p ++ f :: q)) (hx : p.getLast? = some x) : x.1 < f.1 := by
  induction p with
  | nil => cases hx
  | cons a r ih =>
    cases r with
    | nil => cases hx; exact h.1
    | cons b r' => exact ih h.tail (by rw [List.getLast?_cons_cons] at hx; exact hx)
theorem cut_glue {l p q : List FP} (hc : CutAt l p q) (ha : Asc l) (ts : List FP) : addP (addP ts p) q = addP ts l := by
  cases hc with
  | between =>
    by_cases hp : p = []
    · subst hp; rfl
    · rw [addP_app hp]
      cases q with
      | nil => simp [addP]
      | cons f r =>
        obtain ⟨t, y, x, h1, h2, h3⟩ := addP_last (ts := ts) hp
        have h4 := asc_mid ha h2
        rw [h1]
        show addF0 (t ++ [y]) f ++ r = _
        rw [addF0_snoc, if_neg (by omega)]
        simp
  | within p r v a b =>
    by_cases hp : p = []
    · subst hp
      simp only [List.nil_append]
      show addF0 (addF0 ts (v, a) ++ []) (v, b) ++ r = addF0 ts (v, a ++ b) ++ r
      rw [List.append_nil, addF0_twice]
    · rw [addP_app hp, addP_app hp]
      show addF0 (addP ts p ++ [(v, a)]) (v, b) ++ r = _
      rw [addF0_snoc, if_pos rfl]
      simp
/-- The parts of a list, put together. -/
theorem parts_glue {l : List FP} {ds : List (List FP)} (h : Parts l ds) (ha : Asc l) (ts : List FP) : ds.foldl addP ts = addP ts l := by
  induction h generalizing ts with
  | nil => rfl
  | step hne _ ih =>
    rw [List.foldl_cons, ih (cutQ_asc ha 490), cut_glue (cutQ_at 490 _) ha]
theorem freedOk_asc {l : List Freed} (h : freedOk l = true) : Asc (l.map Freed.core) := asc_of fun k hk => by
  rw [List.length_map] at hk
  have h1 := (freedOk_at h hk).2.2.1
  simp only [List.getElem_map, Freed.core]
  rcases h1 with h1 | h1
  · omega
  · simpa using h1
end Go.Proofs
/- The looked-up text of the functions. -/
namespace Go.Proofs
open Go Go.Abs
/- f10 understory/understorylaw04.small: 42 temporaries, depth 6, 1 parameters, results [t2] -/
def c10 : RC :=
 (.seq (.ops [(oP 2 (.mv (.c (.bool false))))])
 (.seq (.seq (.ops [(oP 3 (.mv (.c (.int .i64 0))))])
 (.block 0
 (.loop
 (.seq (.seq (.ops [(mV 4 3),
 (mV 5 0),
 (oP 6 (.lenL (.t 5))),
 (oP 7 (.bin .lss (.t 4) (.t 6))),
 (mV 8 7),
 (oG 9 8 true (.mv (.t 3))),
 (oG 10 8 true (.bin .leq (.t 9) (.c (.int .i64 30)))),
 (oP 11 (.pick (.t 8) (.t 10) (.c (.bool false))))])
 (.cond (.t 11)
 .skip
 (.exit 0)))
 (.seq (.block 1
 (.seq (.ops [(mV 14 0),
 (mV 15 3),
 (oP 16 (.indexAddrL 10 (.t 14) (.t 15))),
 (oP 17 (.fieldAddr 6 (.t 16))),
 (oP 18 (.load false 1 (.t 17))),
 (oP 19 (.callF 24 [(.t 18)])),
 (oP 20 (.un .not (.t 19))),
 (mV 21 20),
 (oG 22 21 false (.mv (.t 0))),
 (oG 23 21 false (.mv (.t 3))),
 (oG 24 21 false (.indexAddrL 10 (.t 22) (.t 23))),
 (oG 25 21 false (.fieldAddr 9 (.t 24))),
 (oG 26 21 false (.load false 1 (.t 25))),
 (oG 27 21 false (.callF 37 [(.t 26)])),
 (oG 28 21 false (.un .not (.t 27))),
 (oP 29 (.pick (.t 21) (.c (.bool true)) (.t 28))),
 (mV 30 29),
 (oG 31 30 false (.mv (.t 0))),
 (oG 32 30 false (.mv (.t 3))),
 (oG 33 30 false (.indexAddrL 10 (.t 31) (.t 32))),
 (oG 34 30 false (.fieldAddr 8 (.t 33))),
 (oG 35 30 false (.load false 1 (.t 34))),
 (oG 36 30 false (.lenS (.t 35))),
 (oG 37 30 false (.bin .gtr (.t 36) (.c (.int .i64 1000)))),
 (oP 38 (.pick (.t 30) (.c (.bool true)) (.t 37)))])
 (.cond (.t 38)
 (.seq (.ops [(oP 2 (.mv (.c (.bool false))))])
 .ret)
 .skip)))
 (.ops [(mV 12 3),
 (oP 13 (.bin .add (.t 12) (.c (.int .i64 1)))),
 (mV 3 13)]))))))
 (.cut (.seq (.ops [(mV 39 0),
 (oP 40 (.lenL (.t 39))),
 (oP 41 (.bin .leq (.t 40) (.c (.int .i64 30)))),
 (mV 2 41)])
 .ret))))
theorem F10 : FI 10 1 42 6 [.tmp 2] c10 := ⟨⟨Tryz.f10, Tryz.func10, by kernel_rfl, by kernel_rfl, by kernel_rfl⟩, by kernel_rfl, by decide, by kernel_rfl⟩
/- f37 understory/understorylaw04.short: 28 temporaries, depth 5, 1 parameters, results [t2] -/
def c37 : RC :=
 (.seq (.ops [(oP 2 (.mv (.c (.bool false))))])
 (.seq (.ops [(oP 3 (.mv (.c (.int .i64 0))))])
 (.seq (.seq (.ops [(oP 4 (.mv (.c (.int .i64 0))))])
 (.block 0
 (.loop
 (.seq (.seq (.ops [(mV 5 4),
 (mV 6 0),
 (oP 7 (.lenL (.t 6))),
 (oP 8 (.bin .lss (.t 5) (.t 7))),
 (mV 9 8),
 (oG 10 9 true (.mv (.t 4))),
 (oG 11 9 true (.bin .leq (.t 10) (.c (.int .i64 300)))),
 (oP 12 (.pick (.t 9) (.t 11) (.c (.bool false))))])
 (.cond (.t 12)
 .skip
 (.exit 0)))
 (.seq (.block 1
 (.seq (.ops [(mV 15 3),
 (mV 16 0),
 (mV 17 4),
 (oP 18 (.indexAddrL 2 (.t 16) (.t 17))),
 (oP 19 (.fieldAddr 1 (.t 18))),
 (oP 20 (.load false 1 (.t 19))),
 (oP 21 (.lenL (.t 20))),
 (oP 22 (.bin .add (.t 15) (.t 21))),
 (mV 3 22)])
 (.seq (.ops [(mV 23 3),
 (oP 24 (.bin .gtr (.t 23) (.c (.int .i64 900))))])
 (.cond (.t 24)
 (.seq (.ops [(oP 2 (.mv (.c (.bool false))))])
 .ret)
 .skip))))
 (.ops [(mV 13 4),
 (oP 14 (.bin .add (.t 13) (.c (.int .i64 1)))),
 (mV 4 14)]))))))
 (.cut (.seq (.ops [(mV 25 0),
 (oP 26 (.lenL (.t 25))),
 (oP 27 (.bin .leq (.t 26) (.c (.int .i64 300)))),
 (mV 2 27)])
 .ret)))))
theorem F37 : FI 37 1 28 5 [.tmp 2] c37 := ⟨⟨Tryz.f37, Tryz.func37, by kernel_rfl, by kernel_rfl, by kernel_rfl⟩, by kernel_rfl, by decide, by kernel_rfl⟩
end Go.Proofs
