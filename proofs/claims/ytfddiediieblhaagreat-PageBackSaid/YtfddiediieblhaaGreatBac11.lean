/- Texts put together: Gd, Ge, Hb, Rn, Ro, Hc, Hd, Kb, He, Kc, Ni, Nj, Nk, Ea, Eb, Ep, Eq, Ka. -/
import Derived.Test.YtfddiediieblhaaGreatBac10
import Derived.Test.YtfddiediieblhaaGreatBac8
import Derived.Test.YtfddiediieblhaaGreatBac9
import Derived.Test.YtfddiediieblhaaGreatBac7
/- Contracts: Encode. -/
set_option linter.unusedVariables false
set_option linter.unusedSimpArgs false
namespace Go.Proofs
open Go Go.Abs
theorem restB_w {e : Entry} {lv : Int} (hv : if lv = 0 then formOf e ≠ 0 else branches e = true) (h0 : 0 ≤ lv) : weighB e lv = true ∧ (((restB e lv).length : Nat) : Int) + e.key.length + 3 = weighW e lv := by
  by_cases hl : lv = 0
  · subst hl
    rw [if_pos rfl] at hv
    refine ⟨weigh_form hv, ?_⟩
    have hf : formOf e = 1 ∨ formOf e = 2 ∨ formOf e = 3 := by
      have : formOf e = 0 ∨ formOf e = 1 ∨ formOf e = 2 ∨ formOf e = 3 := by
        unfold formOf
        repeat' (first | split)
        all_goals simp
      omega
    have f0 : ¬ (0 : Int) < 0 := by omega
    unfold weighW restB
    rcases hf with hf | hf | hf
    · have hs : isShort e = true := by
        have hf' := hf
        by_cases q : isShort e = true
        · exact q
        · unfold formOf at hf'
          simp only [q, if_false] at hf'
          repeat' split at hf'
          all_goals simp_all
      simp [isShort] at hs
      obtain ⟨⟨⟨⟨⟨g1, g2⟩, g3⟩, g4⟩, _⟩, g5⟩ := hs
      have f1 : ¬ 0 < e.over := by omega
      have f2 : ¬ 0 < e.child := by omega
      simp only [f0, f1, f2, if_false, hf, if_true]
      simp [num_len]; omega
    · have hs : isLong e = true := by
        by_cases q : isLong e = true
        · exact q
        · unfold formOf at hf
          simp only [q, if_false] at hf
          repeat' split at hf
          all_goals simp_all
      simp [isLong, numbered, within] at hs
      have f1 : 0 < e.over := by omega
      simp only [f0, f1, if_false, hf, if_true]
      simp [num_len, Dg.bytes_len]; omega
    · have hs : isNest e = true := by
        by_cases q : isNest e = true
        · exact q
        · unfold formOf at hf
          simp only [q, if_false] at hf
          repeat' split at hf
          all_goals simp_all
      simp [isNest, numbered, within] at hs
      have f1 : ¬ 0 < e.over := by omega
      have f2 : 0 < e.child := by omega
      simp only [f0, f1, f2, if_false, hf, if_true]
      simp [num_len, Dg.bytes_len]; omega
  · rw [if_neg hl] at hv
    have hp : 0 < lv := by omega
    refine ⟨by simp [weighB, hp, hv], ?_⟩
    unfold weighW restB
    rw [if_pos hp, if_pos hp]
    simp [num_len, Dg.bytes_len]; omega

def cuts (l : List Entry) (lv : Int) : Nat → Nat
  | 0 => 0
  | k + 1 => cuts l lv k + cutAt l lv k
theorem cuts_mono (l : List Entry) (lv : Int) {i : Nat} : ∀ {k : Nat}, i < k → cutAt l lv i ≤ cuts l lv k
  | 0, h => by omega
  | k + 1, h => by
    simp only [cuts]
    by_cases e : i = k
    · subst e; omega
    · have := cuts_mono l lv (i := i) (k := k) (by omega); omega
theorem valid_form {l : List Entry} {lv : Int} (hv : valid l lv = true) {j : Nat} (hj : j < l.length) : (if lv = 0 then formOf l[j] ≠ 0 else branches l[j] = true) ∧ (lv = 0 ∨ j = 0 ∨ l[j].key ≠ []) ∧ (j = 0 ∨ cmpS l[j - 1].key l[j].key < 0) := by
  obtain ⟨h1, h2, h3, h4⟩ := valid_iff.1 hv
  have := h4 j hj
  rw [vAt_unf hj] at this
  by_cases e0 : lv = 0
  · subst e0
    simp at this
    exact ⟨by rw [if_pos rfl]; exact this.1, .inl rfl, this.2⟩
  · simp [e0] at this
    exact ⟨by rw [if_neg e0]; exact this.1.1, .inr this.1.2, this.2⟩
theorem ents_weight {l : List Entry} {lv : Int} (hv : valid l lv = true) : ∀ k, k ≤ l.length → ∃ s, wsum lv (l.take k) = some s ∧ (((entsB l lv k).length : Nat) : Int) + 2 * k + cuts l lv k = s
  | 0, _ => ⟨0, by simp [wsum], by simp [entsB, cuts]⟩
  | k + 1, hk => by
    obtain ⟨s, h1, h2⟩ := ents_weight hv k (by omega)
    have hk' : k < l.length := by omega
    have hf := (valid_form hv hk').1
    obtain ⟨g1, g2⟩ := restB_w hf (valid_iff.1 hv).1.1
    have hw := wsum_take hk' h1
    rw [if_pos g1] at hw
    refine ⟨_, hw, ?_⟩
    have hc := cutAt_le (lv := lv) hk'
    rw [entsB_succ l lv hk', List.length_append]
    unfold entB
    simp only [List.length_append, num_len, List.length_drop, cuts]
    omega
theorem nodeB_len {tree lv : Int} {top : Bool} {l : List Entry} {base : Nat} (hf : fits l lv = true) : (nodeB tree lv top l base).length ≤ 496 ∧ valid l lv = true ∧ l.length ≤ 98 := by
  unfold fits at hf
  simp only [Bool.and_eq_true] at hf
  obtain ⟨hv, hw⟩ := hf
  obtain ⟨⟨q1, q2⟩, hne, q3, _⟩ := valid_iff.1 hv
  obtain ⟨s, h1, h2⟩ := ents_weight hv l.length (Nat.le_refl _)
  rw [List.take_length] at h1
  have hws : weight l lv = some (6 + s) := by unfold weight; rw [if_pos (within_iff.2 ⟨q1, q2⟩), h1]; rfl
  rw [hws] at hw
  simp at hw
  have hpos : 0 < l.length := by cases l with | nil => exact (hne rfl).elim | cons => simp
  have hcut : (shared l lv).length ≤ cuts l lv l.length := by
    have h3 := cuts_mono l lv (i := l.length - 1) (k := l.length) (by omega)
    unfold cutAt at h3
    rw [if_neg (by omega)] at h3
    exact h3
  have hents : 5 * (l.length : Int) ≤ s := by
    have : ∀ k, k ≤ l.length → ∀ s, wsum lv (l.take k) = some s → 5 * (k : Int) ≤ s := by
      intro k
      induction k with
      | zero => intro _ s h; simp [wsum] at h; omega
      | succ k ih =>
        intro hk s h
        obtain ⟨s', g1, _⟩ := ents_weight hv k (by omega)
        have hf := (valid_form hv (show k < l.length by omega)).1
        have g2 := (restB_w hf q1).1
        have hw := wsum_take (show k < l.length by omega) g1
        rw [if_pos g2, h] at hw
        have := ih (by omega) s' g1
        have := (weigh_bound g2).1
        have := Option.some.inj hw
        omega
    exact this l.length (Nat.le_refl _) s (by rw [List.take_length]; exact h1)
  refine ⟨?_, hv, by omega⟩
  unfold nodeB
  simp only [List.length_append, num_len, offsB_len]
  omega
theorem freedsB_len : ∀ (l : List Freed), ((freedsB l).length : Int) + 6 = listed l
  | [] => by simp [freedsB, listed]
  | f :: r => by
    have h1 := freedsB_len r
    have h2 := freedB_len f
    simp only [freedsB, listed, List.flatMap_cons, List.map_cons, List.sum_cons, List.length_append] at h1 ⊢
    omega
theorem freedOk_at {l : List Freed} (h : freedOk l = true) {j : Nat} (hj : j < l.length) : (0 ≤ l[j].ver ∧ l[j].ver ≤ 1099511627776) ∧ l[j].pages ≠ [] ∧ (j = 0 ∨ l[j - 1].ver < l[j].ver) ∧ pgsOk l[j].pages = true := by
  have := List.all_eq_true.1 h j (List.mem_range.2 hj)
  rw [frAt_unf hj] at this
  simp [within] at this
  exact ⟨this.1.1, this.1.2.1, this.1.2.2, this.2⟩
theorem pgsOk_at {l : List Int} (h : pgsOk l = true) {j : Nat} (hj : j < l.length) : (2 ≤ l[j] ∧ l[j] ≤ 4095) ∧ (j = 0 ∨ l[j - 1] < l[j]) := by
  have := List.all_eq_true.1 h j (List.mem_range.2 hj)
  rw [pgAt_unf hj] at this
  simp [numbered, within] at this
  exact this

def Page.bodyB (p : Page) : Str := if p.kind = 3 then pieceB p.next p.data else if p.kind = 4 then listB p.next p.freed else nodeB p.tree p.level p.top p.entries 12
def Page.headB (p : Page) : Str := 85 :: (num p.kind.toNat 1 ++ (num p.no.toNat 4 ++ num p.ver.toNat 6))
def Page.used (p : Page) : Str := p.headB ++ p.bodyB
def Page.full (p : Page) : Str := p.used ++ zeros (508 - p.used.length)
def Page.enc (p : Page) : Str := p.full ++ crcB p.full
theorem headB_len (p : Page) : p.headB.length = 12 := by simp [Page.headB, num_len]
/-- What is known of a well-formed page. -/
theorem check_iff {p : Page} : p.check = true ↔ (2 ≤ p.no ∧ p.no ≤ 4095) ∧ (0 ≤ p.ver ∧ p.ver ≤ 1099511627776) ∧
    (((p.kind = 1 ∨ p.kind = 2) ∧ (0 ≤ p.tree ∧ p.tree ≤ 255) ∧ (p.kind = 1 ↔ p.level = 0) ∧ fits p.entries p.level = true ∧ p.next = 0 ∧ p.data = [] ∧ p.freed = []) ∨
    (p.kind = 3 ∧ p.plain = true ∧ linked p.next = true ∧ (1 ≤ p.data.length ∧ p.data.length ≤ 490) ∧ p.freed = []) ∨
    (p.kind = 4 ∧ p.plain = true ∧ linked p.next = true ∧ p.data = [] ∧ freedOk p.freed = true ∧ listed p.freed ≤ 496)) := by
  unfold Page.check
  simp only [Bool.and_eq_true, numbered, within, decide_eq_true_eq]
  by_cases h1 : p.kind = 1 ∨ p.kind = 2
  · have h3 : p.kind ≠ 3 := by omega
    have h4 : p.kind ≠ 4 := by omega
    simp only [h1, h3, h4, if_true, false_and, or_false, true_and]
    have e : (((p.kind == 1) == (p.level == 0)) = true) ↔ (p.kind = 1 ↔ p.level = 0) := by
      have e1 : (p.kind == 1) = decide (p.kind = 1) := rfl
      have e2 : (p.level == 0) = decide (p.level = 0) := rfl
      rw [e1, e2]
      by_cases a : p.kind = 1 <;> by_cases b : p.level = 0 <;> simp [a, b]
    simp [e]
  · by_cases h3 : p.kind = 3
    · simp [h3, within]
      omega
    · by_cases h4 : p.kind = 4
      · simp [h4]
      · simp [h1, h3, h4]
theorem linked_nn {k : Int} (h : linked k = true) : 0 ≤ k ∧ k ≤ 4095 := by
  simp [linked, numbered, within] at h; omega
theorem bodyB_len {p : Page} (hc : p.check = true) : p.bodyB.length ≤ 496 := by
  obtain ⟨_, _, h⟩ := check_iff.1 hc
  unfold Page.bodyB
  rcases h with ⟨h1, _, _, h2, _⟩ | ⟨h1, _, _, h2, _⟩ | ⟨h1, _, _, _, _, h2⟩
  · rw [if_neg (by omega), if_neg (by omega)]; exact (nodeB_len h2).1
  · rw [if_pos h1]; simp [pieceB, num_len]; omega
  · rw [if_neg (by omega), if_pos h1]
    have := freedsB_len p.freed
    simp only [listB, List.length_append, num_len]; omega
theorem used_len {p : Page} (hc : p.check = true) : p.used.length ≤ 508 := by
  have := bodyB_len hc
  unfold Page.used
  rw [List.length_append, headB_len]; omega
theorem full_len {p : Page} (hc : p.check = true) : p.full.length = 508 := by
  have := used_len hc
  unfold Page.full
  rw [List.length_append, zeros_len]; omega
theorem enc_len {p : Page} (hc : p.check = true) : p.enc.length = 512 := by
  unfold Page.enc
  rw [List.length_append, full_len hc]; rfl
end Go.Proofs
/- Contracts: Encode (the walk). -/
set_option linter.unusedVariables false
set_option linter.unusedSimpArgs false
namespace Go.Proofs
open Go Go.Abs
section
variable {n : Nat} {h : AHeap}
theorem encode_bad (hn : 9 ≤ n) (p : Page) (ok : p.Ok) (hc : p.check = false) : C n 12 [p.av] h = some (.ret (.tup [.str [], i64 2]), h) := by
  obtain ⟨m, rfl⟩ : ∃ m, n = m + 1 := ⟨n - 1, by omega⟩
  have ec : ∀ h, C m 16 [p.av] h = some (.ret (i64 2), h) := fun h => by rw [check_eq (by omega) p ok, hc]; rfl
  refine fun_pure F12 rfl rfl rfl (by simp [pureBs, page_pure]) ?_
  conv => whnf
  refine ldI (by rfl) ?_
  conv => whnf
  refine clI (ec _) ?_
  conv => whnf
  exact retP rfl rfl
theorem encode_good (hn : 9 ≤ n) (p : Page) (ok : p.Ok) (hc : p.check = true) : C n 12 [p.av] h = some (.ret (.tup [.str p.enc, i64 0]), h) := by
  obtain ⟨m, rfl⟩ : ∃ m, n = m + 1 := ⟨n - 1, by omega⟩
  have ec : ∀ h, C m 16 [p.av] h = some (.ret (i64 0), h) := fun h => by rw [check_eq (by omega) p ok, hc]; rfl
  obtain ⟨⟨n1, n2⟩, ⟨v1, v2⟩, kinds⟩ := check_iff.1 hc
  have hk : 1 ≤ p.kind ∧ p.kind ≤ 4 := by rcases kinds with ⟨h, _⟩ | ⟨h, _⟩ | ⟨h, _⟩ <;> omega
  refine fun_pure F12 rfl rfl rfl (by simp [pureBs, page_pure]) ?_
  conv => whnf
  refine ldI (by rfl) ?_
  conv => whnf
  refine clI (ec _) ?_
  have e1 : (([] : AHeap) ++ [AB.cells 0 (some 25) p.cells 0] ++ [AB.cells 0 (some tWri) [.nilp, .lst 0 [] true] 0])[0]? = some (.cells 0 (some 25) p.cells 0) := rfl
  have w1 : BW (([] : AHeap) ++ [AB.cells 0 (some 25) p.cells 0] ++ [AB.cells 0 (some tWri) [.nilp, .lst 0 [] true] 0]) 1 [] [1] := ⟨_, _, _, rfl, .inl rfl, .inr rfl, .inl ⟨rfl, rfl, rfl⟩⟩
  have ne1 : 0 ∉ [1] := by simp
  conv => whnf
  refine byteC (n := m) (hp := ([] : AHeap) ++ [AB.cells 0 (some 25) p.cells 0] ++ [AB.cells 0 (some tWri) [.nilp, .lst 0 [] true] 0]) (by omega) w1 85 (by simp) fun h2 F2 w2 => ?_
  have e2 := (w2.keep e1 ne1).1
  have ne2 := (w2.keep e1 ne1).2
  conv => whnf
  refine ldI e2 ?_
  conv => whnf
  refine numC (n := m) (hp := h2) (by omega) w2.1 p.kind (by omega) 1 (by omega) (by simp) fun h3 F3 w3 => ?_
  have e3 := (w3.keep e2 ne2).1
  have ne3 := (w3.keep e2 ne2).2
  conv => whnf
  refine ldI e3 ?_
  conv => whnf
  refine numC (n := m) (hp := h3) (by omega) w3.1 p.no (by omega) 4 (by omega) (by simp [num_len]) fun h4 F4 w4 => ?_
  have e4 := (w4.keep e3 ne3).1
  have ne4 := (w4.keep e3 ne3).2
  conv => whnf
  refine ldI e4 ?_
  conv => whnf
  refine numC (n := m) (hp := h4) (by omega) w4.1 p.ver (by omega) 6 (by omega) (by simp [num_len]) fun h5 F5 w5 => ?_
  have e5 := (w5.keep e4 ne4).1
  have ne5 := (w5.keep e4 ne4).2
  have hb : BW h5 1 p.headB F5 := by
    have := w5.1
    simpa [Page.headB, List.append_assoc] using this
  conv => whnf
  refine ldI e5 ?_
  conv => whnf
  have fin : ∀ (s' : LS) (h6 : AHeap) (F6 : List Nat), Wrote h5 h6 1 F5 F6 p.used → LS.sub ⟨[(4, .ptr 1 0 0)], h6, []⟩ s' → OkR Tryz.prog (C m) cfg0.inl KK 45 6 (cutOf c12) s' (RetQ Tryz.prog [.tmp 2, .tmp 3] fun v' h' => frz h' 64 v' = some (.tup [.str p.enc, i64 0])) := by
    intro s' h6 F6 w6 hs'
    have hul := used_len hc
    have w6' := w6.1
    refine cutI (by decide) rfl hs' ?_
    conv => whnf
    refine clI (Len_eq (n := m) (by omega) w6') ?_
    conv => whnf
    refine zI (z := ((508 - p.used.length : Nat) : Int)) (by rw [wrap_i64 (by omega) (by omega)]; omega) ?_
    conv => whnf
    refine clI (repeat_eq (n := m) (by omega) (508 - p.used.length) (by omega)) ?_
    conv => whnf
    refine strC (n := m) (hp := h6) (by omega) w6' (zeros (508 - p.used.length)) (by rw [zeros_len]; omega) fun h7 F7 w7 => ?_
    have hfl := full_len hc
    obtain ⟨h8, e8, w8⟩ := String_eq (n := m) (by omega) w7.1 (by intro q; have := congrArg List.length q; rw [show p.used ++ zeros (508 - p.used.length) = p.full from rfl, hfl] at this; simp at this) (by rw [show p.used ++ zeros (508 - p.used.length) = p.full from rfl, hfl]; omega)
    conv => whnf
    refine clI e8 ?_
    conv => whnf
    refine clI (ended_eq (n := m) (by omega) p.full (by omega)) ?_
    conv => whnf
    exact retP rfl rfl
  have hbo := body_eq (n := m) (h := h5) (by omega) p
  rcases kinds with ⟨k1, _, _, hf, _⟩ | ⟨k1, _, hl, ⟨_, hd⟩, _⟩ | ⟨k1, _, hl, _, hfr, hli⟩
  · have kb : p.body = .ifc 178 (.agg (nodeXs p.tree p.level p.top p.entries p.esh.sz p.esh.c)) := by unfold Page.body; rw [if_neg (by omega), if_neg (by omega)]
    have kB : p.bodyB = nodeB p.tree p.level p.top p.entries 12 := by unfold Page.bodyB; rw [if_neg (by omega), if_neg (by omega)]
    obtain ⟨_, hv, h98⟩ := nodeB_len (tree := 0) (top := true) (base := 0) hf
    obtain ⟨h6, F6, e6, w6⟩ := node_eq (n := m) (by omega) hb p.tree p.level p.top (by rcases check_iff.1 hc with ⟨_, _, ⟨_, ⟨q, _⟩, _⟩ | ⟨q, _⟩ | ⟨q, _⟩⟩ <;> omega) p.entries p.esh.sz ok.esz p.esh.c hv (by omega) (by rw [headB_len]; omega)
    rw [kb] at hbo
    refine clI hbo ?_
    conv => whnf
    refine ivI (by kernel_rfl) (by kernel_rfl) e6 ?_
    rw [headB_len] at w6
    exact fin _ h6 F6 (by unfold Page.used; rw [kB]; exact w6) ⟨rfl, rfl, rfl⟩
  · have kb : p.body = .ifc 174 (.agg [i64 p.next, .str p.data]) := by unfold Page.body; rw [if_pos k1]
    have kB : p.bodyB = pieceB p.next p.data := by unfold Page.bodyB; rw [if_pos k1]
    obtain ⟨h6, F6, e6, w6⟩ := piece_eq (n := m) (by omega) hb p.next (linked_nn hl).1 p.data (by rw [headB_len]; omega)
    rw [kb] at hbo
    refine clI hbo ?_
    conv => whnf
    refine ivI (by kernel_rfl) (by kernel_rfl) e6 ?_
    exact fin _ h6 F6 (by unfold Page.used; rw [kB]; exact w6) ⟨rfl, rfl, rfl⟩
  · have kb : p.body = .ifc 176 (.agg [i64 p.next, .lst p.fsh.sz (p.freed.map Freed.av) p.fsh.c]) := by unfold Page.body; rw [if_neg (by omega), if_pos k1]
    have kB : p.bodyB = listB p.next p.freed := by unfold Page.bodyB; rw [if_neg (by omega), if_pos k1]
    have hfl := freedsB_len p.freed
    have hfn : (p.freed.length : Int) * 8 ≤ listed p.freed := by
      have : ∀ l : List Freed, (l.length : Int) * 8 ≤ listed l := by
        intro l
        induction l with
        | nil => simp [listed]
        | cons f r ih => simp only [listed, List.map_cons, List.sum_cons, List.length_cons] at ih ⊢; omega
      exact this _
    obtain ⟨h6, F6, e6, w6⟩ := list_eq (n := m) (by omega) hb p.next (linked_nn hl).1 p.freed p.fsh.sz ok.fsz p.fsh.c (fun f hf => by
      obtain ⟨j, hj, rfl⟩ := List.getElem_of_mem hf
      obtain ⟨q1, _, _, q2⟩ := freedOk_at hfr hj
      refine ⟨(ok.fr _ hf).1, q1.1, fun k hk => ?_⟩
      obtain ⟨i, hi, rfl⟩ := List.getElem_of_mem hk
      have := (pgsOk_at q2 hi).1
      omega) (by rw [headB_len]; omega)
    rw [kb] at hbo
    refine clI hbo ?_
    conv => whnf
    refine ivI (by kernel_rfl) (by kernel_rfl) e6 ?_
    exact fin _ h6 F6 (by unfold Page.used; rw [kB]; exact w6) ⟨rfl, rfl, rfl⟩
theorem encode_eq (hn : 9 ≤ n) (p : Page) (ok : p.Ok) : C n 12 [p.av] h = some (.ret (.tup [.str (if p.check then p.enc else []), i64 (if p.check then 0 else 2)]), h) := by
  cases hc : p.check with
  | true => exact encode_good hn p ok hc
  | false => exact encode_bad hn p ok hc
end
end Go.Proofs
/- Contracts: blocks that are none: Head and Decode. -/
set_option linter.unusedVariables false
set_option linter.unusedSimpArgs false
namespace Go.Proofs
open Go Go.Abs
def headOk (s : Str) : Bool := decide (s.length = 512) && (decide (s.getD 0 0 = 85) && (decide (s.take 508 ++ crcB (s.take 508) = s) && within ((s.getD 1 0).toNat : Int) 1 4))
def zeroP : List AV := [i64 0, i64 0, i64 0, i64 0, i64 0, .bool false, .lst 0 [] true, i64 0, .str [], .lst 0 [] true]
section
variable {n : Nat} {h : AHeap}
theorem u8_eq85 (c : UInt8) : ((c.toNat : Int) = 85) ↔ c = 85 := by
  constructor
  · intro h; exact UInt8.toNat_inj.1 (by simpa using (by omega : c.toNat = 85))
  · rintro rfl; rfl
theorem head_bad (hn : 4 ≤ n) (s : Str) (hb : headOk s = false) : C n 18 [.str s] h = some (.ret (.tup [i64 0, i64 0, i64 0, i64 8]), h) := by
  obtain ⟨m, rfl⟩ : ∃ m, n = m + 1 := ⟨n - 1, by omega⟩
  refine fun_pure F18 rfl rfl rfl rfl ?_
  have fin : ∀ {L : LT} {hp : AHeap}, lk L 2 = some (i64 0) → lk L 3 = some (i64 0) → lk L 4 = some (i64 0) → lk L 5 = some (i64 8) → RetQ Tryz.prog [.tmp 2, .tmp 3, .tmp 4, .tmp 5] (fun v' h' => frz h' 64 v' = some (.tup [i64 0, i64 0, i64 0, i64 8])) .ret ⟨L, hp, []⟩ := fun {L hp} h2 h3 h4 h5 => ⟨rfl, [i64 0, i64 0, i64 0, i64 8], by simp [resAL, h2, h3, h4, h5], rfl⟩
  conv => whnf
  refine brq (fun a => ?_) (fun a => ?_)
  · conv => whnf
    exact fin rfl rfl rfl rfl
  have hl : s.length = 512 := by omega
  have e0 : s.getD 0 0 = s[0]'(by omega) := by simp [hl]
  have e1 : s.getD 1 0 = s[1]'(by omega) := by simp [hl]
  conv => whnf
  refine strI (b := s[0]'(by omega)) (by omega) (List.getElem?_eq_getElem (by omega)) ?_
  conv => whnf
  refine brq (fun a0 => ?_) (fun a0 => ?_)
  · conv => whnf
    exact fin rfl rfl rfl rfl
  rw [u8_eq85] at a0
  conv => whnf
  refine ss_hi (c := 508) (by omega) ?_
  conv => whnf
  refine clI (ended_eq (n := m) (by omega) (s.take 508) (by rw [List.length_take]; omega)) ?_
  conv => whnf
  refine br (fun a2 => ?_) (fun a2 => ?_)
  · conv => whnf
    exact fin rfl rfl rfl rfl
  have a2' : s.take 508 ++ crcB (s.take 508) = s := by simpa using a2
  conv => whnf
  refine strI (b := s[1]'(by omega)) (by omega) (List.getElem?_eq_getElem (by omega)) ?_
  conv => whnf
  refine zI (z := ((s[1]'(by omega)).toNat : Int)) (by have := (s[1]'(by omega)).toNat_lt; exact wrap_i64 (by omega) (by omega)) ?_
  conv => whnf
  refine clI (within_eq (by omega) _ _ _) ?_
  conv => whnf
  refine brn (fun a3 => ?_) (fun a3 => ?_)
  · conv => whnf
    exact fin rfl rfl rfl rfl
  · exfalso
    unfold headOk at hb
    rw [e0, e1, a0, a3] at hb
    simp [hl, a2'] at hb
set_option maxRecDepth 10000 in
theorem decode_bad (hn : 5 ≤ n) (s : Str) (hb : headOk s = false) : C n 14 [.str s] h = some (.ret (.tup [.agg zeroP, i64 8]), h) := by
  obtain ⟨m, rfl⟩ : ∃ m, n = m + 1 := ⟨n - 1, by omega⟩
  refine fun_pure F14 rfl rfl rfl rfl ?_
  conv => whnf
  refine clI (head_bad (n := m) (by omega) s hb) ?_
  conv => whnf
  refine stI (xs := zeroP) (by rfl) (by rfl) (by rfl) (by rfl) (by rfl) ?_
  refine ⟨rfl, [.agg zeroP, i64 8], ?_, rfl⟩
  have el : loadA Tryz.prog [.cells 0 (some 25) zeroP 0] 25 (.ptr 0 0 0) = some (.agg zeroP) := load_agg (N := 10) (by kernel_rfl) rfl rfl
  show (match loadA Tryz.prog [.cells 0 (some 25) zeroP 0] 25 (.ptr 0 0 0) with | some v => some [v, i64 8] | none => none) = _
  rw [el]
end
end Go.Proofs
/- Contracts: the deferred function that recovers. -/
set_option linter.unusedVariables false
set_option linter.unusedSimpArgs false
namespace Go.Proofs
open Go Go.Abs
def cRec : RC := match c118 with
  | .seq _ r => r
  | _ => .skip
theorem D118 : DefI 118 2 17 5 [] (some 5) [⟨some 2, none, .op (.mv (.t 5))⟩] cRec :=
  ⟨⟨Tryz.f118, Tryz.func118, by kernel_rfl, by kernel_rfl, by kernel_rfl⟩, by kernel_rfl, by decide, by kernel_rfl, by kernel_rfl, by kernel_rfl⟩
section
variable {m : Nat} {h : AHeap} {P I : Nat}
theorem rec_ret : ∃ h', evalDef Tryz.prog (C m) (drawA Tryz.prog cfg0.inl (C m)) KK 118 [.ptr P 0 0, .ptr I 0 0] .ret h = some (.ret, h') ∧ h' = h := by
  refine def_wp D118 rfl ?_
  conv => whnf
  exact ⟨rfl, ⟨[], rfl⟩, rfl⟩
theorem rec_bad {cs : List AV} {b : Bool} (hP : h[P]? = some (.cells 0 (some 25) cs 0)) (hc : cs.length = 10) (hI : h[I]? = some (.cells 0 (some 4) [.bool b] 0)) :
    ∃ h', evalDef Tryz.prog (C m) (drawA Tryz.prog cfg0.inl (C m)) KK 118 [.ptr P 0 0, .ptr I 0 0] (.pan badV false) h = some (.pan badV true, h') ∧ h'[P]? = some (.cells 0 (some 25) zeroP 0) ∧ h'[I]? = some (.cells 0 (some 4) [.bool false] 0) := by
  refine def_wp D118 rfl ?_
  conv => whnf
  refine stI (get_last _ _) (by rfl) (by rfl) (by rfl) (by rfl) ?_
  have lP := lt_of_get hP
  have lI := lt_of_get hI
  have nPI : P ≠ I := by
    rintro rfl
    rw [hP] at hI
    have := (AB.cells.inj (Option.some.inj hI)).2.1
    exact absurd (Option.some.inj this) (by decide)
  have e1 : ((h ++ [AB.cells 0 (some 190) [] 0]).set h.length (AB.cells 0 (some 190) (putAt [] 0 []) 0))[P]? = some (.cells 0 (some 25) cs 0) := by
    rw [List.getElem?_set_ne (by omega), List.getElem?_append_left lP]; exact hP
  have e2 : ((h ++ [AB.cells 0 (some 190) [] 0]).set h.length (AB.cells 0 (some 190) (putAt [] 0 []) 0))[I]? = some (.cells 0 (some 4) [.bool b] 0) := by
    rw [List.getElem?_set_ne (by omega), List.getElem?_append_left lI]; exact hI
  have hput : putAt cs 0 zeroP = zeroP := by
    unfold putAt
    rw [List.take_zero, List.nil_append, List.drop_of_length_le (by rw [hc]; decide), List.append_nil]
  conv => whnf
  refine stI (xs := zeroP) e1 (by rfl) (by rfl) (by rw [hc]; decide) (by rfl) ?_
  conv => whnf
  refine stI (cs := [.bool b]) (by rw [List.getElem?_set_ne nPI]; exact e2) (by rfl) (by rfl) (by rfl) (by rfl) ?_
  refine ⟨rfl, ⟨[], rfl⟩, ?_, ?_⟩
  · rw [List.getElem?_set_ne (Ne.symm nPI), List.getElem?_set_self (lt_of_get e1), hput]
  · rw [List.getElem?_set_self (by rw [List.length_set]; exact lt_of_get e2)]
    rfl
end
end Go.Proofs
/- Contracts: blocks whose bodies are read. -/
set_option linter.unusedVariables false
set_option linter.unusedSimpArgs false
namespace Go.Proofs
open Go Go.Abs
inductive Bdy where
  | nd (x : NodeP)
  | pc (x : Nat × Str)
  | ls (x : Nat × List (Nat × List Nat))
def pbody (k : Nat) (s : Str) : Option Bdy := if k = 1 ∨ k = 2 then (pnode s).map fun x => .nd x.1 else if k = 3 then (ppiece s).map fun x => .pc x.1 else (plist s).map fun x => .ls x.1
structure Blk where
  kind : Nat
  no : Nat
  ver : Nat
  bd : Bdy
def pread (s : Str) : Option Blk := (pnum 1 ((s.take 508).drop 1)).bind fun k => (pnum 4 k.2).bind fun no => (pnum 6 no.2).bind fun v => (pbody k.1 v.2).map fun b => ⟨k.1, no.1, v.1, b⟩
/-- What a page has that was read. -/
def BdIs (q : Page) : Bdy → Prop
  | .nd x => q.tree = x.tree ∧ q.level = x.lv ∧ q.top = x.top ∧ q.entries = x.es ∧ q.next = 0 ∧ q.data = [] ∧ q.freed = []
  | .pc x => q.tree = 0 ∧ q.level = 0 ∧ q.top = false ∧ q.entries = [] ∧ q.next = x.1 ∧ q.data = x.2 ∧ q.freed = []
  | .ls x => q.tree = 0 ∧ q.level = 0 ∧ q.top = false ∧ q.entries = [] ∧ q.next = x.1 ∧ q.data = [] ∧ FsAre q.freed x.2
structure BlkIs (q : Page) (x : Blk) : Prop where
  kind : q.kind = x.kind
  no : q.no = x.no
  ver : q.ver = x.ver
  bd : BdIs q x.bd
  esz : q.entries ≠ [] → q.esh.sz = 22
  fsz : q.freed ≠ [] → q.fsh.sz = 2
def ReadS (s : Str) (r : CRes) : Prop := match pread s with
  | none => r = .ret (.tup [.agg zeroP, .bool false])
  | some x => ∃ q : Page, r = .ret (.tup [q.av, .bool true]) ∧ BlkIs q x
theorem gs {h : AHeap} {x y : Nat} {v w : AB} (e : h[x]? = some v) (n : y ≠ x) : (h.set y w)[x]? = some v := by rw [List.getElem?_set_ne n]; exact e
theorem ge {h : AHeap} {x : Nat} {v w : AB} (e : h[x]? = some v) : (h.set x w)[x]? = some w := List.getElem?_set_self (lt_of_get e)
theorem cells_of {xs : List AV} (h : xs.all AV.scal = true) : AV.cells? (.agg xs) = some xs := by
  show (if xs.all AV.scal = true then some xs else none) = _
  rw [if_pos h]
theorem pg_cells {a b c d e g : Int} {f : Bool} {t : Str} {L L' : AV} (h1 : L.scal = true) (h2 : L'.scal = true) : AV.cells? (.agg [i64 a, i64 b, i64 c, i64 d, i64 e, .bool f, L, i64 g, .str t, L']) = some [i64 a, i64 b, i64 c, i64 d, i64 e, .bool f, L, i64 g, .str t, L'] := cells_of (by simp only [List.all_cons, List.all_nil, h1, h2, Bool.and_true]; rfl)
theorem GBuf.one {el : TypeId} {sz : Nat} {h : AHeap} {X : Nat} {L : AV} {rows : List (List AV)} {G : List Nat} (g : GBuf el sz h X L rows G) : L.cells? = some [L] ∧ L.scal = true := by
  rcases g.2 with ⟨rfl, _⟩ | ⟨eb, ver, frz, rfl, _⟩ <;> exact ⟨rfl, rfl⟩
theorem allM_page {h : AHeap} {a b c d e g : Int} {f : Bool} {t : Str} {L M L' M' : AV} (h1 : Abs.frz h 62 L = some M) (h2 : Abs.frz h 62 L' = some M') :
    allM (Abs.frz h 62) [i64 a, i64 b, i64 c, i64 d, i64 e, .bool f, L, i64 g, .str t, L'] = some [i64 a, i64 b, i64 c, i64 d, i64 e, .bool f, M, i64 g, .str t, M'] := by
  have fi : ∀ k : Int, Abs.frz h 62 (i64 k) = some (i64 k) := fun _ => rfl
  have fb : Abs.frz h 62 (.bool f) = some (.bool f) := rfl
  have fs : Abs.frz h 62 (.str t) = some (.str t) := rfl
  simp only [allM, fi, fb, fs, h1, h2]
theorem frz_nil {h : AHeap} : Abs.frz h 62 (.lst 0 [] true) = some (.lst 0 [] true) := rfl
theorem LV.stays' {h h' : AHeap} {Y b : Nat} {LL : AV} {ts : List FT} {G I : List Nat} (v : LV h Y LL ts G I) (hG : ∀ z ∈ G, b ≤ z) (hI : ∀ z ∈ I, b ≤ z) (e : ∀ x, b ≤ x → x < h.length → h'[x]? = h[x]?) : LV h' Y LL ts G I := by
  refine ⟨⟨v.buf.1, ?_⟩, fun t ht => ?_⟩
  · rcases v.buf.2 with r | ⟨eb, ver, frz, h1, h2, h3, h4, rfl⟩
    · exact .inl r
    · exact .inr ⟨eb, ver, frz, h1, by rw [e eb (hG eb (by simp)) (lt_of_get h2)]; exact h2, h3, h4, rfl⟩
  · rcases v.inr t ht with r | ⟨eb, ver, frz, h1, h2, h3⟩
    · exact .inl r
    · exact .inr ⟨eb, ver, frz, h1, by rw [e eb (hI eb h3) (lt_of_get h2)]; exact h2, h3⟩
structure RS (h : AHeap) (cs : List AV) (t : Str) : Prop where
  p : h[0]? = some (.cells 0 (some 25) cs 0)
  i : h[1]? = some (.cells 0 (some 4) [.bool false] 0)
  r : RDs h 2 t
theorem RS.next {h h' : AHeap} {cs : List AV} {t t' : Str} (a : RS h cs t) (k : Keep h h' [2]) (r : RDs h' 2 t') : RS h' cs t' := ⟨k.get a.p (by simp), k.get a.i (by simp), r⟩
theorem RS.set {h : AHeap} {cs cs' : List AV} {t : Str} (a : RS h cs t) : RS (h.set 0 (.cells 0 (some 25) cs' 0)) cs' t := ⟨ge a.p, gs a.i (by decide), a.r.stays (Keep.set (F := [0]) (by simp)) (by simp)⟩
section
variable {m : Nat} {s : Str}
abbrev ReadQ (m : Nat) (s : Str) : Ex → LS → Prop := EndQ Tryz.prog (C m) cfg0.inl [.cell 2 25, .cell 3 4] (fun r h => ∃ r', OutR r' r h ∧ ReadS s r')
abbrev dfR : List DI := [.fn 118 [.ptr 0 0 0, .ptr 1 0 0]]
theorem fine_rec : fnOk Tryz.prog 118 = true := D118.fine
theorem page_ld {h : AHeap} {b : Nat} {cs : List AV} (hl : cs.length = 10) (hb : h[b]? = some (.cells 0 (some 25) cs 0)) : loadA Tryz.prog h 25 (.ptr b 0 0) = some (.agg cs) := load_agg (N := 10) (by kernel_rfl) hl hb
theorem bool_ld {h : AHeap} {b : Nat} {v : AV} (hb : h[b]? = some (.cells 0 (some 4) [v] 0)) : loadA Tryz.prog h 4 (.ptr b 0 0) = some v := load_one (N := 1) (by kernel_rfl) hb
theorem read_fails {L : LT} {h : AHeap} {cs : List AV} (hn : pread s = none) (h2 : lk L 2 = some (.ptr 0 0 0)) (h3 : lk L 3 = some (.ptr 1 0 0)) (hP : h[0]? = some (.cells 0 (some 25) cs 0)) (hc : cs.length = 10) (hI : h[1]? = some (.cells 0 (some 4) [.bool false] 0)) : ReadQ m s (.pan badV) ⟨L, h, dfR⟩ := by
  obtain ⟨h', e, g1, g2⟩ := rec_bad (m := m) hP hc hI
  refine ⟨fine_rec, _, h', e, [.agg zeroP, .bool false], ?_, _, ⟨_, rfl, rfl⟩, ?_⟩
  · simp only [resAL, h2, h3, page_ld rfl g1, bool_ld g2]
  · unfold ReadS
    rw [hn]
    rfl
theorem read_good {L : LT} {h : AHeap} {cs : List AV} (h2 : lk L 2 = some (.ptr 0 0 0)) (h3 : lk L 3 = some (.ptr 1 0 0)) (hP : h[0]? = some (.cells 0 (some 25) cs 0)) (hc : cs.length = 10) (hI : h[1]? = some (.cells 0 (some 4) [.bool true] 0)) {q : Page} (hf : allM (frz h 62) cs = some q.cells) {x : Blk} (hx : pread s = some x) (hq : BlkIs q x) : ReadQ m s .ret ⟨L, h, dfR⟩ := by
  obtain ⟨h', e, rfl⟩ := rec_ret (m := m) (h := h) (P := 0) (I := 1)
  refine ⟨fine_rec, _, h', e, [.agg cs, .bool true], ?_, .ret (.tup [q.av, .bool true]), ⟨_, ?_, rfl⟩, ?_⟩
  · simp only [resAL, h2, h3, page_ld hc hP, bool_ld hI]
  · show frz h' 64 (.tup [.agg cs, .bool true]) = some (.tup [q.av, .bool true])
    have e1 : frz h' 63 (.agg cs) = some q.av := by
      unfold frz
      simp only [hf]
      rfl
    unfold frz allM allM
    simp only [e1]
    rfl
  · unfold ReadS
    rw [hx]
    exact ⟨q, rfl, hq⟩
abbrev pgCells (k no v : Nat) : List AV := [i64 k, i64 no, i64 v, i64 0, i64 0, .bool false, .lst 0 [] true, i64 0, .str [], .lst 0 [] true]
set_option maxRecDepth 10000 in
theorem rest_node (hn : 6 ≤ m) {h3 : AHeap} {k no v : Nat} {t : Str} (a : RS h3 (pgCells k no v) t) (hk : k = 1 ∨ k = 2) (hx : pread s = (pbody k t).map fun b => ⟨k, no, v, b⟩) :
    OkR Tryz.prog (C m) cfg0.inl KK 61 6 (cutOf c67) ⟨[(2, .ptr 0 0 0), (3, .ptr 1 0 0), (4, .ptr 2 0 0)], h3, dfR⟩ (ReadQ m s) := by
  refine cutS (by decide) rfl ?_
  conv => whnf
  refine ldI a.p ?_
  obtain ⟨r4, h4, eB, sB⟩ := node_rd (n := m) (by omega) a.r (k : Int) (by omega)
  have l3 := a.r.lt
  conv => whnf
  cases hp : pnode t with
  | none =>
    rw [hp] at sB
    obtain ⟨rfl, k4⟩ := sB
    refine clP eB ?_
    exact read_fails (by rw [hx]; simp only [pbody, if_pos hk, hp, Option.map_none]) rfl rfl (k4.get a.p (by simp)) rfl (k4.get a.i (by simp))
  | some x =>
    obtain ⟨x, u⟩ := x
    rw [hp] at sB
    obtain ⟨X, L, G, rfl, r4, g4, k4, lX, gG⟩ := sB
    have g1 := g4.one
    have lG := g4.lt lX
    have e0 := k4.get a.p (by simp)
    have eI := k4.get a.i (by simp)
    have l0 := lt_of_get e0
    have l1 := lt_of_get eI
    refine clI eB ?_
    conv => whnf
    refine stI (xs := [i64 x.tree, i64 x.lv, .bool x.top, L]) (get_last _ _) (cells_of (by simp only [List.all_cons, List.all_nil, g1.2, Bool.and_true]; rfl)) (by rfl) (by rfl) (by rfl) ?_
    have es : (h4 ++ [AB.cells 0 (some 178) [i64 0, i64 0, .bool false, .lst 0 [] true] 0]).set h4.length (AB.cells 0 (some 178) (putAt [i64 0, i64 0, .bool false, .lst 0 [] true] 0 [i64 x.tree, i64 x.lv, .bool x.top, L]) 0) = h4 ++ [AB.cells 0 (some 178) [i64 x.tree, i64 x.lv, .bool x.top, L] 0] := by simp [putAt]
    have fin : ∀ hf : AHeap, (∀ y ∈ G, hf[y]? = h4[y]?) → hf[0]? = some (.cells 0 (some 25) [i64 k, i64 no, i64 v, i64 x.tree, i64 x.lv, .bool x.top, L, i64 0, .str [], .lst 0 [] true] 0) → hf[1]? = some (.cells 0 (some 4) [.bool true] 0) → ∀ Lt : LT, lk Lt 2 = some (.ptr 0 0 0) → lk Lt 3 = some (.ptr 1 0 0) → ReadQ m s .ret ⟨Lt, hf, dfR⟩ := fun hf hG hP hI Lt h2 h3 => by
      obtain ⟨sh, f1, f2⟩ := frz_ents (g4.stays fun y hy _ => hG y hy) 60
      exact read_good (x := ⟨k, no, v, .nd x⟩) (q := ⟨k, no, v, x.tree, x.lv, x.top, sh, x.es, 0, [], ⟨0, true⟩, []⟩) h2 h3 hP rfl hI (allM_page f1 frz_nil) (by rw [hx]; simp only [pbody, if_pos hk, hp, Option.map_some]) ⟨rfl, rfl, rfl, ⟨rfl, rfl, rfl, rfl, rfl, rfl, rfl⟩, f2, fun h => (h rfl).elim⟩
    have n0 : (h4.length : Nat) ≠ 0 := by omega
    have n1 : (h4.length : Nat) ≠ 1 := by omega
    have eX := get_set_last h4 (AB.cells 0 (some 178) [i64 0, i64 0, .bool false, .lst 0 [] true] 0) (AB.cells 0 (some 178) (putAt [i64 0, i64 0, .bool false, .lst 0 [] true] 0 [i64 x.tree, i64 x.lv, .bool x.top, L]) 0)
    have eP := gs (w := AB.cells 0 (some 178) (putAt [i64 0, i64 0, .bool false, .lst 0 [] true] 0 [i64 x.tree, i64 x.lv, .bool x.top, L]) 0) (get_app (x := AB.cells 0 (some 178) [i64 0, i64 0, .bool false, .lst 0 [] true] 0) e0) n0
    have eJ := gs (w := AB.cells 0 (some 178) (putAt [i64 0, i64 0, .bool false, .lst 0 [] true] 0 [i64 x.tree, i64 x.lv, .bool x.top, L]) 0) (get_app (x := AB.cells 0 (some 178) [i64 0, i64 0, .bool false, .lst 0 [] true] 0) eI) n1
    conv => whnf
    refine ldI eX ?_
    conv => whnf
    refine ldI eX ?_
    conv => whnf
    refine ldI eX ?_
    conv => whnf
    refine ldI eX ?_
    conv => whnf
    refine stI eP (by rfl) (by rfl) (by rfl) (by rfl) ?_
    conv => whnf
    refine ⟨?_, ?_⟩
    · repeat' (conv => whnf); first | exact ldI (gs eX n0.symm) rfl | refine ⟨?_, ?_⟩
    conv => whnf
    refine stI (ge eP) (by rfl) (by rfl) (by rfl) (by rfl) ?_
    conv => whnf
    refine ⟨?_, ?_⟩
    · repeat' (conv => whnf); first | exact ldI (gs (gs eX n0.symm) n0.symm) rfl | refine ⟨?_, ?_⟩
    conv => whnf
    refine stI (ge (ge eP)) (by rfl) (by rfl) (by rfl) (by rfl) ?_
    conv => whnf
    refine ⟨?_, ?_⟩
    · repeat' (conv => whnf); first | exact ldI (gs (gs (gs eX n0.symm) n0.symm) n0.symm) rfl | refine ⟨?_, ?_⟩
    conv => whnf
    refine stI (ge (ge (ge eP))) g1.1 (by rfl) (by rfl) (by rfl) ?_
    conv => whnf
    refine ldI (ge (ge (ge (ge eP)))) ?_
    conv => whnf
    refine stI (xs := [i64 k, i64 no, i64 v, i64 x.tree, i64 x.lv, .bool x.top, L, i64 0, .str [], .lst 0 [] true]) (ge (ge (ge (ge eP)))) (pg_cells g1.2 rfl) (by rfl) (by rfl) (by rfl) ?_
    conv => whnf
    refine stI (gs (gs (gs (gs (gs eJ (by decide)) (by decide)) (by decide)) (by decide)) (by decide)) (by rfl) (by rfl) (by rfl) (by rfl) ?_
    refine fin _ (fun y hy => ?_) (gs (ge (ge (ge (ge (ge eP))))) (by decide)) (ge (gs (gs (gs (gs (gs eJ (by decide)) (by decide)) (by decide)) (by decide)) (by decide))) _ rfl rfl
    have y1 := gG y hy
    have y2 := lG y hy
    rw [List.getElem?_set_ne (by omega), List.getElem?_set_ne (by omega), List.getElem?_set_ne (by omega), List.getElem?_set_ne (by omega), List.getElem?_set_ne (by omega), List.getElem?_set_ne (by omega), List.getElem?_set_ne (by omega), List.getElem?_append_left y2]
set_option maxRecDepth 10000 in
theorem rest_piece (hn : 6 ≤ m) {h3 : AHeap} {k no v : Nat} {t : Str} (a : RS h3 (pgCells k no v) t) (hk : k = 3) (hx : pread s = (pbody k t).map fun b => ⟨k, no, v, b⟩) :
    OkR Tryz.prog (C m) cfg0.inl KK 61 6 (cutOf c67) ⟨[(2, .ptr 0 0 0), (3, .ptr 1 0 0), (4, .ptr 2 0 0)], h3, dfR⟩ (ReadQ m s) := by
  refine cutS (by decide) rfl ?_
  conv => whnf
  refine ldI a.p ?_
  obtain ⟨r4, h4, eB, sB⟩ := (by rw [hk]; exact piece_rd (n := m) (by omega) a.r : ∃ r h, C m 119 [.ptr 2 0 0, i64 (k : Nat)] h3 = some (r, h) ∧ StepR (ppiece t) (PieceR h3 2) (fun h => Keep h3 h [2]) r h)
  have l3 := a.r.lt
  conv => whnf
  cases hp : ppiece t with
  | none =>
    rw [hp] at sB
    obtain ⟨rfl, k4⟩ := sB
    refine clP eB ?_
    exact read_fails (by rw [hx]; simp only [pbody, if_neg (show ¬(k = 1 ∨ k = 2) by omega), if_pos hk, hp, Option.map_none]) rfl rfl (k4.get a.p (by simp)) rfl (k4.get a.i (by simp))
  | some x =>
    obtain ⟨x, u⟩ := x
    rw [hp] at sB
    obtain ⟨rfl, r4, k4⟩ := sB
    have l4 := k4.1
    have e0 := k4.get a.p (by simp)
    have eI := k4.get a.i (by simp)
    have l0 := lt_of_get e0
    have l1 := lt_of_get eI
    refine clI eB ?_
    conv => whnf
    refine stI (xs := [i64 x.1, .str x.2]) (get_last _ _) (cells_of (by simp only [List.all_cons, List.all_nil,  Bool.and_true]; rfl)) (by rfl) (by rfl) (by rfl) ?_
    have fin : ∀ hf : AHeap, hf[0]? = some (.cells 0 (some 25) [i64 k, i64 no, i64 v, i64 0, i64 0, .bool false, .lst 0 [] true, i64 x.1, .str x.2, .lst 0 [] true] 0) → hf[1]? = some (.cells 0 (some 4) [.bool true] 0) → ∀ Lt : LT, lk Lt 2 = some (.ptr 0 0 0) → lk Lt 3 = some (.ptr 1 0 0) → ReadQ m s .ret ⟨Lt, hf, dfR⟩ := fun hf hP hI Lt h2 h3 => by
      exact read_good (x := ⟨k, no, v, .pc x⟩) (q := ⟨k, no, v, 0, 0, false, ⟨0, true⟩, [], x.1, x.2, ⟨0, true⟩, []⟩) h2 h3 hP rfl hI (allM_page frz_nil frz_nil) (by rw [hx]; simp only [pbody, if_neg (show ¬(k = 1 ∨ k = 2) by omega), if_pos hk, hp, Option.map_some]) ⟨rfl, rfl, rfl, ⟨rfl, rfl, rfl, rfl, rfl, rfl, rfl⟩, fun h => (h rfl).elim, fun h => (h rfl).elim⟩
    have n0 : (h4.length : Nat) ≠ 0 := by omega
    have n1 : (h4.length : Nat) ≠ 1 := by omega
    have eX := get_set_last h4 (AB.cells 0 (some 174) [i64 0, .str []] 0) (AB.cells 0 (some 174) (putAt [i64 0, .str []] 0 [i64 x.1, .str x.2]) 0)
    have eP := gs (w := AB.cells 0 (some 174) (putAt [i64 0, .str []] 0 [i64 x.1, .str x.2]) 0) (get_app (x := AB.cells 0 (some 174) [i64 0, .str []] 0) e0) n0
    have eJ := gs (w := AB.cells 0 (some 174) (putAt [i64 0, .str []] 0 [i64 x.1, .str x.2]) 0) (get_app (x := AB.cells 0 (some 174) [i64 0, .str []] 0) eI) n1
    conv => whnf
    refine ldI eX ?_
    conv => whnf
    refine ldI eX ?_
    conv => whnf
    refine stI eP (by rfl) (by rfl) (by rfl) (by rfl) ?_
    conv => whnf
    refine ⟨?_, ?_⟩
    · repeat' (conv => whnf); first | exact ldI (gs eX n0.symm) rfl | refine ⟨?_, ?_⟩
    conv => whnf
    refine stI (ge eP) (by rfl) (by rfl) (by rfl) (by rfl) ?_
    conv => whnf
    refine ldI (ge (ge eP)) ?_
    conv => whnf
    refine stI (xs := [i64 k, i64 no, i64 v, i64 0, i64 0, .bool false, .lst 0 [] true, i64 x.1, .str x.2, .lst 0 [] true]) (ge (ge eP)) (pg_cells rfl rfl) (by rfl) (by rfl) (by rfl) ?_
    conv => whnf
    refine stI (gs (gs (gs eJ (by decide)) (by decide)) (by decide)) (by rfl) (by rfl) (by rfl) (by rfl) ?_
    exact fin _ (gs (ge (ge (ge eP))) (by decide)) (ge (gs (gs (gs eJ (by decide)) (by decide)) (by decide))) _ rfl rfl
set_option maxRecDepth 10000 in
theorem rest_list (hn : 6 ≤ m) {h3 : AHeap} {k no v : Nat} {t : Str} (a : RS h3 (pgCells k no v) t) (hk : ¬(k = 1 ∨ k = 2)) (hk3 : k ≠ 3) (hx : pread s = (pbody k t).map fun b => ⟨k, no, v, b⟩) :
    OkR Tryz.prog (C m) cfg0.inl KK 61 6 (cutOf c67) ⟨[(2, .ptr 0 0 0), (3, .ptr 1 0 0), (4, .ptr 2 0 0)], h3, dfR⟩ (ReadQ m s) := by
  refine cutS (by decide) rfl ?_
  conv => whnf
  refine ldI a.p ?_
  obtain ⟨r4, h4, eB, sB⟩ := list_rd (n := m) (by omega) a.r (k : Int) (by omega) (by omega) (by omega)
  have l3 := a.r.lt
  conv => whnf
  cases hp : plist t with
  | none =>
    rw [hp] at sB
    obtain ⟨rfl, k4⟩ := sB
    refine clP eB ?_
    exact read_fails (by rw [hx]; simp only [pbody, if_neg hk, if_neg hk3, hp, Option.map_none]) rfl rfl (k4.get a.p (by simp)) rfl (k4.get a.i (by simp))
  | some x =>
    obtain ⟨x, u⟩ := x
    rw [hp] at sB
    obtain ⟨Y, LL, ts, G, I, rfl, hts, r4, lv, k4, gG, gI⟩ := sB
    have l4 := k4.1
    have g1 := lv.buf.one
    have e0 := k4.get a.p (by simp)
    have eI := k4.get a.i (by simp)
    have l0 := lt_of_get e0
    have l1 := lt_of_get eI
    refine clI eB ?_
    conv => whnf
    refine stI (xs := [i64 x.1, LL]) (get_last _ _) (cells_of (by simp only [List.all_cons, List.all_nil, g1.2, Bool.and_true]; rfl)) (by rfl) (by rfl) (by rfl) ?_
    have fin : ∀ hf : AHeap, (∀ y, h3.length ≤ y → y < h4.length → hf[y]? = h4[y]?) → hf[0]? = some (.cells 0 (some 25) [i64 k, i64 no, i64 v, i64 0, i64 0, .bool false, .lst 0 [] true, i64 x.1, .str [], LL] 0) → hf[1]? = some (.cells 0 (some 4) [.bool true] 0) → ∀ Lt : LT, lk Lt 2 = some (.ptr 0 0 0) → lk Lt 3 = some (.ptr 1 0 0) → ReadQ m s .ret ⟨Lt, hf, dfR⟩ := fun hf hE hP hI Lt h2 h3 => by
      obtain ⟨sh, fs, f1, f2, f3⟩ := frz_list (lv.stays' gG gI hE) 59
      rw [← hts] at f3
      exact read_good (x := ⟨k, no, v, .ls x⟩) (q := ⟨k, no, v, 0, 0, false, ⟨0, true⟩, [], x.1, [], sh, fs⟩) h2 h3 hP rfl hI (allM_page frz_nil f1) (by rw [hx]; simp only [pbody, if_neg hk, if_neg hk3, hp, Option.map_some]) ⟨rfl, rfl, rfl, ⟨rfl, rfl, rfl, rfl, rfl, rfl, f3⟩, fun h => (h rfl).elim, f2⟩
    have n0 : (h4.length : Nat) ≠ 0 := by omega
    have n1 : (h4.length : Nat) ≠ 1 := by omega
    have eX := get_set_last h4 (AB.cells 0 (some 176) [i64 0, .lst 0 [] true] 0) (AB.cells 0 (some 176) (putAt [i64 0, .lst 0 [] true] 0 [i64 x.1, LL]) 0)
    have eP := gs (w := AB.cells 0 (some 176) (putAt [i64 0, .lst 0 [] true] 0 [i64 x.1, LL]) 0) (get_app (x := AB.cells 0 (some 176) [i64 0, .lst 0 [] true] 0) e0) n0
    have eJ := gs (w := AB.cells 0 (some 176) (putAt [i64 0, .lst 0 [] true] 0 [i64 x.1, LL]) 0) (get_app (x := AB.cells 0 (some 176) [i64 0, .lst 0 [] true] 0) eI) n1
    conv => whnf
    refine ldI eX ?_
    conv => whnf
    refine ldI eX ?_
    conv => whnf
    refine stI eP (by rfl) (by rfl) (by rfl) (by rfl) ?_
    conv => whnf
    refine ⟨?_, ?_⟩
    · repeat' (conv => whnf); first | exact ldI (gs eX n0.symm) rfl | refine ⟨?_, ?_⟩
    conv => whnf
    refine stI (ge eP) g1.1 (by rfl) (by rfl) (by rfl) ?_
    conv => whnf
    refine ldI (ge (ge eP)) ?_
    conv => whnf
    refine stI (xs := [i64 k, i64 no, i64 v, i64 0, i64 0, .bool false, .lst 0 [] true, i64 x.1, .str [], LL]) (ge (ge eP)) (pg_cells rfl g1.2) (by rfl) (by rfl) (by rfl) ?_
    conv => whnf
    refine stI (gs (gs (gs eJ (by decide)) (by decide)) (by decide)) (by rfl) (by rfl) (by rfl) (by rfl) ?_
    refine fin _ (fun y y1 y2 => ?_) (gs (ge (ge (ge eP))) (by decide)) (ge (gs (gs (gs eJ (by decide)) (by decide)) (by decide))) _ rfl rfl
    rw [List.getElem?_set_ne (by omega), List.getElem?_set_ne (by omega), List.getElem?_set_ne (by omega), List.getElem?_set_ne (by omega), List.getElem?_set_ne (by omega), List.getElem?_append_left y2]
theorem okR_sub {P : Program} {call : CallF} {inl : FuncId → Bool} {k n d : Nat} {rc : RC} {Q : Ex → LS → Prop} {s t : LS} (hs : LS.sub t s) (hw : OkR P call inl k n d rc t Q) : OkR P call inl k n d rc s Q := by
  intro c hc tm H
  obtain ⟨e1, e2, e3⟩ := hs
  have := hw c hc tm (HasL.sub e1 H)
  rw [← e2, ← e3] at this
  exact this
set_option maxRecDepth 10000 in
theorem read_eq (hn : 6 ≤ m) (hl : s.length = 512) : ∃ r, (∀ h, C (m + 1) 67 [.str s] h = some (r, h)) ∧ ReadS s r := by
  refine fun_pureX F67 rfl rfl rfl rfl ?_
  conv => whnf
  refine ⟨rfl, .fn 118 [.ptr 0 0 0, .ptr 1 0 0], rfl, ?_⟩
  conv => whnf
  refine ss_hi (s := s) (c := 508) (by omega) ?_
  have a0 : RS [AB.cells 0 (some 25) zeroP 0, AB.cells 0 (some 4) [.bool false] 0, AB.cells 0 (some tRdr) [.str (s.take 508), i64 ((1 : Nat) : Int)] 0] zeroP ((s.take 508).drop 1) := ⟨rfl, rfl, s.take 508, 1, rfl, by rw [List.length_take]; omega, by rw [List.length_take]; omega, rfl⟩
  conv => whnf
  refine rnumC (n := m) (hp := [AB.cells 0 (some 25) zeroP 0, AB.cells 0 (some 4) [.bool false] 0, AB.cells 0 (some tRdr) [.str (s.take 508), i64 ((1 : Nat) : Int)] 0]) (by omega) a0.r 1 (by omega) (fun h1 qh1 rh1 kh1 => ?_) (fun q => ?_)
  rotate_left
  · exact read_fails (by simp only [pread, pnum, if_neg (Nat.not_le.2 q), Option.bind_none]) rfl rfl a0.p rfl a0.i
  have b1 := a0.next kh1 rh1
  have a1 := b1.set (cs' := putAt zeroP (0 + 0) [i64 (unnum (((s.take 508).drop 1).take 1))])
  conv => whnf
  refine stI b1.p (by rfl) (by rfl) (by rfl) (by rfl) ?_
  conv => whnf
  refine rnumC (n := m) (hp := _) (by omega) a1.r 4 (by omega) (fun h2 qh2 rh2 kh2 => ?_) (fun q => ?_)
  rotate_left
  · exact read_fails (by simp only [pread, pnum, if_pos qh1, Option.bind_some, if_neg (Nat.not_le.2 q), Option.bind_none]) rfl rfl a1.p rfl a1.i
  have b2 := a1.next kh2 rh2
  have a2 := b2.set (cs' := putAt (putAt zeroP (0 + 0) [i64 (unnum (((s.take 508).drop 1).take 1))]) (0 + 1) [i64 (unnum ((((s.take 508).drop 1).drop 1).take 4))])
  conv => whnf
  refine stI b2.p (by rfl) (by rfl) (by rfl) (by rfl) ?_
  conv => whnf
  refine rnumC (n := m) (hp := _) (by omega) a2.r 6 (by omega) (fun h3 qh3 rh3 kh3 => ?_) (fun q => ?_)
  rotate_left
  · exact read_fails (by simp only [pread, pnum, if_pos qh1, if_pos qh2, Option.bind_some, if_neg (Nat.not_le.2 q), Option.bind_none]) rfl rfl a2.p rfl a2.i
  have b3 := a2.next kh3 rh3
  have a3 := b3.set (cs' := pgCells (unnum (((s.take 508).drop 1).take 1)) (unnum ((((s.take 508).drop 1).drop 1).take 4)) (unnum (((((s.take 508).drop 1).drop 1).drop 4).take 6)))
  have hx : pread s = (pbody (unnum (((s.take 508).drop 1).take 1)) (((((s.take 508).drop 1).drop 1).drop 4).drop 6)).map fun b => ⟨unnum (((s.take 508).drop 1).take 1), unnum ((((s.take 508).drop 1).drop 1).take 4), unnum (((((s.take 508).drop 1).drop 1).drop 4).take 6), b⟩ := by
    simp only [pread, pnum, if_pos qh1, if_pos qh2, if_pos qh3, Option.bind_some]
  have key : OkR Tryz.prog (C m) cfg0.inl KK 61 6 (cutOf c67) ⟨[(2, .ptr 0 0 0), (3, .ptr 1 0 0), (4, .ptr 2 0 0)], h3.set 0 (.cells 0 (some 25) (pgCells (unnum (((s.take 508).drop 1).take 1)) (unnum ((((s.take 508).drop 1).drop 1).take 4)) (unnum (((((s.take 508).drop 1).drop 1).drop 4).take 6))) 0), dfR⟩ (ReadQ m s) := by
    by_cases hk : unnum (((s.take 508).drop 1).take 1) = 1 ∨ unnum (((s.take 508).drop 1).take 1) = 2
    · exact rest_node hn a3 hk hx
    · by_cases hk3 : unnum (((s.take 508).drop 1).take 1) = 3
      · exact rest_piece hn a3 hk3 hx
      · exact rest_list hn a3 hk hk3 hx
  conv => whnf
  refine stI b3.p (by rfl) (by rfl) (by rfl) (by rfl) ?_
  refine okR_sub ?_ key
  exact ⟨⟨rfl, rfl, rfl⟩, rfl, rfl⟩
end
end Go.Proofs
/- Contracts: heads, blocks compared. -/
set_option linter.unusedVariables false
set_option linter.unusedSimpArgs false
namespace Go.Proofs
open Go Go.Abs
def Z512 : List AV := match c68 with
  | .seq (.ops (⟨_, _, .op (.alloc _ z)⟩ :: _)) _ => z
  | _ => []
theorem Z_len : Z512.length = 512 := by kernel_rfl
theorem part_all {cs : List AV} {n : Nat} (h : cs.length = n) : partR true n cs 0 = some (.agg cs) := by
  unfold partR
  rw [if_pos rfl, if_pos (by omega), List.drop_zero, List.take_of_length_le (by omega)]
section
variable {n : Nat} {h : AHeap}
set_option maxRecDepth 20000 in
theorem blockOf_eq (hn : 1 ≤ n) (s : Str) (hl : s.length = 512) : C n 68 [.str s] h = some (.ret (.agg (s.map u8)), h) := by
  obtain ⟨m, rfl⟩ : ∃ m, n = m + 1 := ⟨n - 1, by omega⟩
  refine fun_pure F68 rfl rfl rfl rfl ?_
  have d1 : ([AB.cells 0 (some 136) Z512 0, AB.cells 0 (some 136) Z512 0] : AHeap)[1]? = some (.cells 0 (some 136) Z512 0) := rfl
  conv => whnf
  refine ⟨_, _, _, d1, ⟨by rw [Z_len]; decide, by decide⟩, ?_⟩
  refine slI (v := .sl 1 1 0 0 512) rfl ?_
  conv => whnf
  have ec : cpyR [AB.cells 0 (some 136) Z512 0, AB.cells 0 (some 136) Z512 0] 1 (.sl 1 1 0 0 512) (.str s) = some (.int .i64 512, some [AB.cells 0 (some 136) Z512 0, AB.cells 0 (some 136) (s.map u8) 0]) := by
    unfold cpyR
    simp only [slLen, lenA, hl, Nat.min_self]
    have hf : firstA [AB.cells 0 (some 136) Z512 0, AB.cells 0 (some 136) Z512 0] 1 512 (.str s) = some (s.map u8) := by
      have := first_str [AB.cells 0 (some 136) Z512 0, AB.cells 0 (some 136) Z512 0] s
      rwa [hl] at this
    rw [hf]
    simp only
    rw [if_neg (by decide)]
    rw [d1]
    simp only
    rw [if_pos ⟨trivial, trivial, Nat.le_refl _, by rw [List.length_map, hl, Z_len]; decide, u8_scal _⟩]
    have : putAt Z512 0 (s.map u8) = s.map u8 := by
      unfold putAt
      rw [List.take_zero, List.nil_append, List.drop_of_length_le (by rw [Z_len, List.length_map, hl]; decide), List.append_nil]
    rw [this]; rfl
  refine ⟨_, ec, ?_⟩
  conv => whnf
  have e2 : ([AB.cells 0 (some 136) Z512 0, AB.cells 0 (some 136) (s.map u8) 0] : AHeap)[1]? = some (.cells 0 (some 136) (s.map u8) 0) := rfl
  have e1 : ([AB.cells 0 (some 136) Z512 0, AB.cells 0 (some 136) (s.map u8) 0] : AHeap)[0]? = some (.cells 0 (some 136) Z512 0) := rfl
  have hm : (s.map u8).length = 512 := by rw [List.length_map]; exact hl
  have hput : putAt Z512 0 (s.map u8) = s.map u8 := by
    unfold putAt
    rw [List.take_zero, List.nil_append, List.drop_of_length_le (by rw [Z_len, hm]; decide), List.append_nil]
  refine ldI e2 ?_
  refine wpartI (part_all hm) ?_
  conv => whnf
  refine stI (xs := s.map u8) e1 (cells_of (u8_scal _)) hm (by rw [hm, Z_len]; rfl) (by rfl) ?_
  refine ⟨rfl, [.agg (s.map u8)], ?_, ?_⟩
  · have := load_agg (h := ([AB.cells 0 (some 136) Z512 0, AB.cells 0 (some 136) (s.map u8) 0] : AHeap).set 0 (.cells 0 (some 136) (putAt Z512 0 (s.map u8)) 0)) (t := 136) (N := 512) (b := 0) (ver := 0) (el := some 136) (cs := s.map u8) (f := 0) (by kernel_rfl) hm (by rw [hput]; rfl)
    show (match loadA Tryz.prog (([AB.cells 0 (some 136) Z512 0, AB.cells 0 (some 136) (s.map u8) 0] : AHeap).set 0 (.cells 0 (some 136) (putAt Z512 0 (s.map u8)) 0)) 136 (.ptr 0 0 0) with | some v => some [v] | none => none) = _
    rw [this]
  · exact frzOk_agg (n := 63) (fun x hx => by obtain ⟨c, _, rfl⟩ := List.mem_map.1 hx; exact frzOk_int) _
theorem eq_block (a b : Str) (ha : a.length = 512) (hb : b.length = 512) : eqA Tryz.prog 20 136 (.agg (a.map u8)) (.agg (b.map u8)) = some (decide (a = b)) := by
  have e0 : Tryz.prog.underlying 136 = some (.array 512 5) := by kernel_rfl
  obtain ⟨d, e1, e2⟩ : ∃ d, ti Tryz.prog 5 = some d ∧ (isAggD d.desc = false ∧ d.size = 1) := by
    have : (ti Tryz.prog 5).map (fun d => (isAggD d.desc, d.size)) = some (false, 1) := by kernel_rfl
    obtain ⟨d, h1, h2⟩ := Option.map_eq_some_iff.1 this
    simp only [Prod.mk.injEq] at h2
    exact ⟨d, h1, h2⟩
  unfold eqA
  simp only [e0, e1]
  unfold itemsF
  rw [if_pos ⟨e2.1, e2.2, by rw [List.length_map, ha], by rw [List.length_map, hb]⟩]
  simp only
  have e2 : ∀ (x y : UInt8), eqA Tryz.prog 19 5 (.int .u8 x.toNat) (.int .u8 y.toNat) = some (((x.toNat : Nat) : Int) == y.toNat) := fun x y => by kernel_rfl
  exact allEq_u8 (fun x y => by rw [e2, eq_u8]) a b (by rw [ha, hb])
/-- The numbers of a head. -/
def headOf (s : Str) : AV := .tup [i64 (unnum ((s.drop 1).take 1)), i64 (unnum (((s.drop 1).drop 1).take 4)), i64 (unnum ((((s.drop 1).drop 1).drop 4).take 6)), i64 0]
theorem head_good (hn : 4 ≤ n) (s : Str) (hb : headOk s = true) : C n 18 [.str s] h = some (.ret (headOf s), h) := by
  obtain ⟨m, rfl⟩ : ∃ m, n = m + 1 := ⟨n - 1, by omega⟩
  unfold headOk at hb
  simp only [Bool.and_eq_true, decide_eq_true_eq] at hb
  obtain ⟨hl, b0, b1, b2⟩ := hb
  refine fun_pure F18 rfl rfl rfl rfl ?_
  have e0 : s.getD 0 0 = s[0]'(by omega) := by simp [hl]
  have e1 : s.getD 1 0 = s[1]'(by omega) := by simp [hl]
  rw [e0] at b0
  rw [e1] at b2
  have r0 : RDs [AB.cells 0 (some tRdr) [.str s, i64 ((1 : Nat) : Int)] 0] 0 (s.drop 1) := ⟨s, 1, rfl, by omega, by omega, rfl⟩
  conv => whnf
  refine brq (fun a => absurd a (by omega)) (fun _ => ?_)
  conv => whnf
  refine strI (b := s[0]'(by omega)) (by omega) (List.getElem?_eq_getElem (by omega)) ?_
  conv => whnf
  refine brq (fun a => absurd ((u8_eq85 _).2 b0) a) (fun _ => ?_)
  conv => whnf
  refine ss_hi (c := 508) (by omega) ?_
  conv => whnf
  refine clI (ended_eq (n := m) (by omega) (s.take 508) (by rw [List.length_take]; omega)) ?_
  conv => whnf
  refine br (fun a => absurd b1 (by simpa using a)) (fun _ => ?_)
  conv => whnf
  refine strI (b := s[1]'(by omega)) (by omega) (List.getElem?_eq_getElem (by omega)) ?_
  conv => whnf
  refine zI (z := ((s[1]'(by omega)).toNat : Int)) (by have := (s[1]'(by omega)).toNat_lt; exact wrap_i64 (by omega) (by omega)) ?_
  conv => whnf
  refine clI (within_eq (by omega) _ _ _) ?_
  conv => whnf
  refine brn (fun a => by rw [b2] at a; cases a) (fun _ => ?_)
  conv => whnf
  refine rnumC (n := m) (hp := [AB.cells 0 (some tRdr) [.str s, i64 ((1 : Nat) : Int)] 0]) (by omega) r0 1 (by omega) (fun h1 q1 r1 k1 => ?_) (fun q => ?_)
  rotate_left
  · exfalso; rw [List.length_drop] at q; omega
  conv => whnf
  refine rnumC (n := m) (hp := h1) (by omega) r1 4 (by omega) (fun h2 q2 r2 k2 => ?_) (fun q => ?_)
  rotate_left
  · exfalso; simp only [List.length_drop] at q; omega
  conv => whnf
  refine rnumC (n := m) (hp := h2) (by omega) r2 6 (by omega) (fun h3 q3 r3 k3 => ?_) (fun q => ?_)
  rotate_left
  · exfalso; simp only [List.length_drop] at q; omega
  conv => whnf
  exact ⟨rfl, _, rfl, rfl⟩
end
end Go.Proofs
/- What is read is short. -/
set_option linter.unusedVariables false
set_option linter.unusedSimpArgs false
namespace Go.Proofs
open Go Go.Abs
theorem ptext_len {k : Nat} {s a t : Str} (h : ptext k s = some (a, t)) : a.length ≤ s.length ∧ t.length ≤ s.length := by
  unfold ptext at h
  split at h
  · cases h; simp only [List.length_take, List.length_drop]; omega
  · cases h
theorem pnum_len {w v : Nat} {s t : Str} (h : pnum w s = some (v, t)) : t.length ≤ s.length ∧ v < 256 ^ w := by
  unfold pnum at h
  split at h
  · rename_i hl
    cases h
    exact ⟨by rw [List.length_drop]; omega, unnum_lt w _ (by rw [List.length_take]; omega)⟩
  · cases h
theorem psum_len {d : Dg} {s t : Str} (h : psum s = some (d, t)) : t.length ≤ s.length := by
  unfold psum at h
  split at h
  · cases h; rw [List.length_drop]; omega
  · cases h
theorem bind_some' {α β : Type} {o : Option α} {f : α → Option β} {b : β} (h : o.bind f = some b) : ∃ a, o = some a ∧ f a = some b := Option.bind_eq_some_iff.1 h
theorem map_some' {α β : Type} {o : Option α} {f : α → β} {b : β} (h : o.map f = some b) : ∃ a, o = some a ∧ f a = b := Option.map_eq_some_iff.1 h
theorem pcont2_len {key : Str} {long : Nat} {s t : Str} {e : Entry} (h : pcont2 key long s = some (e, t)) : e.key = key ∧ e.val.length ≤ s.length ∧ t.length ≤ s.length := by
  unfold pcont2 at h
  split at h
  · obtain ⟨⟨a, s1⟩, h1, h⟩ := bind_some' h
    obtain ⟨⟨b, s2⟩, h2, h⟩ := bind_some' h
    obtain ⟨⟨d, s3⟩, h3, h⟩ := map_some' h
    cases h
    have := pnum_len h1; have := pnum_len h2; have := psum_len h3
    exact ⟨rfl, Nat.zero_le _, by simp only at *; omega⟩
  · split at h
    · obtain ⟨⟨a, s1⟩, h1, h⟩ := bind_some' h
      obtain ⟨⟨b, s2⟩, h2, h⟩ := bind_some' h
      obtain ⟨⟨d, s3⟩, h3, h⟩ := map_some' h
      cases h
      have := pnum_len h1; have := pnum_len h2; have := psum_len h3
      exact ⟨rfl, Nat.zero_le _, by simp only at *; omega⟩
    · obtain ⟨⟨a, s1⟩, h1, h⟩ := map_some' h
      cases h
      have := ptext_len h1
      exact ⟨rfl, this.1, this.2⟩
theorem pcont_len {key : Str} {lv : Int} {s t : Str} {e : Entry} (h : pcont key lv s = some (e, t)) : e.key = key ∧ e.val.length ≤ s.length ∧ t.length ≤ s.length := by
  unfold pcont at h
  split at h
  · obtain ⟨⟨a, s1⟩, h1, h⟩ := bind_some' h
    have := pnum_len h1
    have := pcont2_len h
    simp only at *
    exact ⟨this.1, by omega, by omega⟩
  · exact pcont2_len h
theorem pents_len {pre : Str} {lv : Int} : ∀ {k i : Nat} {s t : Str} {es : List Entry}, pents pre lv k i s = some (es, t) → es.length = k ∧ ∀ e ∈ es, e.key.length ≤ pre.length + s.length ∧ e.val.length ≤ s.length
  | 0, i, s, t, es, h => by simp [pents] at h; obtain ⟨rfl, rfl⟩ := h; simp
  | k + 1, i, s, t, es, h => by
    simp only [pents] at h
    obtain ⟨⟨e, s1⟩, h1, h⟩ := bind_some' h
    obtain ⟨⟨es', s2⟩, h2, h⟩ := map_some' h
    cases h
    have ih := pents_len h2
    unfold pent at h1
    obtain ⟨⟨a, u1⟩, g1, h1⟩ := bind_some' h1
    obtain ⟨⟨b, u2⟩, g2, h1⟩ := bind_some' h1
    have l1 := pnum_len g1
    have l2 := ptext_len g2
    have l3 := pcont_len h1
    have lk : (preK pre lv i).length ≤ pre.length := by unfold preK; split <;> simp
    simp only at *
    refine ⟨by simp [ih.1], fun x hx => ?_⟩
    rcases List.mem_cons.1 hx with rfl | hx
    · rw [l3.1, List.length_append]
      omega
    · have := ih.2 x hx
      omega
theorem pnode_len {s t : Str} {x : NodeP} (h : pnode s = some (x, t)) : x.es.length < 65536 ∧ ∀ e ∈ x.es, e.key.length ≤ 2 * s.length ∧ e.val.length ≤ s.length := by
  unfold pnode at h
  obtain ⟨⟨a1, s1⟩, h1, h⟩ := bind_some' h
  obtain ⟨⟨a2, s2⟩, h2, h⟩ := bind_some' h
  obtain ⟨⟨a3, s3⟩, h3, h⟩ := bind_some' h
  obtain ⟨⟨a4, s4⟩, h4, h⟩ := bind_some' h
  obtain ⟨⟨a5, s5⟩, h5, h⟩ := bind_some' h
  obtain ⟨⟨a6, s6⟩, h6, h⟩ := bind_some' h
  obtain ⟨⟨a7, s7⟩, h7, h⟩ := bind_some' h
  obtain ⟨⟨es, s8⟩, h8, h⟩ := map_some' h
  cases h
  have l1 := pnum_len h1
  have l2 := pnum_len h2
  have l3 := pnum_len h3
  have l4 := pnum_len h4
  have l5 := pnum_len h5
  have l6 := ptext_len h6
  have l7 := ptext_len h7
  have l8 := pents_len h8
  simp only at *
  refine ⟨by rw [l8.1]; exact l5.2, fun e he => ?_⟩
  have := l8.2 e he
  omega
theorem ppages_len : ∀ {k : Nat} {s t : Str} {ps : List Nat}, ppages k s = some (ps, t) → ps.length = k
  | 0, s, t, es, h => by simp [ppages] at h; obtain ⟨rfl, rfl⟩ := h; rfl
  | k + 1, s, t, es, h => by
    simp only [ppages] at h
    obtain ⟨⟨e, s1⟩, h1, h⟩ := bind_some' h
    obtain ⟨⟨es', s2⟩, h2, h⟩ := map_some' h
    cases h
    simp [ppages_len h2]
theorem pfreeds_len : ∀ {k : Nat} {s t : Str} {l : List (Nat × List Nat)}, pfreeds k s = some (l, t) → l.length = k ∧ ∀ x ∈ l, x.2.length < 65536
  | 0, s, t, es, h => by simp [pfreeds] at h; obtain ⟨rfl, rfl⟩ := h; simp
  | k + 1, s, t, es, h => by
    simp only [pfreeds] at h
    obtain ⟨⟨a1, s1⟩, h1, h⟩ := bind_some' h
    obtain ⟨⟨a2, s2⟩, h2, h⟩ := bind_some' h
    obtain ⟨⟨a3, s3⟩, h3, h⟩ := bind_some' h
    obtain ⟨⟨es', s4⟩, h4, h⟩ := map_some' h
    cases h
    have l2 := pnum_len h2
    have l3 := ppages_len h3
    have ih := pfreeds_len h4
    simp only at *
    refine ⟨by simp [ih.1], fun x hx => ?_⟩
    rcases List.mem_cons.1 hx with rfl | hx
    · simp only; rw [l3]; exact l2.2
    · exact ih.2 x hx
theorem FsAre.ok : ∀ {fs : List Freed} {l : List (Nat × List Nat)}, FsAre fs l → (∀ x ∈ l, x.2.length < 65536) → ∀ f ∈ fs, f.Ok ∧ f.pages.length < 9223372036854775808
  | _, _, .nil, _, f, hf => by cases hf
  | _, _, .cons (t := t) h r, hl, f, hf => by
    rcases List.mem_cons.1 hf with rfl | hf
    · have := hl t (List.mem_cons_self ..)
      refine ⟨h.2.2, ?_⟩
      rw [h.2.1, List.length_map]; omega
    · exact r.ok (fun x hx => hl x (List.mem_cons_of_mem _ hx)) f hf
theorem BlkIs.ok {q : Page} {x : Blk} {s : Str} (hs : s.length = 512) (hx : pread s = some x) (hq : BlkIs q x) : q.Ok := by
  unfold pread at hx
  obtain ⟨⟨a1, s1⟩, h1, h⟩ := bind_some' hx
  obtain ⟨⟨a2, s2⟩, h2, h⟩ := bind_some' h
  obtain ⟨⟨a3, s3⟩, h3, h⟩ := bind_some' h
  obtain ⟨bd, h4, h⟩ := map_some' h
  cases h
  have l0 : ((s.take 508).drop 1).length ≤ 508 := by rw [List.length_drop, List.length_take]; omega
  have l1 := pnum_len h1
  have l2 := pnum_len h2
  have l3 := pnum_len h3
  obtain ⟨_, _, _, hb, esz, fsz⟩ := hq
  simp only at *
  unfold pbody at h4
  split at h4
  · obtain ⟨⟨y, t⟩, g, h⟩ := map_some' h4
    cases h
    have := pnode_len g
    obtain ⟨b1, b2, b3, b4, b5, b6, b7⟩ := hb
    refine ⟨esz, fsz, by rw [b4]; exact Nat.lt_trans this.1 (by decide), by rw [b7]; decide, by rw [b6]; decide, fun e he => ?_, fun f hf => ?_⟩
    · rw [b4] at he
      have := this.2 e he
      exact ⟨by omega, by omega⟩
    · rw [b7] at hf; cases hf
  · split at h4
    · obtain ⟨⟨y, t⟩, g, h⟩ := map_some' h4
      cases h
      obtain ⟨b1, b2, b3, b4, b5, b6, b7⟩ := hb
      unfold ppiece at g
      obtain ⟨⟨c1, t1⟩, g1, g⟩ := bind_some' g
      obtain ⟨⟨c2, t2⟩, g2, g⟩ := bind_some' g
      obtain ⟨⟨c3, t3⟩, g3, g⟩ := map_some' g
      cases g
      have m1 := pnum_len g1
      have m2 := pnum_len g2
      have m3 := ptext_len g3
      simp only at *
      refine ⟨esz, fsz, by rw [b4]; decide, by rw [b7]; decide, by rw [b6]; omega, fun e he => ?_, fun f hf => ?_⟩
      · rw [b4] at he; cases he
      · rw [b7] at hf; cases hf
    · obtain ⟨⟨y, t⟩, g, h⟩ := map_some' h4
      cases h
      obtain ⟨b1, b2, b3, b4, b5, b6, b7⟩ := hb
      unfold plist at g
      obtain ⟨⟨c1, t1⟩, g1, g⟩ := bind_some' g
      obtain ⟨⟨c2, t2⟩, g2, g⟩ := bind_some' g
      obtain ⟨⟨c3, t3⟩, g3, g⟩ := map_some' g
      cases g
      have m2 := pnum_len g2
      have m3 := pfreeds_len g3
      have hlen := b7.length_eq
      simp only at *
      refine ⟨esz, fsz, by rw [b4]; decide, by rw [hlen, m3.1]; exact Nat.lt_trans m2.2 (by decide), by rw [b6]; decide, fun e he => ?_, b7.ok m3.2⟩
      rw [b4] at he; cases he
theorem entry_frz' {n : Nat} (e : Entry) : FrzOk (n + 2) e.av := frzOk_agg (cells_frz e)
theorem freed_frz' {n : Nat} (f : Freed) : FrzOk (n + 3) f.av := frzOk_agg fun x hx => by
  simp only [Freed.cells, List.mem_cons, List.not_mem_nil, or_false] at hx
  rcases hx with rfl | rfl
  · exact frzOk_int
  · exact frzOk_lst fun y hy => by obtain ⟨k, _, rfl⟩ := List.mem_map.1 hy; exact frzOk_int
theorem page_frz' {n : Nat} (q : Page) : FrzOk (n + 5) q.av := frzOk_agg fun x hx => by
  simp only [Page.cells, List.mem_cons, List.not_mem_nil, or_false] at hx
  rcases hx with rfl | rfl | rfl | rfl | rfl | rfl | rfl | rfl | rfl | rfl
  · exact frzOk_int
  · exact frzOk_int
  · exact frzOk_int
  · exact frzOk_int
  · exact frzOk_int
  · exact frzOk_bool
  · exact frzOk_lst fun y hy => by obtain ⟨k, _, rfl⟩ := List.mem_map.1 hy; exact entry_frz' k
  · exact frzOk_int
  · exact frzOk_str
  · exact frzOk_lst fun y hy => by obtain ⟨k, _, rfl⟩ := List.mem_map.1 hy; exact freed_frz' k
end Go.Proofs
/- What was written is read again: numbers, texts, entries. -/
set_option linter.unusedVariables false
set_option linter.unusedSimpArgs false
namespace Go.Proofs
open Go Go.Abs
theorem unnum_from : ∀ (s : Str) (a : Nat), s.foldl (fun n b => n * 256 + b.toNat) a = a * 256 ^ s.length + unnum s
  | [], a => by simp [unnum]
  | c :: s, a => by
    have h1 := unnum_from s (a * 256 + c.toNat)
    have h2 := unnum_from s (0 * 256 + c.toNat)
    show s.foldl (fun n b => n * 256 + b.toNat) (a * 256 + c.toNat) = _
    have h3 : unnum (c :: s) = s.foldl (fun n b => n * 256 + b.toNat) (0 * 256 + c.toNat) := rfl
    rw [h1, h3, h2, List.length_cons, Nat.pow_succ]
    rw [Nat.add_mul, Nat.zero_mul, Nat.zero_add, Nat.mul_assoc, Nat.mul_comm 256, Nat.add_assoc]
theorem unnum_cons (c : UInt8) (s : Str) : unnum (c :: s) = c.toNat * 256 ^ s.length + unnum s := by
  have h : unnum (c :: s) = s.foldl (fun n b => n * 256 + b.toNat) (0 * 256 + c.toNat) := rfl
  rw [h, unnum_from, Nat.zero_mul, Nat.zero_add]
theorem unnum_num (k : Nat) : ∀ w, unnum (num k w) = k % 256 ^ w
  | 0 => by simp [num, unnum, Nat.mod_one]
  | w + 1 => by
    show unnum (UInt8.ofNat (k / 256 ^ w) :: num k w) = _
    rw [unnum_cons, unnum_num k w, num_len, UInt8.toNat_ofNat']
    show k / 256 ^ w % 256 * 256 ^ w + k % 256 ^ w = k % (256 ^ w * 256)
    rw [Nat.mod_mul, Nat.mul_comm, Nat.add_comm]
theorem pnum_num {k w : Nat} (h : k < 256 ^ w) (t : Str) : pnum w (num k w ++ t) = some (k, t) := by
  unfold pnum
  rw [if_pos (by rw [List.length_append, num_len]; omega), List.take_left' (num_len k w), List.drop_left' (num_len k w), unnum_num, Nat.mod_eq_of_lt h]
theorem ptext_app {k : Nat} (s t : Str) (h : s.length = k) : ptext k (s ++ t) = some (s, t) := by
  unfold ptext
  rw [if_pos (by rw [List.length_append]; omega), List.take_left' h, List.drop_left' h]
theorem psum_app (d : Dg) (t : Str) : psum (d.bytes ++ t) = some (d, t) := by
  unfold psum
  rw [if_pos (by rw [List.length_append, d.bytes_len]; omega), List.take_left' d.bytes_len, List.drop_left' d.bytes_len]
  rfl
theorem form_cases {e : Entry} (h : formOf e ≠ 0) : e.key.length ≤ 48 ∧ ((e.over = 0 ∧ e.len = 0 ∧ e.child = 0 ∧ e.count = 0 ∧ e.sum = Dg.zero ∧ e.val.length ≤ 64) ∨ (e.val = [] ∧ e.child = 0 ∧ e.count = 0 ∧ (2 ≤ e.over ∧ e.over ≤ 4095) ∧ (65 ≤ e.len ∧ e.len ≤ 4000)) ∨
    (e.val = [] ∧ e.over = 0 ∧ e.len = 0 ∧ (2 ≤ e.child ∧ e.child ≤ 4095) ∧ (1 ≤ e.count ∧ e.count ≤ 2147483647))) := by
  unfold formOf at h
  split at h
  · exact (h rfl).elim
  · rename_i hk
    have hk' : (e.key.length : Int) ≤ 48 := by
      have : within e.key.length 1 48 = true := by simpa using hk
      exact (within_iff.1 this).2
    refine ⟨by omega, ?_⟩
    split at h
    · rename_i hs
      simp [isShort] at hs
      left
      obtain ⟨⟨⟨⟨⟨a, b⟩, c⟩, d⟩, f⟩, g⟩ := hs
      exact ⟨a, b, c, d, f, g⟩
    · split at h
      · exact (h rfl).elim
      · rename_i hv
        have hv' : e.val = [] := by simpa using hv
        split at h
        · rename_i hl
          simp [isLong, numbered, within] at hl
          right; left
          obtain ⟨⟨⟨a, b⟩, c, d⟩, f, g⟩ := hl
          exact ⟨hv', a, b, ⟨c, d⟩, f, g⟩
        · split at h
          · rename_i hn
            simp [isNest, numbered, within] at hn
            right; right
            obtain ⟨⟨⟨a, b⟩, c, d⟩, f, g⟩ := hn
            exact ⟨hv', a, b, ⟨c, d⟩, f, g⟩
          · exact (h rfl).elim
theorem branch_cases {e : Entry} (h : branches e = true) : e.key.length ≤ 48 ∧ e.val = [] ∧ e.over = 0 ∧ e.len = 0 ∧ (2 ≤ e.child ∧ e.child ≤ 4095) ∧ (1 ≤ e.count ∧ e.count ≤ 2147483647) := by
  simp [branches, numbered, within] at h
  obtain ⟨⟨⟨⟨⟨a, b⟩, c⟩, d⟩, f, g⟩, i, j⟩ := h
  exact ⟨a, b, c, d, ⟨f, g⟩, i, j⟩
theorem pcont_rest {e : Entry} {lv : Int} (h0 : 0 ≤ lv) (hf : if lv = 0 then formOf e ≠ 0 else branches e = true) (t : Str) : pcont e.key lv (restB e lv ++ t) = some (e, t) := by
  obtain ⟨key, val, over, len, child, count, sum⟩ := e
  by_cases hl : lv = 0
  · rw [if_pos hl] at hf
    subst hl
    have hc := (form_cases hf).2
    simp only at hc
    unfold pcont restB
    rw [if_pos rfl, if_neg (by decide)]
    simp only
    rcases hc with ⟨rfl, rfl, rfl, rfl, rfl, hv⟩ | ⟨rfl, rfl, rfl, ho, hn⟩ | ⟨rfl, rfl, rfl, ho, hn⟩
    · rw [if_neg (by decide), if_neg (by decide), List.append_assoc, pnum_num (Nat.lt_of_le_of_lt hv (by decide))]
      simp only [Option.bind_some]
      unfold pcont2
      rw [if_neg (by omega), if_neg (by omega), ptext_app _ _ rfl]
      rfl
    · rw [if_pos (by omega)]
      simp only [List.append_assoc]
      rw [pnum_num (by decide)]
      simp only [Option.bind_some]
      unfold pcont2
      have e1 : over.toNat < 256 ^ 4 := Nat.lt_of_lt_of_le (show over.toNat < 4096 by omega) (by decide)
      have e2 : len.toNat < 256 ^ 2 := Nat.lt_of_lt_of_le (show len.toNat < 4096 by omega) (by decide)
      rw [if_pos rfl, pnum_num e1]
      simp only [Option.bind_some]
      rw [pnum_num e2]
      simp only [Option.bind_some]
      rw [psum_app]
      simp only [Option.map_some]
      rw [show ((over.toNat : Nat) : Int) = over by omega, show ((len.toNat : Nat) : Int) = len by omega]
    · rw [if_neg (by decide), if_pos (by omega)]
      simp only [List.append_assoc]
      rw [pnum_num (by decide)]
      simp only [Option.bind_some]
      unfold pcont2
      have e1 : child.toNat < 256 ^ 4 := Nat.lt_of_lt_of_le (show child.toNat < 4096 by omega) (by decide)
      have e2 : count.toNat < 256 ^ 4 := Nat.lt_of_lt_of_le (show count.toNat < 2147483648 by omega) (by decide)
      rw [if_neg (by decide), if_pos rfl, pnum_num e1]
      simp only [Option.bind_some]
      rw [pnum_num e2]
      simp only [Option.bind_some]
      rw [psum_app]
      simp only [Option.map_some]
      rw [show ((child.toNat : Nat) : Int) = child by omega, show ((count.toNat : Nat) : Int) = count by omega]
  · rw [if_neg hl] at hf
    obtain ⟨_, rfl, rfl, rfl, ho, hn⟩ := branch_cases hf
    simp only at ho hn
    unfold pcont restB
    rw [if_neg hl, if_pos (by omega)]
    simp only [List.append_assoc]
    unfold pcont2
    have e1 : child.toNat < 256 ^ 4 := Nat.lt_of_lt_of_le (show child.toNat < 4096 by omega) (by decide)
    have e2 : count.toNat < 256 ^ 4 := Nat.lt_of_lt_of_le (show count.toNat < 2147483648 by omega) (by decide)
    rw [if_neg (by decide), if_pos rfl, pnum_num e1]
    simp only [Option.bind_some]
    rw [pnum_num e2]
    simp only [Option.bind_some]
    rw [psum_app]
    simp only [Option.map_some]
    rw [show ((child.toNat : Nat) : Int) = child by omega, show ((count.toNat : Nat) : Int) = count by omega]
theorem key_len {e : Entry} {lv : Int} (hf : if lv = 0 then formOf e ≠ 0 else branches e = true) : e.key.length ≤ 48 := by
  split at hf
  · exact (form_cases hf).1
  · exact (branch_cases hf).1
theorem preK_cut {l : List Entry} {lv : Int} (h0 : 0 ≤ lv) {i : Nat} (hi : i < l.length) : preK (shared l lv) lv i ++ l[i].key.drop (cutAt l lv i) = l[i].key := by
  unfold preK cutAt
  by_cases h : i = 0 ∧ 0 < lv
  · rw [if_pos h, if_neg (by omega)]; rfl
  · rw [if_neg h, if_pos (by omega)]
    have hm : l[i] ∈ tailE l lv := by
      unfold tailE
      by_cases hl : 0 < lv
      · rw [if_pos hl]
        have : (l.drop 1)[i - 1]? = some l[i] := by rw [List.getElem?_drop, show 1 + (i - 1) = i by omega]; exact List.getElem?_eq_getElem hi
        exact List.mem_of_getElem? this
      · rw [if_neg hl]; exact List.getElem_mem hi
    obtain ⟨r, hr⟩ := shared_prefix l lv _ hm
    conv => rhs; rw [← hr]
    rw [← hr, List.drop_left]
/-- The entries from one on. -/
def ebF (l : List Entry) (lv : Int) : Nat → Nat → Str
  | 0, _ => []
  | k + 1, i => entB (cutAt l lv i) (l.getD i default) lv ++ ebF l lv k (i + 1)
theorem entsB_from (l : List Entry) (lv : Int) : ∀ (k i : Nat), i + k ≤ l.length → entsB l lv (i + k) = entsB l lv i ++ ebF l lv k i
  | 0, i, _ => by simp [ebF]
  | k + 1, i, h => by
    rw [show i + (k + 1) = (i + 1) + k by omega, entsB_from l lv k (i + 1) (by omega), entsB_succ l lv (by omega), ebF, List.append_assoc, getD_at (show i < l.length by omega)]
theorem pents_enc {l : List Entry} {lv : Int} (hv : valid l lv = true) (t : Str) : ∀ (k i : Nat), i + k = l.length → pents (shared l lv) lv k i (ebF l lv k i ++ t) = some (l.drop i, t)
  | 0, i, h => by
    simp only [pents, ebF, List.nil_append]
    rw [List.drop_of_length_le (by omega)]
  | k + 1, i, h => by
    have hi : i < l.length := by omega
    have hf := (valid_form hv hi).1
    have h0 := (valid_iff.1 hv).1.1
    have hk := key_len hf
    simp only [pents, ebF]
    rw [← getD_at hi, List.append_assoc]
    have e1 : pent (shared l lv) lv i (entB (cutAt l lv i) l[i] lv ++ (ebF l lv k (i + 1) ++ t)) = some (l[i], ebF l lv k (i + 1) ++ t) := by
      unfold pent entB
      simp only [List.append_assoc]
      rw [pnum_num (Nat.lt_of_le_of_lt (show l[i].key.length - cutAt l lv i ≤ 48 by omega) (by decide))]
      simp only [Option.bind_some]
      rw [ptext_app _ _ (by rw [List.length_drop])]
      simp only [Option.bind_some]
      rw [preK_cut h0 hi]
      exact pcont_rest h0 hf _
    rw [e1]
    simp only [Option.bind_some]
    rw [pents_enc hv t k (i + 1) (by omega)]
    simp only [Option.map_some]
    rw [List.drop_eq_getElem_cons hi]
theorem pnode_enc {l : List Entry} {tree lv : Int} {top : Bool} (ht : 0 ≤ tree ∧ tree ≤ 255) (hf : fits l lv = true) (t : Str) : pnode (nodeB tree lv top l 12 ++ t) = some (⟨tree.toNat, lv.toNat, top, l⟩, t) := by
  obtain ⟨_, hv, hlen⟩ := nodeB_len (tree := tree) (top := top) (base := 12) hf
  obtain ⟨⟨q1, q2⟩, _⟩ := valid_iff.1 hv
  have hs := shared_len hv
  unfold pnode nodeB
  simp only [List.append_assoc]
  rw [pnum_num (Nat.lt_of_le_of_lt (show tree.toNat ≤ 255 by omega) (by decide))]
  simp only [Option.bind_some]
  rw [pnum_num (Nat.lt_of_le_of_lt (show lv.toNat ≤ 20 by omega) (by decide))]
  simp only [Option.bind_some]
  rw [pnum_num (by cases top <;> decide)]
  simp only [Option.bind_some]
  rw [pnum_num (Nat.lt_of_le_of_lt hs (by decide))]
  simp only [Option.bind_some]
  rw [pnum_num (Nat.lt_of_le_of_lt hlen (by decide))]
  simp only [Option.bind_some]
  rw [ptext_app _ _ rfl]
  simp only [Option.bind_some]
  rw [ptext_app _ _ (by rw [offsB_len])]
  simp only [Option.bind_some]
  have e := entsB_from l lv l.length 0 (by omega)
  rw [Nat.zero_add] at e
  have e0 : entsB l lv 0 = [] := rfl
  rw [e, e0, List.nil_append, show ((lv.toNat : Nat) : Int) = lv by omega, pents_enc hv t l.length 0 (by omega)]
  simp only [Option.map_some, List.drop_zero]
  cases top <;> rfl
theorem ppiece_enc {next : Int} {data : Str} (hn : 0 ≤ next ∧ next ≤ 4095) (hd : data.length ≤ 490) (t : Str) : ppiece (pieceB next data ++ t) = some ((next.toNat, data), t) := by
  unfold ppiece pieceB
  simp only [List.append_assoc]
  rw [pnum_num (Nat.lt_of_le_of_lt (show next.toNat ≤ 4095 by omega) (by decide))]
  simp only [Option.bind_some]
  rw [pnum_num (Nat.lt_of_le_of_lt hd (by decide))]
  simp only [Option.bind_some]
  rw [ptext_app _ _ rfl]
  rfl
theorem ppages_enc (t : Str) : ∀ {l : List Int}, (∀ x ∈ l, 2 ≤ x ∧ x ≤ 4095) → ppages l.length (pagesB l ++ t) = some (l.map Int.toNat, t)
  | [], _ => rfl
  | x :: l, h => by
    have hx := h x (List.mem_cons_self ..)
    show ppages (l.length + 1) ((num x.toNat 4 ++ pagesB l) ++ t) = _
    simp only [ppages, List.append_assoc]
    rw [pnum_num (Nat.lt_of_le_of_lt (show x.toNat ≤ 4095 by omega) (by decide))]
    simp only [Option.bind_some]
    rw [ppages_enc t fun y hy => h y (List.mem_cons_of_mem _ hy)]
    rfl
def coreF (f : Freed) : Nat × List Nat := (f.ver.toNat, f.pages.map Int.toNat)
theorem pfreeds_enc (t : Str) : ∀ {l : List Freed}, (∀ f ∈ l, (0 ≤ f.ver ∧ f.ver ≤ 1099511627776) ∧ f.pages.length ≤ 4094 ∧ ∀ x ∈ f.pages, 2 ≤ x ∧ x ≤ 4095) → pfreeds l.length (freedsB l ++ t) = some (l.map coreF, t)
  | [], _ => rfl
  | f :: l, h => by
    obtain ⟨hv, hp, hx⟩ := h f (List.mem_cons_self ..)
    show pfreeds (l.length + 1) ((freedB f ++ freedsB l) ++ t) = _
    unfold freedB
    simp only [pfreeds, List.append_assoc]
    rw [pnum_num (Nat.lt_of_le_of_lt (show f.ver.toNat ≤ 1099511627776 by omega) (by decide))]
    simp only [Option.bind_some]
    rw [pnum_num (Nat.lt_of_le_of_lt hp (by decide))]
    simp only [Option.bind_some]
    rw [ppages_enc _ hx]
    simp only [Option.bind_some]
    rw [pfreeds_enc t fun y hy => h y (List.mem_cons_of_mem _ hy)]
    rfl
theorem plist_enc {next : Int} {l : List Freed} (hn : 0 ≤ next ∧ next ≤ 4095) (hok : freedOk l = true) (hlen : l.length ≤ 490) (t : Str) : plist (listB next l ++ t) = some ((next.toNat, l.map coreF), t) := by
  unfold plist listB
  simp only [List.append_assoc]
  rw [pnum_num (Nat.lt_of_le_of_lt (show next.toNat ≤ 4095 by omega) (by decide))]
  simp only [Option.bind_some]
  rw [pnum_num (Nat.lt_of_le_of_lt hlen (by decide))]
  simp only [Option.bind_some]
  rw [pfreeds_enc t fun f hf => by
    obtain ⟨i, hi, rfl⟩ := List.getElem_of_mem hf
    obtain ⟨h1, _, _, h4⟩ := freedOk_at hok hi
    refine ⟨h1, pgs_few h4, fun x hx => ?_⟩
    obtain ⟨j, hj, rfl⟩ := List.getElem_of_mem hx
    exact (pgsOk_at h4 hj).1]
  rfl
def bdOf (p : Page) : Bdy := if p.kind = 3 then .pc (p.next.toNat, p.data) else if p.kind = 4 then .ls (p.next.toNat, p.freed.map coreF) else .nd ⟨p.tree.toNat, p.level.toNat, p.top, p.entries⟩
theorem listed_len (l : List Freed) : 6 + 8 * (l.length : Int) ≤ listed l := by
  induction l with
  | nil => simp [listed]
  | cons f r ih => simp only [listed, List.map_cons, List.sum_cons, List.length_cons] at ih ⊢; omega
/-- A page that was written is read again. -/
theorem pread_enc {p : Page} (hc : p.check = true) : pread p.enc = some ⟨p.kind.toNat, p.no.toNat, p.ver.toNat, bdOf p⟩ := by
  obtain ⟨hno, hver, hk⟩ := check_iff.1 hc
  have e0 : (p.enc.take 508).drop 1 = num p.kind.toNat 1 ++ (num p.no.toNat 4 ++ (num p.ver.toNat 6 ++ (p.bodyB ++ zeros (508 - p.used.length)))) := by
    have : p.enc.take 508 = p.full := by
      unfold Page.enc
      rw [List.take_append_of_le_length (by rw [full_len hc]; decide), List.take_of_length_le (by rw [full_len hc]; decide)]
    rw [this]
    unfold Page.full Page.used Page.headB
    simp only [List.cons_append, List.drop_succ_cons, List.drop_zero, List.append_assoc]
  have hkind : p.kind.toNat ≤ 4 := by omega
  unfold pread
  rw [e0, pnum_num (Nat.lt_of_le_of_lt hkind (by decide))]
  simp only [Option.bind_some]
  rw [pnum_num (Nat.lt_of_le_of_lt (show p.no.toNat ≤ 4095 by omega) (by decide))]
  simp only [Option.bind_some]
  rw [pnum_num (Nat.lt_of_le_of_lt (show p.ver.toNat ≤ 1099511627776 by omega) (by decide))]
  simp only [Option.bind_some]
  have e1 : pbody p.kind.toNat (p.bodyB ++ zeros (508 - p.used.length)) = some (bdOf p) := by
    unfold pbody Page.bodyB bdOf
    rcases hk with ⟨h1, ht, _, hf, _⟩ | ⟨h1, _, hl, hd, _⟩ | ⟨h1, _, hl, _, hok, hs⟩
    · rw [if_pos (by omega), if_neg (by omega), if_neg (by omega), pnode_enc ht hf, if_neg (by omega), if_neg (by omega)]
      rfl
    · rw [if_neg (by omega), if_pos (by omega), if_pos h1, ppiece_enc (linked_nn hl) (by omega), if_pos h1]
      rfl
    · have := listed_len p.freed
      rw [if_neg (by omega), if_neg (by omega), if_neg (by omega), if_pos h1, plist_enc (linked_nn hl) hok (by omega), if_neg (by omega), if_pos h1]
      rfl
  rw [e1]
  rfl
end Go.Proofs
/- Contracts: Decode. -/
set_option linter.unusedVariables false
set_option linter.unusedSimpArgs false
namespace Go.Proofs
open Go Go.Abs
/-- What Decode answers at a block with a right head. -/
def DecS (s : Str) (r : CRes) : Prop := match pread s with
  | none => r = .ret (.tup [.agg zeroP, i64 8])
  | some x => ∃ q : Page, BlkIs q x ∧ q.Ok ∧ r = if q.check = true ∧ q.enc = s then .ret (.tup [q.av, i64 0]) else .ret (.tup [.agg zeroP, i64 8])
section
variable {n : Nat} {s : Str}
theorem page_res {L : LT} {h : AHeap} {cs : List AV} {k : Int} (h2 : lk L 2 = some (.ptr 0 0 0)) (h3 : lk L 3 = some (i64 k)) (hP : h[0]? = some (.cells 0 (some 25) cs 0)) (hc : cs.length = 10) : resAL Tryz.prog L h [.cell 2 25, .tmp 3] = some [.agg cs, i64 k] := by
  simp only [resAL, h2, h3, page_ld hc hP]
theorem zero_frz {h : AHeap} {k : Int} : frz h 64 (.tup [.agg zeroP, i64 k]) = some (.tup [.agg zeroP, i64 k]) := rfl
theorem pg_frz {h : AHeap} {q : Page} {k : Int} : frz h 64 (.tup [q.av, i64 k]) = some (.tup [q.av, i64 k]) := frzOk_tup (n := 63) (fun x hx => by
  simp only [List.mem_cons, List.not_mem_nil, or_false] at hx
  rcases hx with rfl | rfl
  · exact page_frz' q
  · exact frzOk_int) h
theorem decode_eq (hn : 10 ≤ n) (hs : headOk s = true) : ∃ r, (∀ h, C n 14 [.str s] h = some (r, h)) ∧ DecS s r := by
  obtain ⟨m, rfl⟩ : ∃ m, n = m + 1 := ⟨n - 1, by omega⟩
  have hl : s.length = 512 := by
    unfold headOk at hs
    simp only [Bool.and_eq_true, decide_eq_true_eq] at hs
    exact hs.1
  obtain ⟨m', rfl⟩ : ∃ k, m = k + 1 := ⟨m - 1, by omega⟩
  obtain ⟨r, e1, hr⟩ := read_eq (m := m') (s := s) (by omega) hl
  unfold ReadS at hr
  unfold DecS
  have cH : ∀ h, C (m' + 1) 18 [.str s] h = some (.ret (headOf s), h) := fun h => head_good (by omega) s hs
  cases hp : pread s with
  | none =>
    rw [hp] at hr
    simp only at hr
    subst hr
    refine ⟨_, fun h => ?_, rfl⟩
    refine fun_pure F14 rfl rfl rfl rfl ?_
    conv => whnf
    refine clI (cH _) ?_
    conv => whnf
    refine clI (e1 _) ?_
    conv => whnf
    refine stI (xs := zeroP) (by rfl) (by rfl) (by rfl) (by rfl) (by rfl) ?_
    conv => whnf
    refine stI (xs := zeroP) (by rfl) (by rfl) (by rfl) (by rfl) (by rfl) ?_
    exact ⟨rfl, _, page_res rfl rfl rfl rfl, zero_frz⟩
  | some x =>
    rw [hp] at hr
    simp only at hr
    obtain ⟨q, rfl, hq⟩ := hr
    have ok := hq.ok hl hp
    have cC : ∀ h, C (m' + 1) 16 [q.av] h = some (.ret (i64 (if q.check then 0 else 2)), h) := fun h => check_eq (by omega) q ok
    cases hc : q.check with
    | false =>
      rw [hc] at cC
      refine ⟨.ret (.tup [.agg zeroP, i64 8]), fun h => ?_, q, hq, ok, by rw [if_neg (by simp [hc])]⟩
      refine fun_pure F14 rfl rfl rfl rfl ?_
      conv => whnf
      refine clI (cH _) ?_
      conv => whnf
      refine clI (e1 _) ?_
      conv => whnf
      refine stI (xs := q.cells) (by rfl) (by rfl) (by rfl) (by rfl) (by rfl) ?_
      conv => whnf
      refine ldI (by rfl) ?_
      conv => whnf
      refine clI (cC _) ?_
      conv => whnf
      refine stI (xs := zeroP) (by rfl) (by rfl) (by rfl) (by rfl) (by rfl) ?_
      exact ⟨rfl, _, page_res rfl rfl rfl rfl, zero_frz⟩
    | true =>
      rw [hc] at cC
      have cE : ∀ h, C (m' + 1) 12 [q.av] h = some (.ret (.tup [.str q.enc, i64 0]), h) := fun h => by
        rw [encode_eq (by omega) q ok, hc]; rfl
      have cB1 : ∀ h, C (m' + 1) 68 [.str q.enc] h = some (.ret (.agg (q.enc.map u8)), h) := fun h => blockOf_eq (by omega) _ (enc_len hc)
      have cB2 : ∀ h, C (m' + 1) 68 [.str s] h = some (.ret (.agg (s.map u8)), h) := fun h => blockOf_eq (by omega) _ hl
      have walk : ∀ (r : CRes), r = (if q.enc = s then .ret (.tup [q.av, i64 0]) else .ret (.tup [.agg zeroP, i64 8])) → ∀ h, C (m' + 1 + 1) 14 [.str s] h = some (r, h) := fun r er h => by
        obtain ⟨v, ev⟩ : ∃ v, r = .ret v := by
          rw [er]; split <;> exact ⟨_, rfl⟩
        rw [ev]
        rw [ev] at er
        refine fun_pure F14 rfl rfl rfl rfl ?_
        conv => whnf
        refine clI (cH _) ?_
        conv => whnf
        refine clI (e1 _) ?_
        conv => whnf
        refine stI (xs := q.cells) (by rfl) (by rfl) (by rfl) (by rfl) (by rfl) ?_
        conv => whnf
        refine ldI (by rfl) ?_
        conv => whnf
        refine clI (cC _) ?_
        conv => whnf
        refine ldI (by rfl) ?_
        conv => whnf
        refine clI (cE _) ?_
        conv => whnf
        refine clI (cB1 _) ?_
        conv => whnf
        refine clI (cB2 _) ?_
        conv => whnf
        refine eqI (eq_block _ _ (enc_len hc) hl) ?_
        conv => whnf
        refine brn (fun a => ?_) (fun a => ?_)
        · have a' : ¬ q.enc = s := of_decide_eq_false a
          rw [if_neg a'] at er
          cases er
          conv => whnf
          refine stI (xs := zeroP) (by rfl) (by rfl) (by rfl) (by rfl) (by rfl) ?_
          exact ⟨rfl, _, page_res rfl rfl rfl rfl, zero_frz⟩
        · have a' : q.enc = s := of_decide_eq_true a
          rw [if_pos a'] at er
          cases er
          conv => whnf
          refine ldI (by rfl) ?_
          conv => whnf
          refine stI (xs := q.cells) (by rfl) (by rfl) (by rfl) (by rfl) (by rfl) ?_
          exact ⟨rfl, _, page_res rfl rfl rfl rfl, pg_frz⟩
      refine ⟨_, walk _ rfl, q, hq, ok, ?_⟩
      by_cases a : q.enc = s
      · rw [if_pos a, if_pos ⟨hc, a⟩]
      · rw [if_neg a, if_neg (fun h => a h.2)]
end
end Go.Proofs
/- Decode answers a block that Encode wrote with its page. -/
set_option linter.unusedVariables false
set_option linter.unusedSimpArgs false
namespace Go.Proofs
open Go Go.Abs
def Freed.core (f : Freed) : Int × List Int := (f.ver, f.pages)
/-- Pages that read alike. -/
structure Same (p q : Page) : Prop where
  kind : q.kind = p.kind
  no : q.no = p.no
  ver : q.ver = p.ver
  tree : q.tree = p.tree
  level : q.level = p.level
  top : q.top = p.top
  entries : q.entries = p.entries
  next : q.next = p.next
  data : q.data = p.data
  freed : q.freed.map Freed.core = p.freed.map Freed.core
theorem core_len {a b : List Freed} (h : a.map Freed.core = b.map Freed.core) : a.length = b.length := by
  have := congrArg List.length h
  simpa using this
theorem core_at {a b : List Freed} (h : a.map Freed.core = b.map Freed.core) (k : Nat) : (a.getD k default).ver = (b.getD k default).ver ∧ (a.getD k default).pages = (b.getD k default).pages := by
  have hl := core_len h
  by_cases hk : k < a.length
  · have hk' : k < b.length := by omega
    have h1 : (a.map Freed.core)[k]? = (b.map Freed.core)[k]? := by rw [h]
    rw [List.getElem?_map, List.getElem?_map, List.getElem?_eq_getElem hk, List.getElem?_eq_getElem hk'] at h1
    have h2 : a[k].core = b[k].core := Option.some.inj h1
    have e1 : a.getD k default = a[k] := by simp [hk]
    have e2 : b.getD k default = b[k] := by simp [hk']
    rw [e1, e2]
    exact ⟨congrArg Prod.fst h2, congrArg Prod.snd h2⟩
  · have e1 : a.getD k default = default := by simp [List.getElem?_eq_none (show a.length ≤ k by omega)]
    have e2 : b.getD k default = default := by simp [List.getElem?_eq_none (show b.length ≤ k by omega)]
    rw [e1, e2]
    exact ⟨rfl, rfl⟩
theorem freedOk_core {a b : List Freed} (h : a.map Freed.core = b.map Freed.core) : freedOk a = freedOk b := by
  unfold freedOk
  rw [core_len h]
  congr 1
  funext k
  unfold frAt
  rw [(core_at h k).1, (core_at h k).2, (core_at h (k - 1)).1]
theorem listed_core {a b : List Freed} (h : a.map Freed.core = b.map Freed.core) : listed a = listed b := by
  have e : ∀ l : List Freed, (l.map fun f => 8 + 4 * (f.pages.length : Int)) = (l.map Freed.core).map fun c => 8 + 4 * (c.2.length : Int) := fun l => by rw [List.map_map]; rfl
  unfold listed
  rw [e a, e b, h]
theorem freedsB_core {a b : List Freed} (h : a.map Freed.core = b.map Freed.core) : freedsB a = freedsB b := by
  have e : ∀ l : List Freed, freedsB l = (l.map Freed.core).flatMap fun c => num c.1.toNat 6 ++ (num c.2.length 2 ++ pagesB c.2) := fun l => by
    induction l with
    | nil => rfl
    | cons f r ih =>
      simp only [freedsB, List.flatMap_cons, List.map_cons] at ih ⊢
      rw [ih]; rfl
  rw [e a, e b, h]
theorem Same.check {p q : Page} (h : Same p q) : q.check = p.check := by
  unfold Page.check Page.plain
  rw [h.kind, h.no, h.ver, h.tree, h.level, h.top, h.entries, h.next, h.data, freedOk_core h.freed, listed_core h.freed, core_len h.freed]
theorem Same.enc {p q : Page} (h : Same p q) : q.enc = p.enc := by
  have e : q.full = p.full := by
    unfold Page.full Page.used Page.headB Page.bodyB listB
    rw [h.kind, h.no, h.ver, h.tree, h.level, h.top, h.entries, h.next, h.data, freedsB_core h.freed, core_len h.freed]
  unfold Page.enc
  rw [e]
theorem ints_back : ∀ {l : List Int}, (∀ x ∈ l, 0 ≤ x) → (l.map Int.toNat).map (fun p : Nat => (p : Int)) = l
  | [], _ => rfl
  | x :: l, h => by
    have hx := h x (List.mem_cons_self ..)
    simp only [List.map_cons]
    rw [ints_back fun y hy => h y (List.mem_cons_of_mem _ hy), show ((x.toNat : Nat) : Int) = x by omega]
theorem fs_core : ∀ {fs l : List Freed}, FsAre fs (l.map coreF) → (∀ f ∈ l, 0 ≤ f.ver ∧ ∀ x ∈ f.pages, 0 ≤ x) → fs.map Freed.core = l.map Freed.core
  | fs, [], h, _ => by cases h; rfl
  | fs, f :: l, h, hl => by
    cases h with
    | cons h1 h2 =>
      rename_i g gs
      have hf := hl f (List.mem_cons_self ..)
      simp only [List.map_cons]
      rw [fs_core h2 fun y hy => hl y (List.mem_cons_of_mem _ hy)]
      congr 1
      unfold Freed.core
      rw [h1.1, h1.2.1]
      have e1 : ((coreF f).1 : Int) = f.ver := by show ((f.ver.toNat : Nat) : Int) = _; omega
      have e2 : (coreF f).2.map (fun p : Nat => (p : Int)) = f.pages := ints_back hf.2
      rw [e1, e2]
theorem same_of {p q : Page} (hc : p.check = true) (hq : BlkIs q ⟨p.kind.toNat, p.no.toNat, p.ver.toNat, bdOf p⟩) : Same p q := by
  obtain ⟨hno, hver, hk⟩ := check_iff.1 hc
  obtain ⟨q1, q2, q3, q4, _, _⟩ := hq
  simp only at q1 q2 q3 q4
  unfold bdOf at q4
  rcases hk with ⟨h1, ht, _, hf, hn, hd, hfr⟩ | ⟨h1, hp, hl, hd, hfr⟩ | ⟨h1, hp, hl, hd, hok, hs⟩
  · rw [if_neg (by omega), if_neg (by omega)] at q4
    obtain ⟨b1, b2, b3, b4, b5, b6, b7⟩ := q4
    have hlv := (valid_iff.1 (nodeB_len (tree := 0) (top := true) (base := 12) hf).2.1).1.1
    exact ⟨by omega, by omega, by omega, by simp only at b1; omega, by simp only at b2; omega, b3, b4, by omega, by rw [b6, hd], by rw [b7, hfr]⟩
  · rw [if_pos h1] at q4
    obtain ⟨b1, b2, b3, b4, b5, b6, b7⟩ := q4
    have hnx := (linked_nn hl).1
    simp [Page.plain] at hp
    obtain ⟨p1, p2, p3, p4⟩ := hp
    exact ⟨by omega, by omega, by omega, by omega, by omega, by rw [b3, p3], by rw [b4, p4], by simp only at b5; omega, b6, by rw [b7, hfr]⟩
  · rw [if_neg (by omega), if_pos h1] at q4
    obtain ⟨b1, b2, b3, b4, b5, b6, b7⟩ := q4
    have hnx := (linked_nn hl).1
    simp [Page.plain] at hp
    obtain ⟨p1, p2, p3, p4⟩ := hp
    refine ⟨by omega, by omega, by omega, by omega, by omega, by rw [b3, p3], by rw [b4, p4], by simp only at b5; omega, by rw [b6, hd], fs_core b7 fun f hf => ?_⟩
    obtain ⟨i, hi, rfl⟩ := List.getElem_of_mem hf
    obtain ⟨g1, _, _, g4⟩ := freedOk_at hok hi
    refine ⟨g1.1, fun x hx => ?_⟩
    obtain ⟨j, hj, rfl⟩ := List.getElem_of_mem hx
    have := (pgsOk_at g4 hj).1
    omega
theorem headOk_enc {p : Page} (hc : p.check = true) : headOk p.enc = true := by
  obtain ⟨hno, hver, hk⟩ := check_iff.1 hc
  have h1 : p.enc.take 508 = p.full := by
    unfold Page.enc
    rw [List.take_append_of_le_length (by rw [full_len hc]; decide), List.take_of_length_le (by rw [full_len hc]; decide)]
  have h2 : p.enc.getD 0 0 = 85 := rfl
  have h3 : p.enc.getD 1 0 = UInt8.ofNat (p.kind.toNat / 256 ^ 0) := rfl
  have h4 : (UInt8.ofNat (p.kind.toNat / 256 ^ 0)).toNat = p.kind.toNat := by
    rw [UInt8.toNat_ofNat']
    simp
    omega
  unfold headOk
  rw [h1, h2, h3, h4, enc_len hc]
  have h5 : p.full ++ crcB p.full = p.enc := rfl
  rw [h5]
  simp [within]
  omega
/-- Decode behind Encode. -/
theorem decode_enc {n : Nat} (hn : 10 ≤ n) {p : Page} (hc : p.check = true) : ∃ q : Page, Same p q ∧ q.Ok ∧ ∀ h, C n 14 [.str p.enc] h = some (.ret (.tup [q.av, i64 0]), h) := by
  obtain ⟨r, e1, e2⟩ := decode_eq hn (headOk_enc hc)
  unfold DecS at e2
  rw [pread_enc hc] at e2
  obtain ⟨q, hq, ok, e3⟩ := e2
  have hs := same_of hc hq
  rw [if_pos ⟨by rw [hs.check, hc], hs.enc⟩] at e3
  subst e3
  exact ⟨q, hs, ok, e1⟩
end Go.Proofs
/- Contracts: equal lists of numbers, of freed pages; equal pages without entries. -/
set_option linter.unusedVariables false
set_option linter.unusedSimpArgs false
namespace Go.Proofs
open Go Go.Abs
theorem get_two_l (h : AHeap) (a x b y : AB) : ((((h ++ [a]).set h.length x) ++ [b]).set ((h ++ [a]).set h.length x).length y)[h.length]? = some x := by
  rw [List.getElem?_set_ne (by simp), List.getElem?_append_left (by simp), List.getElem?_set_self (by simp)]
theorem take_eq_step {α : Type} {a b : List α} {j : Nat} (ha : j < a.length) (hb : j < b.length) (h : a.take j = b.take j) (e : a[j] = b[j]) : a.take (j + 1) = b.take (j + 1) := by
  rw [List.take_succ_eq_append_getElem ha, List.take_succ_eq_append_getElem hb, h, e]
section
variable {n : Nat} {h : AHeap}
theorem equalInts_eq (hn : 1 ≤ n) (a b : List Int) (hl : a.length < 9223372036854775808) (sz sz' : Nat) (hz : a ≠ [] → sz = 1) (hz' : b ≠ [] → sz' = 1) (c c' : Bool) : C n 136 [.lst sz (a.map i64) c, .lst sz' (b.map i64) c'] h = some (.ret (.bool (decide (a = b))), h) := by
  obtain ⟨m, rfl⟩ : ∃ m, n = m + 1 := ⟨n - 1, by omega⟩
  refine fun_pure F136 rfl rfl rfl (ints_pure a (ints_pure b rfl)) ?_
  conv => whnf
  refine brq (fun q => ?_) (fun q => ?_)
  · conv => whnf
    refine retP rfl (frz_bool ?_)
    have : a ≠ b := by rintro rfl; exact q rfl
    simp [this]
  have hlen : a.length = b.length := by simp at q; omega
  conv => whnf
  refine loopI (by decide) rfl (α := Nat) (fun x => ⟨[(0, .lst sz (a.map i64) c), (1, .lst sz' (b.map i64) c'), (12, i64 a.length), (13, i64 x)], [], []⟩) (fun x => x ≤ a.length ∧ a.take x = b.take x) (fun x => a.length - x) 0 ⟨⟨rfl, rfl, lenI _ _, rfl⟩, rfl, rfl⟩ ⟨Nat.zero_le _, rfl⟩ (by show a.length - 0 < KK; simp only [KK]; omega) ?_
  rintro j ⟨g1, g2⟩
  conv => whnf
  refine brd (fun d => ?_) (fun d => ?_)
  · have hj : j < a.length := by omega
    have hj' : j < b.length := by omega
    have hne : a ≠ [] := by rintro rfl; simp at hj
    have hne' : b ≠ [] := by rintro rfl; simp at hj'
    conv => whnf
    refine ⟨by omega, hz hne, i64 a[j], by simp [hj], [i64 a[j]], rfl, ?_⟩
    conv => whnf
    refine ⟨by omega, hz' hne', i64 b[j], by simp [hj'], [i64 b[j]], rfl, ?_⟩
    conv => whnf
    refine brq (fun e => ?_) (fun e => ?_)
    · conv => whnf
      refine retP rfl (frz_bool ?_)
      have : a ≠ b := by rintro rfl; exact e rfl
      simp [this]
    · conv => whnf
      refine zI (z := ((j + 1 : Nat) : Int)) (by rw [wrap_i64 (by omega) (by omega)]; rfl) ?_
      exact nxI (j + 1) ⟨hj, take_eq_step hj hj' g2 e⟩ (by omega) ⟨⟨rfl, rfl, rfl, rfl⟩, rfl, rfl⟩
  · have hj : j = a.length := by omega
    subst hj
    have e : a = b := by
      rw [List.take_length] at g2
      rw [g2, hlen, List.take_length]
    conv => whnf
    refine cutI (by decide) rfl (t := ⟨[], [], []⟩) ⟨trivial, rfl, rfl⟩ ?_
    conv => whnf
    exact retP rfl (frz_bool (by simp [e]))
theorem same1_eq (hn : 2 ≤ n) (f g : Freed) (hf : f.Ok ∧ f.pages.length < 9223372036854775808) (hg : g.Ok) : C n 135 [f.av, g.av] h = some (.ret (.bool (decide (f.core = g.core))), h) := by
  obtain ⟨m, rfl⟩ : ∃ m, n = m + 1 := ⟨n - 1, by omega⟩
  have cE := fun h => equalInts_eq (n := m) (h := h) (by omega) f.pages g.pages hf.2 f.sh.sz g.sh.sz hf.1 hg f.sh.c g.sh.c
  refine fun_pure F135 rfl rfl rfl (by simp [pureBs, freed_pure]) ?_
  conv => whnf
  refine ldI (by rfl) ?_
  conv => whnf
  refine ldI (by rfl) ?_
  conv => whnf
  refine bre (fun a => ?_) (fun a => ?_)
  · conv => whnf
    refine ldI (by rfl) ?_
    conv => whnf
    refine ldI (by rfl) ?_
    conv => whnf
    refine clI (cE _) ?_
    conv => whnf
    refine retP rfl (frz_bool ?_)
    rw [decide_eq_decide]
    unfold Freed.core
    rw [Prod.mk.injEq]
    exact ⟨fun q => ⟨a, q⟩, fun q => q.2⟩
  · conv => whnf
    refine retP rfl (frz_bool ?_)
    have : f.core ≠ g.core := fun e => a (by unfold Freed.core at e; exact (Prod.mk.inj e).1)
    simp [this]
end
end Go.Proofs
/- Contracts: equal lists of freed pages; equal pages without entries. -/
set_option linter.unusedVariables false
set_option linter.unusedSimpArgs false
namespace Go.Proofs
open Go Go.Abs
abbrev tFrd : Nat := 165
theorem core_step {a b : List Freed} {j : Nat} (ha : j < a.length) (hb : j < b.length) (h : (a.take j).map Freed.core = (b.take j).map Freed.core) (e : a[j].core = b[j].core) : (a.take (j + 1)).map Freed.core = (b.take (j + 1)).map Freed.core := by
  rw [List.take_succ_eq_append_getElem ha, List.take_succ_eq_append_getElem hb, List.map_append, List.map_append, h]
  simp [e]
theorem core_ne {a b : List Freed} {j : Nat} (ha : j < a.length) (hb : j < b.length) (e : a[j].core ≠ b[j].core) : a.map Freed.core ≠ b.map Freed.core := fun q => e (by
  have h1 : (a.map Freed.core)[j]? = (b.map Freed.core)[j]? := by rw [q]
  simpa [ha, hb] using h1)
section
variable {n : Nat} {h : AHeap}
theorem eqFreed_eq (hn : 3 ≤ n) (a b : List Freed) (hl : a.length < 1099511627776) (ha : ∀ f ∈ a, f.Ok ∧ f.pages.length < 9223372036854775808) (hb : ∀ f ∈ b, f.Ok) (sz sz' : Nat) (hz : a ≠ [] → sz = 2) (hz' : b ≠ [] → sz' = 2) (c c' : Bool) :
    C n 134 [.lst sz (a.map Freed.av) c, .lst sz' (b.map Freed.av) c', .fn (.func 135) [] []] h = some (.ret (.bool (decide (a.map Freed.core = b.map Freed.core))), h) := by
  obtain ⟨m, rfl⟩ : ∃ m, n = m + 1 := ⟨n - 1, by omega⟩
  have fine : fnOk Tryz.prog 135 = true := by kernel_rfl
  refine fun_pure F134 rfl rfl rfl (pure_lst freed_pure a (pure_lst freed_pure b rfl)) ?_
  conv => whnf
  refine brq (fun q => ?_) (fun q => ?_)
  · conv => whnf
    refine retP rfl (frz_bool ?_)
    have : a.map Freed.core ≠ b.map Freed.core := fun e => q (by have := congrArg List.length e; simp at this; simp [this])
    simp [this]
  have hlen : a.length = b.length := by simp at q; omega
  conv => whnf
  refine loopI (by decide) rfl (α := Nat × AHeap) (fun x => ⟨[(1, .lst sz' (b.map Freed.av) c'), (2, .fn (.func 135) [] []), (15, .lst sz (a.map Freed.av) c), (16, i64 a.length), (17, i64 x.1)], x.2, []⟩)
    (fun x => x.1 ≤ a.length ∧ (a.take x.1).map Freed.core = (b.take x.1).map Freed.core) (fun x => a.length - x.1) (0, []) ⟨⟨rfl, rfl, rfl, lenI _ _, rfl⟩, rfl, rfl⟩ ⟨Nat.zero_le _, rfl⟩ (by show a.length - 0 < KK; simp only [KK]; omega) ?_
  rintro ⟨j, hp⟩ ⟨g1, g2⟩
  simp only at g1 g2
  conv => whnf
  refine brd (fun d => ?_) (fun d => ?_)
  · have hj : j < a.length := by simp only at d; omega
    have hj' : j < b.length := by omega
    have cS : ∀ h, C m 135 [.agg a[j].cells, .agg b[j].cells] h = some (.ret (.bool (decide (a[j].core = b[j].core))), h) := fun h => same1_eq (by omega) a[j] b[j] (ha _ (List.getElem_mem hj)) (hb _ (List.getElem_mem hj'))
    conv => whnf
    refine ixL freed_cells hj hz ?_
    conv => whnf
    refine stI (get_last _ _) (xs := a[j].cells) (by rfl) (by rfl) (by rfl) (by rfl) ?_
    conv => whnf
    refine ixL freed_cells hj' hz' ?_
    conv => whnf
    refine stI (get_last _ _) (xs := b[j].cells) (by rfl) (by rfl) (by rfl) (by rfl) ?_
    conv => whnf
    refine ldI (get_two_l _ _ _ _ _) ?_
    conv => whnf
    refine ldI (get_set_last _ _ _) ?_
    conv => whnf
    refine cvI fine (cS _) ?_
    conv => whnf
    refine brn (fun e => ?_) (fun e => ?_)
    · conv => whnf
      refine retP rfl (frz_bool ?_)
      have := core_ne hj hj' (of_decide_eq_false e)
      simp [this]
    · conv => whnf
      refine zI (z := ((j + 1 : Nat) : Int)) (by rw [wrap_i64 (by omega) (by omega)]; rfl) ?_
      exact nxI (j + 1, _) ⟨hj, core_step hj hj' g2 (of_decide_eq_true e)⟩ (by simp only; omega) ⟨⟨rfl, rfl, rfl, rfl, rfl⟩, rfl, rfl⟩
  · have hj : j = a.length := by simp only at d; omega
    subst hj
    have e : a.map Freed.core = b.map Freed.core := by
      rw [List.take_length] at g2
      rw [g2, hlen, List.take_length]
    conv => whnf
    refine cutI (by decide) rfl (t := ⟨[], hp, []⟩) ⟨trivial, rfl, rfl⟩ ?_
    conv => whnf
    exact retP rfl (frz_bool (by simp [e]))
/-- Pages without entries that read alike. -/
def sameP (p q : Page) : Bool := p.kind == q.kind && (p.no == q.no && (p.ver == q.ver && (p.next == q.next && (p.data == q.data && (p.plain && (q.plain && decide (p.freed.map Freed.core = q.freed.map Freed.core)))))))
theorem samePage_eq (hn : 4 ≤ n) (p q : Page) (op : p.Ok) (oq : q.Ok) : C n 98 [p.av, q.av] h = some (.ret (.bool (sameP p q)), h) := by
  obtain ⟨m, rfl⟩ : ∃ m, n = m + 1 := ⟨n - 1, by omega⟩
  have cF := fun h => eqFreed_eq (n := m) (h := h) (by omega) p.freed q.freed (by have := op.flen; omega) op.fr (fun f hf => (oq.fr f hf).1) p.fsh.sz q.fsh.sz op.fsz oq.fsz p.fsh.c q.fsh.c
  have cp := fun h => plain_eq (n := m) (h := h) (by omega) p
  have cq := fun h => plain_eq (n := m) (h := h) (by omega) q
  have hpure : pureBs [p.av, q.av] = true := by simp [pureBs, page_pure]
  refine fun_pure F98 rfl rfl rfl hpure ?_
  conv => whnf
  refine ldI (by rfl) ?_
  conv => whnf
  refine ldI (by rfl) ?_
  conv => whnf
  refine brq (fun a => ?_) (fun a1 => ?_)
  · conv => whnf
    exact retP rfl (frz_bool (by simp [sameP, a]))
  conv => whnf
  refine ldI (by rfl) ?_
  conv => whnf
  refine ldI (by rfl) ?_
  conv => whnf
  refine brq (fun a => ?_) (fun a2 => ?_)
  · conv => whnf
    exact retP rfl (frz_bool (by simp [sameP, a]))
  conv => whnf
  refine ldI (by rfl) ?_
  conv => whnf
  refine ldI (by rfl) ?_
  conv => whnf
  refine brq (fun a => ?_) (fun a3 => ?_)
  · conv => whnf
    exact retP rfl (frz_bool (by simp [sameP, a]))
  conv => whnf
  refine ldI (by rfl) ?_
  conv => whnf
  refine ldI (by rfl) ?_
  conv => whnf
  refine brq (fun a => ?_) (fun a4 => ?_)
  · conv => whnf
    exact retP rfl (frz_bool (by simp [sameP, a]))
  conv => whnf
  refine ldI (by rfl) ?_
  conv => whnf
  refine ldI (by rfl) ?_
  conv => whnf
  refine brq (fun a => ?_) (fun a5 => ?_)
  · conv => whnf
    exact retP rfl (frz_bool (by simp [sameP, a]))
  conv => whnf
  refine ldI (by rfl) ?_
  conv => whnf
  refine clI (cp _) ?_
  conv => whnf
  refine brn (fun a => ?_) (fun a6 => ?_)
  · conv => whnf
    exact retP rfl (frz_bool (by simp [sameP, a]))
  conv => whnf
  refine ldI (by rfl) ?_
  conv => whnf
  refine clI (cq _) ?_
  conv => whnf
  refine brn (fun a => ?_) (fun a7 => ?_)
  · conv => whnf
    exact retP rfl (frz_bool (by simp [sameP, a]))
  conv => whnf
  refine ldI (by rfl) ?_
  conv => whnf
  refine ldI (by rfl) ?_
  conv => whnf
  refine clI (cF _) ?_
  conv => whnf
  exact retP rfl (frz_bool (by simp [sameP, a1, a2, a3, a4, a5, a6, a7]))
/-- Lists of pages without entries that read alike. -/
def samePs (a b : List Page) : Bool := decide (a.length = b.length) && (List.zipWith sameP a b).all id
theorem samePs_len {a b : List Page} (h : a.length ≠ b.length) : samePs a b = false := by unfold samePs; simp [h]
theorem samePs_ne {a b : List Page} {j : Nat} (ha : j < a.length) (hb : j < b.length) (e : sameP a[j] b[j] = false) : samePs a b = false := by
  have : (List.zipWith sameP a b).all id = false := by
    rw [List.all_eq_false]
    exact ⟨sameP a[j] b[j], List.mem_iff_getElem.2 ⟨j, by simp; omega, by simp⟩, by simp [e]⟩
  unfold samePs; rw [this]; simp
theorem samePs_yes {a b : List Page} (h : a.length = b.length) (e : ∀ j (ha : j < a.length) (hb : j < b.length), sameP a[j] b[j] = true) : samePs a b = true := by
  unfold samePs
  rw [Bool.and_eq_true, decide_eq_true_eq, List.all_eq_true]
  refine ⟨h, fun x hx => ?_⟩
  obtain ⟨j, hj, rfl⟩ := List.mem_iff_getElem.1 hx
  have hj2 := hj
  simp only [List.length_zipWith] at hj2
  simp [e j (by omega) (by omega)]
theorem eqPages_eq (hn : 5 ≤ n) (a b : List Page) (hl : a.length < 1099511627776) (ha : ∀ p ∈ a, p.Ok) (hb : ∀ p ∈ b, p.Ok) (sz sz' : Nat) (hz : a ≠ [] → sz = 10) (hz' : b ≠ [] → sz' = 10) (c c' : Bool) :
    C n 97 [.lst sz (a.map Page.av) c, .lst sz' (b.map Page.av) c', .fn (.func 98) [] []] h = some (.ret (.bool (samePs a b)), h) := by
  obtain ⟨m, rfl⟩ : ∃ m, n = m + 1 := ⟨n - 1, by omega⟩
  have fine : fnOk Tryz.prog 98 = true := by kernel_rfl
  refine fun_pure F97 rfl rfl rfl (pure_lst page_pure a (pure_lst page_pure b rfl)) ?_
  conv => whnf
  refine brq (fun q => ?_) (fun q => ?_)
  · conv => whnf
    refine retP rfl (frz_bool ?_)
    rw [samePs_len fun e => q (by simp [e])]
  have hlen : a.length = b.length := by simp at q; omega
  conv => whnf
  refine loopI (by decide) rfl (α := Nat × AHeap) (fun x => ⟨[(1, .lst sz' (b.map Page.av) c'), (2, .fn (.func 98) [] []), (15, .lst sz (a.map Page.av) c), (16, i64 a.length), (17, i64 x.1)], x.2, []⟩)
    (fun x => x.1 ≤ a.length ∧ ∀ j (hj : j < a.length) (hj' : j < b.length), j < x.1 → sameP a[j] b[j] = true) (fun x => a.length - x.1) (0, []) ⟨⟨rfl, rfl, rfl, lenI _ _, rfl⟩, rfl, rfl⟩ ⟨Nat.zero_le _, fun j _ _ q => absurd q (Nat.not_lt_zero _)⟩ (by show a.length - 0 < KK; simp only [KK]; omega) ?_
  rintro ⟨j, hp⟩ ⟨g1, g2⟩
  simp only at g1 g2
  conv => whnf
  refine brd (fun d => ?_) (fun d => ?_)
  · have hj : j < a.length := by simp only at d; omega
    have hj' : j < b.length := by omega
    have cS : ∀ h, C m 98 [.agg a[j].cells, .agg b[j].cells] h = some (.ret (.bool (sameP a[j] b[j])), h) := fun h => samePage_eq (by omega) a[j] b[j] (ha _ (List.getElem_mem hj)) (hb _ (List.getElem_mem hj'))
    conv => whnf
    refine ixL page_cells hj hz ?_
    conv => whnf
    refine stI (get_last _ _) (xs := a[j].cells) (by rfl) (by rfl) (by rfl) (by rfl) ?_
    conv => whnf
    refine ixL page_cells hj' hz' ?_
    conv => whnf
    refine stI (get_last _ _) (xs := b[j].cells) (by rfl) (by rfl) (by rfl) (by rfl) ?_
    conv => whnf
    refine ldI (get_two_l _ _ _ _ _) ?_
    conv => whnf
    refine ldI (get_set_last _ _ _) ?_
    conv => whnf
    refine cvI fine (cS _) ?_
    conv => whnf
    refine brn (fun e => ?_) (fun e => ?_)
    · conv => whnf
      exact retP rfl (frz_bool (samePs_ne hj hj' e).symm)
    · conv => whnf
      refine zI (z := ((j + 1 : Nat) : Int)) (by rw [wrap_i64 (by omega) (by omega)]; rfl) ?_
      refine nxI (j + 1, _) ⟨hj, fun i hi hi' hij => ?_⟩ (by simp only; omega) ⟨⟨rfl, rfl, rfl, rfl, rfl⟩, rfl, rfl⟩
      by_cases q : i = j
      · subst q; exact e
      · exact g2 i hi hi' (by simp only at hij; omega)
  · have hj : j = a.length := by simp only at d; omega
    subst hj
    conv => whnf
    refine cutI (by decide) rfl (t := ⟨[], hp, []⟩) ⟨trivial, rfl, rfl⟩ ?_
    conv => whnf
    exact retP rfl (frz_bool (samePs_yes hlen fun i hi hi' => g2 i hi hi' hi).symm)
end
end Go.Proofs
/- Contracts: the value of a chain. -/
set_option linter.unusedVariables false
set_option linter.unusedSimpArgs false
namespace Go.Proofs
open Go Go.Abs
theorem pieceAt_len (s : Str) (k : Nat) : (pieceAt s k).length ≤ 490 := by
  unfold pieceAt; rw [List.length_take]; omega
theorem pieces_mem {s x : Str} (h : x ∈ pieces s) : x.length ≤ 490 := by
  obtain ⟨k, _, rfl⟩ := List.mem_map.1 h
  exact pieceAt_len s k
theorem getD_piece (s : Str) (k : Nat) : ((pieces s).getD k []).length ≤ 490 := by
  rw [List.getD_eq_getElem?_getD]
  cases h : (pieces s)[k]? with
  | none => simp
  | some x => exact pieces_mem (List.mem_of_getElem? h)
theorem chainPs_ok {s : Str} {no : List Int} {v : Int} {p : Page} (h : p ∈ chainPs (pieces s) no v) : p.Ok := by
  obtain ⟨k, _, rfl⟩ := List.mem_map.1 h
  refine ⟨fun q => (q rfl).elim, fun q => (q rfl).elim, (by show 0 < 1099511627776; decide), (by show 0 < 1048576; decide), ?_, fun e he => (by cases he), fun f hf => (by cases hf)⟩
  have := getD_piece s k
  show ((pieces s).getD k []).length < _
  omega
theorem chainPs_len (ps : List Str) (no : List Int) (v : Int) : (chainPs ps no v).length = no.length := by simp [chainPs]
def headV (l : List Page) : Int := match l with
  | [] => 0
  | p :: _ => p.ver
def joinOk (l : List Page) : Bool := decide (l ≠ []) && (chainOk (textOf l) (l.map Page.no) (headV l) && samePs l (chainPs (pieces (textOf l)) (l.map Page.no) (headV l)))
section
variable {n : Nat} {h : AHeap}
theorem joined_eq (hn : 9 ≤ n) (l : List Page) (hl : l.length ≤ 1000) (hd : ∀ p ∈ l, p.data.length ≤ 1000) (ho : ∀ p ∈ l, p.Ok) (sz : Nat) (hz : l ≠ [] → sz = 10) (c : Bool) : C n 33 [.lst sz (l.map Page.av) c] h = some (.ret (.tup (if joinOk l = true then [.str (textOf l), i64 0] else [.str [], i64 2])), h) := by
  obtain ⟨m, rfl⟩ : ∃ m, n = m + 1 := ⟨n - 1, by omega⟩
  have htl : (textOf l).length < 1073741824 := by
    have := textOf_len hd
    have : l.length * 1000 ≤ 1000 * 1000 := Nat.mul_le_mul hl (Nat.le_refl _)
    omega
  have cJ := fun h => joinedText_eq (n := m) (h := h) (by omega) l hl hd sz hz c
  refine fun_pure F33 rfl rfl rfl (pure_lst page_pure l rfl) ?_
  cases l with
  | nil =>
    conv => whnf
    exact retP rfl rfl
  | cons p r =>
    have hne : p :: r ≠ [] := by simp
    have cN := fun h => numbersOf_eq (n := m) (h := h) (by omega) (p :: r) (by omega) sz hz c hne
    have cC := fun h => chain_eq (n := m) (h := h) (by omega) (textOf (p :: r)) htl ((p :: r).map Page.no) (by rw [List.length_map]; omega) 1 (fun _ => rfl) false p.ver
    have cE := fun h => eqPages_eq (n := m) (h := h) (by omega) (p :: r) (chainPs (pieces (textOf (p :: r))) ((p :: r).map Page.no) p.ver) (by omega) ho (fun q hq => chainPs_ok hq) sz 10 hz (fun _ => rfl) c false
    have hs := hz hne
    subst hs
    conv => whnf
    refine clI (cJ _) ?_
    conv => whnf
    refine clI (cN _) ?_
    conv => whnf
    refine ⟨Int.le_refl _, rfl, p.av, rfl, p.cells, rfl, ?_⟩
    have hj : joinOk (p :: r) = (chainOk (textOf (p :: r)) ((p :: r).map Page.no) p.ver && samePs (p :: r) (chainPs (pieces (textOf (p :: r))) ((p :: r).map Page.no) p.ver)) := by unfold joinOk headV; simp
    cases hc : chainOk (textOf (p :: r)) ((p :: r).map Page.no) p.ver with
    | false =>
      rw [hc, if_neg (by decide)] at cC
      rw [hj, hc, Bool.false_and, if_neg (by decide)]
      conv => whnf
      refine clI (cC _) ?_
      conv => whnf
      exact retP rfl rfl
    | true =>
      rw [hc, if_pos rfl] at cC
      rw [hj, hc, Bool.true_and]
      conv => whnf
      refine clI (cC _) ?_
      conv => whnf
      refine clI (cE _) ?_
      conv => whnf
      refine brn (fun e => ?_) (fun e => ?_)
      · rw [e, if_neg (by decide)]
        conv => whnf
        exact retP rfl rfl
      · rw [e, if_pos rfl]
        conv => whnf
        exact retP rfl rfl
end
end Go.Proofs
/- The looked-up text of the functions. -/
namespace Go.Proofs
open Go Go.Abs
/- f11 understory/understoryref04.IsPage: 113 temporaries, depth 7, 1 parameters, results [t2] -/
def c11 : RC :=
 (.seq (.ops [(oP 1 (.box 25 (.t 0))),
 (oP 2 (.mv (.c (.bool false))))])
 (.seq (.seq (.ops [(oP 3 (.fieldAddr 2 (.t 1))),
 (oP 4 (.load false 1 (.t 3))),
 (oP 5 (.bin .lss (.t 4) (.c (.int .i64 0)))),
 (mV 6 5),
 (oG 7 6 false (.fieldAddr 2 (.t 1))),
 (oG 8 6 false (.load false 1 (.t 7))),
 (oG 9 6 false (.bin .gtr (.t 8) (.c (.int .i64 1099511627776)))),
 (oP 10 (.pick (.t 6) (.c (.bool true)) (.t 9))),
 (mV 11 10),
 (oG 12 11 false (.fieldAddr 1 (.t 1))),
 (oG 13 11 false (.load false 1 (.t 12))),
 (oG 14 11 false (.callF 50 [(.t 13)])),
 (oG 15 11 false (.un .not (.t 14))),
 (oP 16 (.pick (.t 11) (.c (.bool true)) (.t 15))),
 (mV 17 16),
 (oG 18 17 false (.load true 10 (.t 1))),
 (oG 19 17 false (.callF 51 [(.t 18)])),
 (oG 20 17 false (.un .not (.t 19))),
 (oP 21 (.pick (.t 17) (.c (.bool true)) (.t 20)))])
 (.cond (.t 21)
 (.seq (.ops [(oP 2 (.mv (.c (.bool false))))])
 .ret)
 .skip))
 (.seq (.seq (.ops [(oP 22 (.fieldAddr 0 (.t 1))),
 (oP 23 (.load false 1 (.t 22)))])
 (.block 0
 (.seq (.seq (.ops [(oP 25 (.bin .eql (.t 23) (.c (.int .i64 1)))),
 (mV 24 25)])
 (.cond (.t 24)
 .skip
 (.ops [(oP 26 (.bin .eql (.t 23) (.c (.int .i64 2)))),
 (mV 24 26)])))
 (.cond (.t 24)
 (.seq (.ops [(oP 27 (.fieldAddr 0 (.t 1))),
 (oP 28 (.load false 1 (.t 27))),
 (oP 29 (.bin .eql (.t 28) (.c (.int .i64 1)))),
 (oP 30 (.fieldAddr 4 (.t 1))),
 (oP 31 (.load false 1 (.t 30))),
 (oP 32 (.bin .eql (.t 31) (.c (.int .i64 0)))),
 (oP 33 (.cmp false 4 (.t 29) (.t 32))),
 (mV 34 33),
 (oG 35 34 true (.fieldAddr 3 (.t 1))),
 (oG 36 34 true (.load false 1 (.t 35))),
 (oG 37 34 true (.bin .geq (.t 36) (.c (.int .i64 0)))),
 (oP 38 (.pick (.t 34) (.t 37) (.c (.bool false)))),
 (mV 39 38),
 (oG 40 39 true (.fieldAddr 3 (.t 1))),
 (oG 41 39 true (.load false 1 (.t 40))),
 (oG 42 39 true (.bin .leq (.t 41) (.c (.int .i64 255)))),
 (oP 43 (.pick (.t 39) (.t 42) (.c (.bool false)))),
 (mV 44 43),
 (oG 45 44 true (.fieldAddr 6 (.t 1))),
 (oG 46 44 true (.load false 1 (.t 45))),
 (oG 47 44 true (.lenL (.t 46))),
 (oG 48 44 true (.bin .leq (.t 47) (.c (.int .i64 496)))),
 (oP 49 (.pick (.t 44) (.t 48) (.c (.bool false)))),
 (mV 50 49),
 (oG 51 50 true (.fieldAddr 6 (.t 1))),
 (oG 52 50 true (.load false 1 (.t 51))),
 (oG 53 50 true (.fieldAddr 4 (.t 1))),
 (oG 54 50 true (.load false 1 (.t 53))),
 (oG 55 50 true (.callF 52 [(.t 52), (.t 54)])),
 (oP 56 (.pick (.t 50) (.t 55) (.c (.bool false)))),
 (mV 2 56)])
 .ret)
 (.seq (.ops [(oP 58 (.bin .eql (.t 23) (.c (.int .i64 3)))),
 (mV 57 58)])
 (.cond (.t 57)
 (.seq (.ops [(oP 59 (.fieldAddr 7 (.t 1))),
 (oP 60 (.load false 1 (.t 59))),
 (oP 61 (.bin .eql (.t 60) (.c (.int .i64 0)))),
 (mV 62 61),
 (oG 63 62 false (.fieldAddr 7 (.t 1))),
 (oG 64 62 false (.load false 1 (.t 63))),
 (oG 65 62 false (.callF 50 [(.t 64)])),
 (oP 66 (.pick (.t 62) (.c (.bool true)) (.t 65))),
 (mV 67 66),
 (oG 68 67 true (.fieldAddr 8 (.t 1))),
 (oG 69 67 true (.load false 1 (.t 68))),
 (oG 70 67 true (.lenS (.t 69))),
 (oG 71 67 true (.bin .geq (.t 70) (.c (.int .i64 1)))),
 (oP 72 (.pick (.t 67) (.t 71) (.c (.bool false)))),
 (mV 73 72),
 (oG 74 73 true (.fieldAddr 8 (.t 1))),
 (oG 75 73 true (.load false 1 (.t 74))),
 (oG 76 73 true (.lenS (.t 75))),
 (oG 77 73 true (.bin .leq (.t 76) (.c (.int .i64 490)))),
 (oP 78 (.pick (.t 73) (.t 77) (.c (.bool false)))),
 (mV 2 78)])
 .ret)
 (.seq (.ops [(oP 80 (.bin .eql (.t 23) (.c (.int .i64 4)))),
 (mV 79 80)])
 (.cond (.t 79)
 (.seq (.ops [(oP 81 (.fieldAddr 7 (.t 1))),
 (oP 82 (.load false 1 (.t 81))),
 (oP 83 (.bin .eql (.t 82) (.c (.int .i64 0)))),
 (mV 84 83),
 (oG 85 84 false (.fieldAddr 7 (.t 1))),
 (oG 86 84 false (.load false 1 (.t 85))),
 (oG 87 84 false (.callF 50 [(.t 86)])),
 (oP 88 (.pick (.t 84) (.c (.bool true)) (.t 87))),
 (mV 89 88),
 (oG 90 89 true (.fieldAddr 9 (.t 1))),
 (oG 91 89 true (.load false 1 (.t 90))),
 (oG 92 89 true (.lenL (.t 91))),
 (oG 93 89 true (.bin .leq (.t 92) (.c (.int .i64 496)))),
 (oP 94 (.pick (.t 89) (.t 93) (.c (.bool false)))),
 (mV 95 94),
 (oG 96 95 true (.fieldAddr 9 (.t 1))),
 (oG 97 95 true (.load false 1 (.t 96))),
 (oG 98 95 true (.callF 53 [(.t 97)])),
 (oP 99 (.pick (.t 95) (.t 98) (.c (.bool false)))),
 (mV 100 99),
 (oG 101 100 true (.fieldAddr 9 (.t 1))),
 (oG 102 100 true (.load false 1 (.t 101))),
 (oG 103 100 true (.callF 54 [(.t 102)])),
 (oG 104 100 true (.bin .leq (.t 103) (.c (.int .i64 496)))),
 (oP 105 (.pick (.t 100) (.t 104) (.c (.bool false)))),
 (mV 106 105),
 (oG 107 106 true (.fieldAddr 9 (.t 1))),
 (oG 108 106 true (.load false 1 (.t 107))),
 (oG 109 106 true (.callF 55 [(.t 108)])),
 (oG 110 106 true (.lenS (.t 109))),
 (oG 111 106 true (.bin .leq (.t 110) (.c (.int .i64 492)))),
 (oP 112 (.pick (.t 106) (.t 111) (.c (.bool false)))),
 (mV 2 112)])
 .ret)
 .skip))))))))
 (.seq (.ops [(oP 2 (.mv (.c (.bool false))))])
 .ret))))
theorem F11 : FI 11 1 113 7 [.tmp 2] c11 := ⟨⟨Tryz.f11, Tryz.func11, by kernel_rfl, by kernel_rfl, by kernel_rfl⟩, by kernel_rfl, by decide, by kernel_rfl⟩
/- f13 understory/understoryref04.Encode: 36 temporaries, depth 6, 1 parameters, results [*t2] -/
def c13 : RC :=
 (.seq (.ops [(oP 1 (.box 25 (.t 0))),
 (oP 2 (.alloc 33 [(.str []), (.int .i64 0)]))])
 (.seq (.seq (.ops [(oP 4 (.load true 10 (.t 1))),
 (oP 5 (.callF 11 [(.t 4)])),
 (oP 6 (.un .not (.t 5)))])
 (.cond (.t 6)
 (.seq (.ops [(oP 7 (.build [(.str []), (.int .i64 0)] [(1, 1, (.c (.int .i64 2)))])),
 (oU (.store 2 (.t 2) (.t 7)))])
 .ret)
 .skip))
 (.seq (.draw [((oP 8 (.callF 64 [(.c (.int .i64 85)), (.c (.int .i64 1))])), 0),
 ((oP 9 (.fieldAddr 0 (.t 1))), 0),
 ((oP 10 (.load false 1 (.t 9))), 1),
 ((oP 11 (.callF 64 [(.t 10), (.c (.int .i64 1))])), 0),
 ((oP 12 (.bin .add (.t 8) (.t 11))), 0),
 ((oP 13 (.fieldAddr 1 (.t 1))), 0),
 ((oP 14 (.load false 1 (.t 13))), 1),
 ((oP 15 (.callF 64 [(.t 14), (.c (.int .i64 4))])), 0),
 ((oP 16 (.bin .add (.t 12) (.t 15))), 0),
 ((oP 17 (.fieldAddr 2 (.t 1))), 0),
 ((oP 18 (.load false 1 (.t 17))), 1),
 ((oP 19 (.callF 64 [(.t 18), (.c (.int .i64 6))])), 0),
 ((oP 20 (.bin .add (.t 16) (.t 19))), 0),
 ((oP 21 (.load true 10 (.t 1))), 1),
 ((oP 22 (.callF 65 [(.t 21)])), 0),
 ((oP 23 (.bin .add (.t 20) (.t 22))), 0),
 ((mV 3 23), 0)])
 (.seq (.ops [(mV 24 3),
 (mV 25 3),
 (oP 26 (.lenS (.t 25))),
 (oP 27 (.bin .sub (.c (.int .i64 508)) (.t 26))),
 (oP 28 (.mkSl 5 1 [(.int .u8 0)] (.t 27) (.t 27))),
 (oP 29 (.bytesStr (.t 28))),
 (oP 30 (.bin .add (.t 24) (.t 29))),
 (mV 3 30)])
 (.seq (.ops [(mV 31 3),
 (mV 32 3),
 (oP 33 (.callF 66 [(.t 32)])),
 (oP 34 (.bin .add (.t 31) (.t 33))),
 (oP 35 (.build [(.str []), (.int .i64 0)] [(0, 1, (.t 34))])),
 (oU (.store 2 (.t 2) (.t 35)))])
 .ret)))))
/- f15 understory/understoryref04.Decode: 25 temporaries, depth 5, 1 parameters, results [*t2] -/
def c15 : RC :=
 (.seq (.ops [(oP 2 (.alloc 38 [(.int .i64 0), (.int .i64 0), (.int .i64 0), (.int .i64 0), (.int .i64 0), (.bool false), (.lst 0 [] true), (.int .i64 0), (.str []), (.lst 0 [] true), (.int .i64 0)]))])
 (.seq (.seq (.ops [(mV 5 0),
 (oP 6 (.lenS (.t 5))),
 (oP 7 (.bin .neq (.t 6) (.c (.int .i64 512))))])
 (.cond (.t 7)
 (.seq (.ops [(oP 8 (.build [(.int .i64 0), (.int .i64 0), (.int .i64 0), (.int .i64 0), (.int .i64 0), (.bool false), (.lst 0 [] true), (.int .i64 0), (.str []), (.lst 0 [] true), (.int .i64 0)] [(10, 1, (.c (.int .i64 8)))])),
 (oU (.store 11 (.t 2) (.t 8)))])
 .ret)
 .skip))
 (.seq (.ops [(mV 9 0),
 (oP 10 (.callF 69 [(.t 9)])),
 (oP 3 (.alloc 25 [(.int .i64 0), (.int .i64 0), (.int .i64 0), (.int .i64 0), (.int .i64 0), (.bool false), (.lst 0 [] true), (.int .i64 0), (.str []), (.lst 0 [] true)])),
 (oU (.store 10 (.t 3) (.t 10)))])
 (.seq (.ops [(oP 11 (.load true 10 (.t 3))),
 (oP 12 (.callF 13 [(.t 11)])),
 (oP 4 (.alloc 33 [(.str []), (.int .i64 0)])),
 (oU (.store 2 (.t 4) (.t 12)))])
 (.seq (.seq (.ops [(oP 13 (.fieldAddr 1 (.t 4))),
 (oP 14 (.load false 1 (.t 13))),
 (oP 15 (.bin .neq (.t 14) (.c (.int .i64 0)))),
 (mV 16 15),
 (oG 17 16 false (.fieldAddr 0 (.t 4))),
 (oG 18 16 false (.load false 1 (.t 17))),
 (oG 19 16 false (.mv (.t 0))),
 (oG 20 16 false (.bin .neq (.t 18) (.t 19))),
 (oP 21 (.pick (.t 16) (.c (.bool true)) (.t 20)))])
 (.cond (.t 21)
 (.seq (.ops [(oP 22 (.build [(.int .i64 0), (.int .i64 0), (.int .i64 0), (.int .i64 0), (.int .i64 0), (.bool false), (.lst 0 [] true), (.int .i64 0), (.str []), (.lst 0 [] true), (.int .i64 0)] [(10, 1, (.c (.int .i64 8)))])),
 (oU (.store 11 (.t 2) (.t 22)))])
 .ret)
 .skip))
 (.seq (.ops [(oP 23 (.load true 10 (.t 3))),
 (oP 24 (.build [(.int .i64 0), (.int .i64 0), (.int .i64 0), (.int .i64 0), (.int .i64 0), (.bool false), (.lst 0 [] true), (.int .i64 0), (.str []), (.lst 0 [] true), (.int .i64 0)] [(0, 10, (.t 23))])),
 (oU (.store 11 (.t 2) (.t 24)))])
 .ret))))))
/- f17 understory/understoryref04.Same: 71 temporaries, depth 7, 2 parameters, results [t4] -/
def c17 : RC :=
 (.seq (.ops [(oP 2 (.box 25 (.t 0))),
 (oP 3 (.box 25 (.t 1))),
 (oP 4 (.mv (.c (.bool false))))])
 (.seq (.seq (.ops [(oP 5 (.fieldAddr 0 (.t 2))),
 (oP 6 (.load false 1 (.t 5))),
 (oP 7 (.fieldAddr 0 (.t 3))),
 (oP 8 (.load false 1 (.t 7))),
 (oP 9 (.bin .neq (.t 6) (.t 8))),
 (mV 10 9),
 (oG 11 10 false (.fieldAddr 1 (.t 2))),
 (oG 12 10 false (.load false 1 (.t 11))),
 (oG 13 10 false (.fieldAddr 1 (.t 3))),
 (oG 14 10 false (.load false 1 (.t 13))),
 (oG 15 10 false (.bin .neq (.t 12) (.t 14))),
 (oP 16 (.pick (.t 10) (.c (.bool true)) (.t 15))),
 (mV 17 16),
 (oG 18 17 false (.fieldAddr 2 (.t 2))),
 (oG 19 17 false (.load false 1 (.t 18))),
 (oG 20 17 false (.fieldAddr 2 (.t 3))),
 (oG 21 17 false (.load false 1 (.t 20))),
 (oG 22 17 false (.bin .neq (.t 19) (.t 21))),
 (oP 23 (.pick (.t 17) (.c (.bool true)) (.t 22))),
 (mV 24 23),
 (oG 25 24 false (.fieldAddr 3 (.t 2))),
 (oG 26 24 false (.load false 1 (.t 25))),
 (oG 27 24 false (.fieldAddr 3 (.t 3))),
 (oG 28 24 false (.load false 1 (.t 27))),
 (oG 29 24 false (.bin .neq (.t 26) (.t 28))),
 (oP 30 (.pick (.t 24) (.c (.bool true)) (.t 29))),
 (mV 31 30),
 (oG 32 31 false (.fieldAddr 4 (.t 2))),
 (oG 33 31 false (.load false 1 (.t 32))),
 (oG 34 31 false (.fieldAddr 4 (.t 3))),
 (oG 35 31 false (.load false 1 (.t 34))),
 (oG 36 31 false (.bin .neq (.t 33) (.t 35))),
 (oP 37 (.pick (.t 31) (.c (.bool true)) (.t 36))),
 (mV 38 37),
 (oG 39 38 false (.fieldAddr 5 (.t 2))),
 (oG 40 38 false (.load false 1 (.t 39))),
 (oG 41 38 false (.fieldAddr 5 (.t 3))),
 (oG 42 38 false (.load false 1 (.t 41))),
 (oG 43 38 false (.cmp true 4 (.t 40) (.t 42))),
 (oP 44 (.pick (.t 38) (.c (.bool true)) (.t 43))),
 (mV 45 44),
 (oG 46 45 false (.fieldAddr 7 (.t 2))),
 (oG 47 45 false (.load false 1 (.t 46))),
 (oG 48 45 false (.fieldAddr 7 (.t 3))),
 (oG 49 45 false (.load false 1 (.t 48))),
 (oG 50 45 false (.bin .neq (.t 47) (.t 49))),
 (oP 51 (.pick (.t 45) (.c (.bool true)) (.t 50))),
 (mV 52 51),
 (oG 53 52 false (.fieldAddr 8 (.t 2))),
 (oG 54 52 false (.load false 1 (.t 53))),
 (oG 55 52 false (.fieldAddr 8 (.t 3))),
 (oG 56 52 false (.load false 1 (.t 55))),
 (oG 57 52 false (.bin .neq (.t 54) (.t 56))),
 (oP 58 (.pick (.t 52) (.c (.bool true)) (.t 57)))])
 (.cond (.t 58)
 (.seq (.ops [(oP 4 (.mv (.c (.bool false))))])
 .ret)
 .skip))
 (.seq (.ops [(oP 59 (.fieldAddr 6 (.t 2))),
 (oP 60 (.load false 1 (.t 59))),
 (oP 61 (.fieldAddr 6 (.t 3))),
 (oP 62 (.load false 1 (.t 61))),
 (oP 63 (.callF 77 [(.t 60), (.t 62)])),
 (mV 64 63),
 (oG 65 64 true (.fieldAddr 9 (.t 2))),
 (oG 66 64 true (.load false 1 (.t 65))),
 (oG 67 64 true (.fieldAddr 9 (.t 3))),
 (oG 68 64 true (.load false 1 (.t 67))),
 (oG 69 64 true (.callF 44 [(.t 66), (.t 68)])),
 (oP 70 (.pick (.t 64) (.t 69) (.c (.bool false)))),
 (mV 4 70)])
 .ret)))
theorem F17 : FI 17 2 71 7 [.tmp 4] c17 := ⟨⟨Tryz.f17, Tryz.func17, by kernel_rfl, by kernel_rfl, by kernel_rfl⟩, by kernel_rfl, by decide, by kernel_rfl⟩
/- f44 understory/understoryref04.SameFreed: 42 temporaries, depth 6, 2 parameters, results [t4] -/
def c44 : RC :=
 (.seq (.ops [(oP 4 (.mv (.c (.bool false))))])
 (.seq (.seq (.ops [(mV 6 0),
 (oP 7 (.lenL (.t 6))),
 (mV 8 1),
 (oP 9 (.lenL (.t 8))),
 (oP 10 (.bin .neq (.t 7) (.t 9)))])
 (.cond (.t 10)
 (.seq (.ops [(oP 4 (.mv (.c (.bool false))))])
 .ret)
 .skip))
 (.seq (.seq (.ops [(oP 5 (.mv (.c (.int .i64 0))))])
 (.block 0
 (.loop
 (.seq (.seq (.ops [(mV 11 5),
 (mV 12 0),
 (oP 13 (.lenL (.t 12))),
 (oP 14 (.bin .lss (.t 11) (.t 13)))])
 (.cond (.t 14)
 .skip
 (.exit 0)))
 (.seq (.block 1
 (.seq (.draw [((mV 17 0), 0),
 ((mV 18 5), 0),
 ((oP 19 (.indexAddrL 2 (.t 17) (.t 18))), 0),
 ((oP 20 (.fieldAddr 0 (.t 19))), 0),
 ((oP 21 (.load false 1 (.t 20))), 1),
 ((mV 22 1), 0),
 ((mV 23 5), 0),
 ((oP 24 (.indexAddrL 2 (.t 22) (.t 23))), 0),
 ((oP 25 (.fieldAddr 0 (.t 24))), 0),
 ((oP 26 (.load false 1 (.t 25))), 1),
 ((oP 27 (.bin .neq (.t 21) (.t 26))), 0),
 ((mV 28 27), 0),
 ((oG 29 28 false (.mv (.t 0))), 0),
 ((oG 30 28 false (.mv (.t 5))), 0),
 ((oG 31 28 false (.indexAddrL 2 (.t 29) (.t 30))), 0),
 ((oG 32 28 false (.fieldAddr 1 (.t 31))), 0),
 ((oG 33 28 false (.load false 1 (.t 32))), 1),
 ((oG 34 28 false (.mv (.t 1))), 0),
 ((oG 35 28 false (.mv (.t 5))), 0),
 ((oG 36 28 false (.indexAddrL 2 (.t 34) (.t 35))), 0),
 ((oG 37 28 false (.fieldAddr 1 (.t 36))), 0),
 ((oG 38 28 false (.load false 1 (.t 37))), 1),
 ((oG 39 28 false (.callF 103 [(.t 33), (.t 38)])), 0),
 ((oG 40 28 false (.un .not (.t 39))), 0),
 ((oP 41 (.pick (.t 28) (.c (.bool true)) (.t 40))), 0)])
 (.cond (.t 41)
 (.seq (.ops [(oP 4 (.mv (.c (.bool false))))])
 .ret)
 .skip)))
 (.ops [(mV 15 5),
 (oP 16 (.bin .add (.t 15) (.c (.int .i64 1)))),
 (mV 5 16)]))))))
 (.cut (.seq (.ops [(oP 4 (.mv (.c (.bool true))))])
 .ret)))))
theorem F44 : FI 44 2 42 6 [.tmp 4] c44 := ⟨⟨Tryz.f44, Tryz.func44, by kernel_rfl, by kernel_rfl, by kernel_rfl⟩, by kernel_rfl, by decide, by kernel_rfl⟩
/- f50 understory/understoryref04.isPage: 9 temporaries, depth 4, 1 parameters, results [t2] -/
/- f51 understory/understoryref04.plain: 62 temporaries, depth 6, 1 parameters, results [t2] -/
/- f52 understory/understoryref04.Fits: 15 temporaries, depth 5, 2 parameters, results [t4] -/
/- f53 understory/understoryref04.freed: 77 temporaries, depth 7, 1 parameters, results [t2] -/
/- f54 understory/understoryref04.words: 21 temporaries, depth 5, 1 parameters, results [t2] -/
/- f55 understory/understoryref04.list: 53 temporaries, depth 6, 1 parameters, results [t2] -/
/- f64 understory/understoryref04.Number: 25 temporaries, depth 5, 2 parameters, results [t4] -/
/- f65 understory/understoryref04.body: 60 temporaries, depth 6, 1 parameters, results [t2] -/
/- f66 understory/understoryref04.Crc: 8 temporaries, depth 4, 1 parameters, results [t2] -/
/- f69 understory/understoryref04.read: 135 temporaries, depth 8, 1 parameters, results [*t2] -/
/- f77 understory/understoryref04.SameEntries: 26 temporaries, depth 5, 2 parameters, results [t4] -/
def c77 : RC :=
 (.seq (.ops [(oP 4 (.mv (.c (.bool false))))])
 (.seq (.seq (.ops [(mV 6 0),
 (oP 7 (.lenL (.t 6))),
 (mV 8 1),
 (oP 9 (.lenL (.t 8))),
 (oP 10 (.bin .neq (.t 7) (.t 9)))])
 (.cond (.t 10)
 (.seq (.ops [(oP 4 (.mv (.c (.bool false))))])
 .ret)
 .skip))
 (.seq (.seq (.ops [(oP 5 (.mv (.c (.int .i64 0))))])
 (.block 0
 (.loop
 (.seq (.seq (.ops [(mV 11 5),
 (mV 12 0),
 (oP 13 (.lenL (.t 12))),
 (oP 14 (.bin .lss (.t 11) (.t 13)))])
 (.cond (.t 14)
 .skip
 (.exit 0)))
 (.seq (.block 1
 (.seq (.draw [((mV 17 0), 0),
 ((mV 18 5), 0),
 ((oP 19 (.indexAddrL 22 (.t 17) (.t 18))), 0),
 ((oP 20 (.load true 22 (.t 19))), 1),
 ((mV 21 1), 0),
 ((mV 22 5), 0),
 ((oP 23 (.indexAddrL 22 (.t 21) (.t 22))), 0),
 ((oP 24 (.load true 22 (.t 23))), 1),
 ((oP 25 (.cmp true 56 (.t 20) (.t 24))), 0)])
 (.cond (.t 25)
 (.seq (.ops [(oP 4 (.mv (.c (.bool false))))])
 .ret)
 .skip)))
 (.ops [(mV 15 5),
 (oP 16 (.bin .add (.t 15) (.c (.int .i64 1)))),
 (mV 5 16)]))))))
 (.cut (.seq (.ops [(oP 4 (.mv (.c (.bool true))))])
 .ret)))))
theorem F77 : FI 77 2 26 5 [.tmp 4] c77 := ⟨⟨Tryz.f77, Tryz.func77, by kernel_rfl, by kernel_rfl, by kernel_rfl⟩, by kernel_rfl, by decide, by kernel_rfl⟩
/- f79 understory/understoryref04.number: 19 temporaries, depth 5, 1 parameters, results [t2] -/
/- f103 understory/understoryref04.SameInts: 26 temporaries, depth 5, 2 parameters, results [t4] -/
def c103 : RC :=
 (.seq (.ops [(oP 4 (.mv (.c (.bool false))))])
 (.seq (.seq (.ops [(mV 6 0),
 (oP 7 (.lenL (.t 6))),
 (mV 8 1),
 (oP 9 (.lenL (.t 8))),
 (oP 10 (.bin .neq (.t 7) (.t 9)))])
 (.cond (.t 10)
 (.seq (.ops [(oP 4 (.mv (.c (.bool false))))])
 .ret)
 .skip))
 (.seq (.seq (.ops [(oP 5 (.mv (.c (.int .i64 0))))])
 (.block 0
 (.loop
 (.seq (.seq (.ops [(mV 11 5),
 (mV 12 0),
 (oP 13 (.lenL (.t 12))),
 (oP 14 (.bin .lss (.t 11) (.t 13)))])
 (.cond (.t 14)
 .skip
 (.exit 0)))
 (.seq (.block 1
 (.seq (.draw [((mV 17 0), 0),
 ((mV 18 5), 0),
 ((oP 19 (.indexAddrL 1 (.t 17) (.t 18))), 0),
 ((oP 20 (.load false 1 (.t 19))), 1),
 ((mV 21 1), 0),
 ((mV 22 5), 0),
 ((oP 23 (.indexAddrL 1 (.t 21) (.t 22))), 0),
 ((oP 24 (.load false 1 (.t 23))), 1),
 ((oP 25 (.bin .neq (.t 20) (.t 24))), 0)])
 (.cond (.t 25)
 (.seq (.ops [(oP 4 (.mv (.c (.bool false))))])
 .ret)
 .skip)))
 (.ops [(mV 15 5),
 (oP 16 (.bin .add (.t 15) (.c (.int .i64 1)))),
 (mV 5 16)]))))))
 (.cut (.seq (.ops [(oP 4 (.mv (.c (.bool true))))])
 .ret)))))
theorem F103 : FI 103 2 26 5 [.tmp 4] c103 := ⟨⟨Tryz.f103, Tryz.func103, by kernel_rfl, by kernel_rfl, by kernel_rfl⟩, by kernel_rfl, by decide, by kernel_rfl⟩
/- f106 understory/understoryref04.Valid: 105 temporaries, depth 7, 2 parameters, results [t4] -/
/- f107 understory/understoryref04.Weight: 72 temporaries, depth 7, 2 parameters, results [*t4] -/
/- f113 understory/understoryref04.flag: 4 temporaries, depth 3, 1 parameters, results [t2] -/
/- f114 understory/understoryref04.Prefix: 56 temporaries, depth 6, 2 parameters, results [t4] -/
/- f115 understory/understoryref04.entries: 59 temporaries, depth 6, 3 parameters, results [t6] -/
/- f116 understory/understoryref04.reversed: 26 temporaries, depth 5, 1 parameters, results [t2] -/
/- f117 understory/understoryref02.CRC: 5 temporaries, depth 3, 1 parameters, results [t2] -/
/- f120 (*understory/understoryref04.reader).num: 9 temporaries, depth 4, 2 parameters, results [t4] -/
/- f121 (*understory/understoryref04.reader).take: 42 temporaries, depth 6, 2 parameters, results [t4] -/
/- f122 (*understory/understoryref04.reader).entry: 69 temporaries, depth 7, 4 parameters, results [*t8] -/
/- f141 understory/understoryref04.leafEntry: 85 temporaries, depth 7, 1 parameters, results [t2] -/
/- f142 understory/understoryref04.branchEntry: 26 temporaries, depth 5, 1 parameters, results [t2] -/
/- f143 understory/understoryref04.rest: 57 temporaries, depth 6, 2 parameters, results [t4] -/
/- f150 understory/understoryref04.suffix: 23 temporaries, depth 5, 3 parameters, results [t6] -/
/- f151 understory/understoryref02.Extend: 30 temporaries, depth 5, 2 parameters, results [t4] -/
/- f153 (*understory/understoryref04.reader).digest: 20 temporaries, depth 5, 1 parameters, results [*t2] -/
/- f165 understory/understoryref04.count: 9 temporaries, depth 4, 1 parameters, results [t2] -/
/- f166 understory/understoryref04.sum: 5 temporaries, depth 3, 1 parameters, results [t2] -/
/- f169 understory/understoryref02.step: 11 temporaries, depth 4, 1 parameters, results [t2] -/
end Go.Proofs
/- Contracts: the reference's entries. -/
set_option linter.unusedVariables false
set_option linter.unusedSimpArgs false
namespace Go.Proofs
open Go Go.Abs
section
variable {n : Nat} {h : AHeap}
end
end Go.Proofs
/- The reference's reader, in plain Lean. -/
set_option linter.unusedVariables false
set_option linter.unusedSimpArgs false
namespace Go.Proofs
open Go Go.Abs
/-! Where the parser reads, the reference reads the same. -/
end Go.Proofs
/- Plain facts for the reference: what it encodes, what is no block of a page. -/
set_option linter.unusedVariables false
set_option linter.unusedSimpArgs false
namespace Go.Proofs
open Go Go.Abs
end Go.Proofs
/- The checksum finds bytes that are changed within four positions. -/
set_option linter.unusedVariables false
set_option linter.unusedSimpArgs false
namespace Go.Proofs
open Go Go.Abs
/-- Bytes as a number, the least significant one first. -/
def le : Str → UInt32
  | [] => 0
  | b :: r => b.toUInt32 ^^^ (le r <<< 8)
end Go.Proofs
