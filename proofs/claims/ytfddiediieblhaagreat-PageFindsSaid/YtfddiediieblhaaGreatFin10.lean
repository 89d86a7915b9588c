/- Texts put together: Wg, Gc, Wr0, Wr, Gd, Ge, Hb, Rn, Ro, Hc, Hd, Kb. -/
import Derived.Test.YtfddiediieblhaaGreatFin9
import Derived.Test.YtfddiediieblhaaGreatFin7
import Derived.Test.YtfddiediieblhaaGreatFin8
/- Contracts: nodes that are written into a builder (the walk). -/
set_option linter.unusedVariables false
set_option linter.unusedSimpArgs false
namespace Go.Proofs
open Go Go.Abs
def zeroE : Entry := ⟨[], [], 0, 0, 0, 0, Dg.zero⟩
def nodeXs (tree lv : Int) (top : Bool) (l : List Entry) (sz : Nat) (c : Bool) : List AV := [i64 tree, i64 lv, .bool top, .lst sz (l.map Entry.av) c]
section
variable {n : Nat} {hp : AHeap} {b : Nat} {bs : Str} {F : List Nat} {K X : AV → AHeap → Prop}

theorem node_eq (hn : 5 ≤ n) (w : BW hp b bs F) (tree lv : Int) (top : Bool) (h0 : 0 ≤ tree) (l : List Entry) (sz : Nat) (hz : l ≠ [] → sz = 22) (c : Bool) (hv : valid l lv = true) (hl : l.length ≤ 1000) (hbs : bs.length ≤ 1000) :
    ∃ hp' F', C n 220 [.agg (nodeXs tree lv top l sz c), .ptr b 0 0] hp = some (.ret (.tup []), hp') ∧ Wrote hp hp' b F F' (bs ++ nodeB tree lv top l bs.length) := by
  obtain ⟨m, rfl⟩ : ∃ m, n = m + 1 := ⟨n - 1, by omega⟩
  have := fun_inlR (n := m) (c := cfg0) (args := [.agg (nodeXs tree lv top l sz c), .ptr b 0 0]) (h := hp) (R := fun v hp' => v = .tup [] ∧ ∃ F', Wrote hp hp' b F F' (bs ++ nodeB tree lv top l bs.length)) F220 rfl rfl ?_
  · obtain ⟨v, hp', e, rfl, F', hW⟩ := this
    exact ⟨hp', F', e, hW⟩
  obtain ⟨⟨lv0, lv20⟩, hne, _, _⟩ := valid_iff.1 hv
  have hnn := valid_nn hv
  have hpre := shared_len hv
  obtain ⟨w1, e1, ne1⟩ := w.app (.cells 0 (some 178) (nodeXs tree lv top l sz c) 0)
  conv => whnf
  refine ldI e1 ?_
  conv => whnf
  refine ldI e1 ?_
  conv => whnf
  refine clI (shared_eq (n := m) (by omega) l (by omega) (fun e h => by have := hnn e h; exact ⟨by omega, by omega⟩) lv (valid_tail hv) sz hz c) ?_
  conv => whnf
  refine ldI e1 ?_
  conv => whnf
  refine numC (n := m) (hp := hp ++ [.cells 0 (some 178) (nodeXs tree lv top l sz c) 0]) (by omega) w1 tree h0 1 (by omega) (by omega) fun h2 F2 w2 => ?_
  have e2 := (w2.keep e1 ne1).1
  have ne2 := (w2.keep e1 ne1).2
  conv => whnf
  refine ldI e2 ?_
  conv => whnf
  refine numC (n := m) (hp := h2) (by omega) w2.1 lv (by omega) 1 (by omega) (by simp only [List.length_append, num_len]; omega) fun h3 F3 w3 => ?_
  have e3 := (w3.keep e2 ne2).1
  have ne3 := (w3.keep e2 ne2).2
  have rest : ∀ (k : Int) (s' : LS), k = (if top then 1 else 0) → LS.sub ⟨[(1, .ptr b 0 0), (2, .ptr hp.length 0 0), (4, .str (shared l lv)), (5, i64 k)], h3, []⟩ s' →
      OkR Tryz.prog (C m) cfg0.inl KK 86 7 (cutOf c220) s' (RetQ Tryz.prog [] fun v hp' => v = .tup [] ∧ ∃ F', Wrote hp hp' b F F' (bs ++ nodeB tree lv top l bs.length)) := by
    intro k s' hk hs'
    have hk01 : 0 ≤ k ∧ k ≤ 1 := by subst hk; split <;> omega
    refine cutI (by decide) rfl hs' ?_
    conv => whnf
    refine numC (n := m) (hp := h3) (by omega) w3.1 k (by omega) 1 (by omega) (by simp only [List.length_append, num_len]; omega) fun h4 F4 w4 => ?_
    have e4 := (w4.keep e3 ne3).1
    have ne4 := (w4.keep e3 ne3).2
    conv => whnf
    refine numC (n := m) (hp := h4) (by omega) w4.1 ((shared l lv).length : Int) (by omega) 1 (by omega) (by simp only [List.length_append, num_len]; omega) fun h5 F5 w5 => ?_
    have e5 := (w5.keep e4 ne4).1
    have ne5 := (w5.keep e4 ne4).2
    conv => whnf
    refine ldI e5 ?_
    conv => whnf
    have el : ((l.map Entry.av).length : Int) = (l.length : Int) := by rw [List.length_map]
    rw [el]
    refine numC (n := m) (hp := h5) (by omega) w5.1 (l.length : Int) (by omega) 2 (by omega) (by simp only [List.length_append, num_len]; omega) fun h6 F6 w6 => ?_
    have e6 := (w6.keep e5 ne5).1
    have ne6 := (w6.keep e5 ne5).2
    conv => whnf
    refine strC (n := m) (hp := h6) (by omega) w6.1 (shared l lv) (by simp only [List.length_append, num_len]; omega) fun h7 F7 w7 => ?_
    have e7 := (w7.keep e6 ne6).1
    have ne7 := (w7.keep e6 ne6).2
    have W7 := ((w2.trans (w3.trans (w4.trans (w5.trans (w6.trans w7))))).of_app)
    obtain ⟨w8, a8, na8⟩ := w7.1.app (.cells 0 (some 117) [.nilp, .lst 0 [] true] 0)
    have e8 := get_app (x := .cells 0 (some 117) [.nilp, .lst 0 [] true] 0) e7
    have hA : h7.length ∉ F7 := na8
    have hlen : hp.length ≤ h7.length := W7.2.1.1
    have hlen8 : (bs ++ num tree.toNat 1 ++ num lv.toNat 1 ++ num k.toNat 1 ++ num ((shared l lv).length : Int).toNat 1 ++ num (l.length : Int).toNat 2 ++ shared l lv).length = bs.length + 6 + (shared l lv).length := by
      simp only [List.length_append, num_len]
    conv => whnf
    refine ldI e8 ?_
    conv => whnf
    rw [el]
    refine zI (z := 2 * (l.length : Int)) (wrap_i64 (by omega) (by omega)) ?_
    conv => whnf
    refine clI (Len_eq (n := m) (by omega) w8) ?_
    conv => whnf
    refine ⟨?_, ?_⟩
    · conv => whnf
      exact ldI e8 rfl
    conv => whnf
    refine zI (z := ((bs.length + 6 + (shared l lv).length + 2 * l.length : Nat) : Int)) (by rw [hlen8, wrap_i64 (by omega) (by omega)]; omega) ?_
    conv => whnf
    refine ldI e8 ?_
    conv => whnf
    refine loopI (by decide) rfl (α := Nat × List Nat × List Nat × AHeap) (fun x => ⟨[(1, .ptr b 0 0), (2, .ptr hp.length 0 0), (4, .str (shared l lv)), (6, .ptr h7.length 0 0), (7, i64 (bs.length + 6 + (shared l lv).length + 2 * l.length : Nat)), (53, .lst sz (l.map Entry.av) c), (54, i64 l.length), (55, i64 x.1)], x.2.2.2, []⟩)
      (fun x => x.1 ≤ l.length ∧ Wrote hp x.2.2.2 b F x.2.1 (bs ++ (num tree.toNat 1 ++ (num lv.toNat 1 ++ (num k.toNat 1 ++ (num (shared l lv).length 1 ++ (num l.length 2 ++ (shared l lv ++ offsB l lv (bs.length + 6 + (shared l lv).length + 2 * l.length) x.1))))))) ∧ BW x.2.2.2 h7.length (entsB l lv x.1) x.2.2.1 ∧
        (∀ y ∈ x.2.2.1, hp.length < y ∧ y ∉ x.2.1) ∧ x.2.2.2[hp.length]? = some (.cells 0 (some 178) (nodeXs tree lv top l sz c) 0) ∧ hp.length ∉ x.2.1) (fun x => l.length - x.1) (0, F7, [h7.length], h7 ++ [.cells 0 (some 117) [.nilp, .lst 0 [] true] 0]) ⟨⟨rfl, rfl, rfl, rfl, rfl, rfl, lenI _ _, rfl⟩, rfl, rfl⟩ ?_ (by show l.length - 0 < KK; simp only [KK]; omega) ?_
    · refine ⟨Nat.zero_le _, ?_, ⟨_, _, _, a8, .inl rfl, .inr rfl, .inl ⟨rfl, rfl, rfl⟩⟩, ?_, e8, ne7⟩
      · have W8 : Wrote hp (h7 ++ [.cells 0 (some 117) [.nilp, .lst 0 [] true] 0]) b F F7 _ := ⟨w8, W7.2.1.trans ((Keep.app h7 _ []).mono (by simp)) (fun x hx => .inl hx), W7.2.2⟩
        simpa [offsB, List.append_assoc] using W8
      · intro y hy
        simp at hy
        subst hy
        exact ⟨lt_of_get e7, hA⟩
    rintro ⟨j, G, GA, h⟩ ⟨g1, g2, g3, g4, g5, g6⟩
    simp only at g1 g2 g3 g4 g5 g6
    conv => whnf
    refine brd (fun a => ?_) (fun a => ?_)
    · have hj : j < l.length := by simp only at a; omega
      have hk' := hnn _ (List.getElem_mem hj)
      have hE1 := entsB_len hv j (by omega)
      have hO := offsB_len l lv (bs.length + 6 + (shared l lv).length + 2 * l.length) j
      obtain ⟨u0, x0, nx0⟩ := g2.1.app (.cells 0 (some 56) l[j].cells 0)
      have v0 := g3.stays (Keep.app h (.cells 0 (some 56) l[j].cells 0) []) (by simp)
      have nxA : h.length ∉ GA := fun q => by have := g3.lt _ q; omega
      have y0 := get_app (x := .cells 0 (some 56) l[j].cells 0) g5
      have es : (h ++ [AB.cells 0 (some 56) zeroE.cells 0]).set h.length (.cells 0 (some 56) l[j].cells 0) = h ++ [.cells 0 (some 56) l[j].cells 0] := by simp
      have u1 := es ▸ u0
      have x1 := es ▸ x0
      have v1 := es ▸ v0
      have y1 := es ▸ y0
      conv => whnf
      refine ixL entry_cells hj hz ?_
      conv => whnf
      refine stI (get_last _ _) (by rfl) (by rfl) (by rfl) (by rfl) ?_
      conv => whnf
      refine clI (Len_eq (n := m) (hp := (h ++ [AB.cells 0 (some 56) zeroE.cells 0]).set h.length (.cells 0 (some 56) l[j].cells 0)) (by omega) v1) ?_
      conv => whnf
      refine zI (z := (((bs.length + 6 + (shared l lv).length + 2 * l.length) + (entsB l lv j).length : Nat) : Int)) (by rw [wrap_i64 (by omega) (by omega)]; omega) ?_
      conv => whnf
      refine numC (n := m) (hp := (h ++ [AB.cells 0 (some 56) zeroE.cells 0]).set h.length (.cells 0 (some 56) l[j].cells 0)) (by omega) u1 _ (by omega) 2 (by omega) (by simp only [List.length_append, num_len, hO]; omega) fun h9 G9 w9 => ?_
      have x9 := (w9.keep x1 nx0).1
      have y9 := (w9.keep y1 g6).1
      have ny9 := (w9.keep y1 g6).2
      have v9 := v1.stays w9.2.1 fun x hx => (g4 x hx).2
      have w9' : Wrote h h9 b G G9 _ := Wrote.of_app (es ▸ w9)
      have W9 := g2.trans w9'
      have ap : ∀ x ∈ GA, x ∉ G9 := w9'.apart (fun x hx => (g4 x hx).2) g3.lt
      have call : ∀ {Q : Ex → LS → Prop} (cc : Nat) (s' : LS), cc = cutAt l lv j → LS.sub ⟨[(1, .ptr b 0 0), (2, .ptr hp.length 0 0), (4, .str (shared l lv)), (6, .ptr h7.length 0 0), (7, i64 ((bs.length + 6 + (shared l lv).length + 2 * l.length) : Nat)), (9, .ptr h.length 0 0), (10, i64 cc), (53, .lst sz (l.map Entry.av) c), (54, i64 l.length), (55, i64 j)], h9, []⟩ s' →
          (∀ h10 GA10, Wrote h9 h10 h7.length GA GA10 (entsB l lv j ++ entB (cutAt l lv j) l[j] lv) → ∀ L, subL [(1, .ptr b 0 0), (2, .ptr hp.length 0 0), (4, .str (shared l lv)), (6, .ptr h7.length 0 0), (7, i64 ((bs.length + 6 + (shared l lv).length + 2 * l.length) : Nat)), (53, .lst sz (l.map Entry.av) c), (54, i64 l.length), (55, i64 j)] L → Q .norm ⟨L, h10, []⟩) →
          OkR Tryz.prog (C m) cfg0.inl KK 86 7 (cutOf (c220.lp 0)) s' Q := by
        intro Q cc s' hcc hs' hQ
        subst hcc
        obtain ⟨h10, GA10, e10, w10⟩ := entry_eq (n := m) (by omega) v9 (nodeXs tree lv top l sz c) lv rfl rfl l[j] hk'.1 (cutAt l lv j) (cutAt_le hj) (by omega)
        refine cutI (by decide) rfl hs' ?_
        conv => whnf
        refine ldI y9 ?_
        conv => whnf
        refine ldI x9 ?_
        conv => whnf
        refine clI e10 ?_
        exact hQ h10 GA10 w10 _ ⟨rfl, rfl, rfl, rfl, rfl, rfl, rfl, rfl⟩
      have next : ∀ (L : LT) (h10 : AHeap) (GA10 : List Nat), Wrote h9 h10 h7.length GA GA10 (entsB l lv j ++ entB (cutAt l lv j) l[j] lv) →
          (Wrote hp h10 b F G9 (bs ++ (num tree.toNat 1 ++ (num lv.toNat 1 ++ (num k.toNat 1 ++ (num (shared l lv).length 1 ++ (num l.length 2 ++ (shared l lv ++ offsB l lv (bs.length + 6 + (shared l lv).length + 2 * l.length) (j + 1)))))))) ∧ BW h10 h7.length (entsB l lv (j + 1)) GA10 ∧
          (∀ y ∈ GA10, hp.length < y ∧ y ∉ G9) ∧ h10[hp.length]? = some (.cells 0 (some 178) (nodeXs tree lv top l sz c) 0) ∧ hp.length ∉ G9) := by
        intro L h10 GA10 w10
        refine ⟨?_, ?_, ?_, ?_, ny9⟩
        · have := W9.other w10 (fun x hx => by have := (g4 x hx).1; omega) (fun x hx q => ap x q hx)
          rw [offsB_succ]
          rw [Int.toNat_natCast] at this
          simpa only [List.append_assoc] using this
        · rw [entsB_succ l lv hj]; exact w10.1
        · intro y hy
          rcases w10.2.2 y hy with q | q
          · exact ⟨(g4 y q).1, ap y q⟩
          · refine ⟨?_, fun q2 => ?_⟩
            · have := lt_of_get y9; omega
            · have := W9.1.lt y q2; omega
        · exact (w10.keep y9 (fun q => by have := (g4 _ q).1; omega)).1
      conv => whnf
      refine bre (fun e => ?_) (fun e => ?_)
      · conv => whnf
        refine ldI y9 ?_
        conv => whnf
        refine brd (fun d => ?_) (fun d => ?_)
        · refine call 0 _ (by unfold cutAt; rw [if_pos ⟨by omega, d⟩]) ⟨⟨rfl, rfl, rfl, rfl, rfl, rfl, rfl, rfl, rfl, rfl⟩, rfl, rfl⟩ fun h10 GA10 w10 L hL => ?_
          refine cutI (by decide) rfl (t := ⟨[(1, .ptr b 0 0), (2, .ptr hp.length 0 0), (4, .str (shared l lv)), (6, .ptr h7.length 0 0), (7, i64 (bs.length + 6 + (shared l lv).length + 2 * l.length : Nat)), (53, .lst sz (l.map Entry.av) c), (54, i64 l.length), (55, i64 j)], h10, []⟩) ⟨hL, rfl, rfl⟩ ?_
          conv => whnf
          refine zI (z := ((j + 1 : Nat) : Int)) (by rw [wrap_i64 (by omega) (by omega)]; rfl) ?_
          exact nxI (j + 1, G9, GA10, h10) ⟨hj, next [] h10 GA10 w10⟩ (by simp only; omega) ⟨⟨rfl, rfl, rfl, rfl, rfl, rfl, rfl, rfl⟩, rfl, rfl⟩
        · refine call (shared l lv).length _ (by unfold cutAt; rw [if_neg (fun q => d q.2)]) ⟨⟨rfl, rfl, rfl, rfl, rfl, rfl, rfl, rfl, rfl, rfl⟩, rfl, rfl⟩ fun h10 GA10 w10 L hL => ?_
          refine cutI (by decide) rfl (t := ⟨[(1, .ptr b 0 0), (2, .ptr hp.length 0 0), (4, .str (shared l lv)), (6, .ptr h7.length 0 0), (7, i64 (bs.length + 6 + (shared l lv).length + 2 * l.length : Nat)), (53, .lst sz (l.map Entry.av) c), (54, i64 l.length), (55, i64 j)], h10, []⟩) ⟨hL, rfl, rfl⟩ ?_
          conv => whnf
          refine zI (z := ((j + 1 : Nat) : Int)) (by rw [wrap_i64 (by omega) (by omega)]; rfl) ?_
          exact nxI (j + 1, G9, GA10, h10) ⟨hj, next [] h10 GA10 w10⟩ (by simp only; omega) ⟨⟨rfl, rfl, rfl, rfl, rfl, rfl, rfl, rfl⟩, rfl, rfl⟩
      · conv => whnf
        refine call (shared l lv).length _ (by unfold cutAt; rw [if_neg (fun q => e (by omega))]) ⟨⟨rfl, rfl, rfl, rfl, rfl, rfl, rfl, rfl, rfl, rfl⟩, rfl, rfl⟩ fun h10 GA10 w10 L hL => ?_
        refine cutI (by decide) rfl (t := ⟨[(1, .ptr b 0 0), (2, .ptr hp.length 0 0), (4, .str (shared l lv)), (6, .ptr h7.length 0 0), (7, i64 (bs.length + 6 + (shared l lv).length + 2 * l.length : Nat)), (53, .lst sz (l.map Entry.av) c), (54, i64 l.length), (55, i64 j)], h10, []⟩) ⟨hL, rfl, rfl⟩ ?_
        conv => whnf
        refine zI (z := ((j + 1 : Nat) : Int)) (by rw [wrap_i64 (by omega) (by omega)]; rfl) ?_
        exact nxI (j + 1, G9, GA10, h10) ⟨hj, next [] h10 GA10 w10⟩ (by simp only; omega) ⟨⟨rfl, rfl, rfl, rfl, rfl, rfl, rfl, rfl⟩, rfl, rfl⟩
    · have hj : j = l.length := by simp only at a; omega
      subst hj
      have hne2 : entsB l lv l.length ≠ [] := by
        obtain ⟨q, hq⟩ : ∃ q, l.length = q + 1 := ⟨l.length - 1, by cases l with | nil => exact (hne rfl).elim | cons => simp⟩
        rw [hq, entsB_succ l lv (by omega)]
        intro e
        have := congrArg List.length e
        have h2 := (entB_len (cutAt l lv q) (l[q]'(by omega)) lv).2
        rw [List.length_append] at this
        simp only [List.length_nil] at this
        omega
      have hE1 := entsB_len hv l.length (by omega)
      have hO := offsB_len l lv (bs.length + 6 + (shared l lv).length + 2 * l.length) l.length
      obtain ⟨h10, e10, w10⟩ := String_eq (n := m) (by omega) g3 hne2 (by omega)
      have W10 := g2.other w10 (fun x hx => by have := (g4 x hx).1; omega) (fun x hx q => (g4 x q).2 hx)
      conv => whnf
      refine cutI (by decide) rfl (t := ⟨[(1, .ptr b 0 0), (6, .ptr h7.length 0 0)], h, []⟩) ⟨⟨rfl, rfl⟩, rfl, rfl⟩ ?_
      conv => whnf
      refine clI e10 ?_
      conv => whnf
      refine strC (n := m) (hp := h10) (by omega) W10.1 (entsB l lv l.length) (by simp only [List.length_append, num_len, hO]; omega) fun h11 F11 w11 => ?_
      conv => whnf
      refine ⟨rfl, [], rfl, rfl, F11, ?_⟩
      have := W10.trans w11
      have ht : k.toNat = if top then 1 else 0 := by subst hk; cases top <;> rfl
      unfold nodeB
      rw [← ht]
      simpa [List.append_assoc] using this
  conv => whnf
  refine ldI e3 ?_
  refine br (fun a => ?_) (fun a => ?_)
  · subst a
    conv => whnf
    exact rest 1 _ rfl ⟨⟨rfl, rfl, rfl, rfl⟩, rfl, rfl⟩
  · subst a
    conv => whnf
    exact rest 0 _ rfl ⟨⟨rfl, rfl, rfl, rfl⟩, rfl, rfl⟩
end
end Go.Proofs
/- Contracts: pages that are well-formed; their bodies; the ends of blocks. -/
set_option linter.unusedVariables false
set_option linter.unusedSimpArgs false
namespace Go.Proofs
open Go Go.Abs
section
variable {n : Nat} {h : AHeap}
theorem check_eq (hn : 7 ≤ n) (p : Page) (ok : p.Ok) : C n 16 [p.av] h = some (.ret (i64 (if p.check then 0 else 2)), h) := by
  obtain ⟨m, rfl⟩ : ∃ m, n = m + 1 := ⟨n - 1, by omega⟩
  obtain ⟨o1, o2, o3, o4, o5, o6, o7⟩ := ok
  refine fun_pure F16 rfl rfl rfl (by simp [pureBs, page_pure]) ?_
  repeat' (conv => whnf); first
    | refine clI (numbered_eq (by omega) _) ?_
    | refine clI (within_eq (by omega) _ _ _) ?_
    | refine clI (fits_eq (by omega) p.entries o3 o6 p.level p.esh.sz o1 p.esh.c) ?_
    | refine clI (plain_eq (by omega) p) ?_
    | refine clI (linked_eq (by omega) _) ?_
    | refine clI (freed_eq (by omega) p.freed o4 o7 p.fsh.sz o2 p.fsh.c) ?_
    | refine clI (listed_eq (by omega) p.freed o4 (freed_few (by assumption) o7) p.fsh.sz o2 p.fsh.c) ?_
    | refine eqI (eq_bool _ _) ?_
    | refine retP rfl (frz_int ?_)
    | refine brd (fun _ => ?_) (fun _ => ?_)
    | refine bre (fun _ => ?_) (fun _ => ?_)
    | refine brq (fun _ => ?_) (fun _ => ?_)
    | refine brn (fun _ => ?_) (fun _ => ?_)
    | refine br (fun _ => ?_) (fun _ => ?_)
    | refine ldI (by rfl) ?_
    | refine ldI (get_set_last _ _ _) ?_
    | refine ldI (get_last _ _) ?_
    | refine stI (by rfl) (by rfl) (by rfl) (by rfl) (by rfl) ?_
    | refine stI (get_last _ _) (by rfl) (by rfl) (by rfl) (by rfl) ?_
    | refine cutS (by decide) rfl ?_
  all_goals clear o1 o2 o3 o4 o5 o6 o7
  all_goals simp_all [Page.check]

def Page.body (p : Page) : AV := if p.kind = 3 then .ifc 174 (.agg [i64 p.next, .str p.data]) else if p.kind = 4 then .ifc 176 (.agg [i64 p.next, .lst p.fsh.sz (p.freed.map Freed.av) p.fsh.c]) else .ifc 178 (.agg (nodeXs p.tree p.level p.top p.entries p.esh.sz p.esh.c))
theorem body_eq (hn : 1 ≤ n) (p : Page) : C n 58 [p.av] h = some (.ret p.body, h) := by
  obtain ⟨m, rfl⟩ : ∃ m, n = m + 1 := ⟨n - 1, by omega⟩
  have fe : ∀ n, FrzOk (n + 3) (.lst p.esh.sz (p.entries.map Entry.av) p.esh.c) := fun n => frzOk_lst fun x hx => by
    obtain ⟨e, _, rfl⟩ := List.mem_map.1 hx
    exact frzOk_agg fun y hy => by
      simp [Entry.cells, Dg.cells] at hy
      rcases hy with rfl | rfl | rfl | rfl | rfl | rfl | hy
      · exact frzOk_str
      · exact frzOk_str
      · exact frzOk_int
      · exact frzOk_int
      · exact frzOk_int
      · exact frzOk_int
      · rcases hy with rfl | rfl | rfl | rfl | rfl | rfl | rfl | rfl | rfl | rfl | rfl | rfl | rfl | rfl | rfl | rfl <;> exact frzOk_int
  have ff : ∀ n, FrzOk (n + 5) (.lst p.fsh.sz (p.freed.map Freed.av) p.fsh.c) := fun n => frzOk_lst fun x hx => by
    obtain ⟨f, _, rfl⟩ := List.mem_map.1 hx
    exact frzOk_agg fun y hy => by
      simp [Freed.cells] at hy
      rcases hy with rfl | rfl
      · exact frzOk_int
      · exact frzOk_lst fun z hz => by
          obtain ⟨k, _, rfl⟩ := List.mem_map.1 hz
          exact frzOk_int
  refine fun_pure F58 rfl rfl rfl (by simp [pureBs, page_pure]) ?_
  repeat' (conv => whnf); first
    | refine retP rfl ?_
    | refine brd (fun _ => ?_) (fun _ => ?_)
    | refine bre (fun _ => ?_) (fun _ => ?_)
    | refine brq (fun _ => ?_) (fun _ => ?_)
    | refine brn (fun _ => ?_) (fun _ => ?_)
    | refine br (fun _ => ?_) (fun _ => ?_)
    | refine ldI (by rfl) ?_
    | refine ldI (get_set_last _ _ _) ?_
    | refine ldI (get_last _ _) ?_
    | refine stI (by rfl) (by rfl) (by rfl) (by rfl) (by rfl) ?_
    | refine stI (get_last _ _) (by rfl) (by rfl) (by rfl) (by rfl) ?_
    | refine cutS (by decide) rfl ?_
  · show frz _ 64 (.ifc 174 (.agg [i64 p.next, .str p.data])) = some p.body
    refine (frzOk_ifc (frzOk_agg (n := 62) fun y hy => ?_) _).trans (congrArg some ?_)
    · simp at hy
      rcases hy with rfl | rfl
      · exact frzOk_int
      · exact frzOk_str
    · simp_all [Page.body]
  · show frz _ 64 (.ifc 176 (.agg [i64 p.next, .lst p.fsh.sz (p.freed.map Freed.av) p.fsh.c])) = some p.body
    refine (frzOk_ifc (frzOk_agg (n := 62) fun y hy => ?_) _).trans (congrArg some ?_)
    · simp at hy
      rcases hy with rfl | rfl
      · exact frzOk_int
      · exact ff 57
    · simp_all [Page.body]
  · show frz _ 64 (.ifc 178 (.agg (nodeXs p.tree p.level p.top p.entries p.esh.sz p.esh.c))) = some p.body
    refine (frzOk_ifc (frzOk_agg (n := 62) fun y hy => ?_) _).trans (congrArg some ?_)
    · simp [nodeXs] at hy
      rcases hy with rfl | rfl | rfl | rfl
      · exact frzOk_int
      · exact frzOk_int
      · exact frzOk_bool
      · exact fe 59
    · simp_all [Page.body]

theorem low_u32 (c : UInt32) (k : Nat) (hk : k ≤ 3) : IntKind.u8.wrap (((c.toNat : Int)).fdiv (2 ^ (min ((8 * k : Nat) : Int).toNat IntKind.u32.bits))) = ((UInt8.ofNat (c.toNat / 256 ^ k)).toNat : Int) := by
  have h1 : min ((8 * k : Nat) : Int).toNat IntKind.u32.bits = 8 * k := by show min ((8 * k : Nat) : Int).toNat 32 = 8 * k; omega
  rw [h1, Int.fdiv_eq_ediv_of_nonneg _ (by exact Int.pow_nonneg (by decide))]
  have h2 : ((c.toNat : Int)) / (2 ^ (8 * k) : Int) = ((c.toNat / 256 ^ k : Nat) : Int) := by
    rw [show (256 : Nat) = 2 ^ 8 by rfl, ← Nat.pow_mul]
    norm_cast
  rw [h2]
  show (if (IntKind.u8.signed && decide (((c.toNat / 256 ^ k : Nat) : Int) % (2 ^ 8 : Int) ≥ (2 ^ (8 - 1) : Int))) = true then ((c.toNat / 256 ^ k : Nat) : Int) % (2 ^ 8 : Int) - 2 ^ 8 else ((c.toNat / 256 ^ k : Nat) : Int) % (2 ^ 8 : Int)) = _
  rw [if_neg (by simp [IntKind.signed]), UInt8.toNat_ofNat']
  omega
/-- The last four bytes of a block. -/
def crcB (s : Str) : Str := [UInt8.ofNat ((crc s).toNat / 256 ^ 0), UInt8.ofNat ((crc s).toNat / 256 ^ 1), UInt8.ofNat ((crc s).toNat / 256 ^ 2), UInt8.ofNat ((crc s).toNat / 256 ^ 3)]
theorem ended_eq (hn : 2 ≤ n) (s : Str) (hs : s.length < 1099511627776) : C n 62 [.str s] h = some (.ret (.str (s ++ crcB s)), h) := by
  obtain ⟨m, rfl⟩ : ∃ m, n = m + 1 := ⟨n - 1, by omega⟩
  refine fun_pure F62 rfl rfl rfl rfl ?_
  conv => whnf
  refine clI (crcC_eq (by omega) s hs) ?_
  conv => whnf
  refine zI (z := ((UInt8.ofNat ((crc s).toNat / 256 ^ 0)).toNat : Int)) (by rw [low_u8, Nat.pow_zero, Nat.div_one]; rfl) ?_
  conv => whnf
  refine ⟨by decide, _, rfl, ?_⟩
  conv => whnf
  refine zI (low_u32 (crc s) 1 (by omega)) ?_
  conv => whnf
  refine ⟨by decide, _, rfl, ?_⟩
  conv => whnf
  refine zI (low_u32 (crc s) 2 (by omega)) ?_
  conv => whnf
  refine ⟨by decide, _, rfl, ?_⟩
  conv => whnf
  refine zI (low_u32 (crc s) 3 (by omega)) ?_
  conv => whnf
  refine ⟨rfl, ?_⟩
  conv => whnf
  refine ⟨_, crcB s, first_lst _ (crcB s) true, toBytes_map _, ?_⟩
  conv => whnf
  refine ⟨by simp [crcB]; omega, ?_⟩
  conv => whnf
  exact retP rfl (frz_str rfl)
end
end Go.Proofs
/- The looked-up text of the functions. -/
namespace Go.Proofs
open Go Go.Abs
/- f60 strings.Repeat: 125 temporaries, depth 7, 2 parameters, results [t4] -/
def c60 : RC :=
 (.seq (.ops [(oP 4 (.mv (.c (.str []))))])
 (.seq (.seq (.ops [(mV 11 1)])
 (.block 0
 (.seq (.ops [(oP 13 (.bin .eql (.t 11) (.c (.int .i64 0)))),
 (mV 12 13)])
 (.cond (.t 12)
 (.seq (.ops [(oP 4 (.mv (.c (.str []))))])
 .ret)
 (.seq (.ops [(oP 15 (.bin .eql (.t 11) (.c (.int .i64 1)))),
 (mV 14 15)])
 (.cond (.t 14)
 (.seq (.ops [(mV 16 0),
 (mV 4 16)])
 .ret)
 .skip))))))
 (.seq (.seq (.ops [(mV 17 1),
 (oP 18 (.bin .lss (.t 17) (.c (.int .i64 0))))])
 (.cond (.t 18)
 (.ops [(oP 19 (.mkIfc 9 (.c (.str [115, 116, 114, 105, 110, 103, 115, 58, 32, 110, 101, 103, 97, 116, 105, 118, 101, 32, 82, 101, 112, 101, 97, 116, 32, 99, 111, 117, 110, 116])))),
 ⟨none, none, .pan (.t 19)⟩])
 .skip))
 (.seq (.ops [(mV 21 0),
 (oP 22 (.lenS (.t 21))),
 (oP 23 (.toInt .u64 (.t 22))),
 (mV 24 1),
 (oP 25 (.toInt .u64 (.t 24))),
 (oP 26 (.callF 109 [(.t 23), (.t 25)])),
 (mV 20 26),
 (oP 27 (.extract (.t 20) 0)),
 (oP 28 (.extract (.t 20) 1)),
 (mV 5 27),
 (mV 6 28)])
 (.seq (.seq (.ops [(mV 29 5),
 (oP 30 (.bin .gtr (.t 29) (.c (.int .u64 0)))),
 (mV 31 30),
 (oG 32 31 false (.mv (.t 6))),
 (oG 33 31 false (.bin .gtr (.t 32) (.c (.int .u64 9223372036854775807)))),
 (oP 34 (.pick (.t 31) (.c (.bool true)) (.t 33)))])
 (.cond (.t 34)
 (.ops [(oP 35 (.mkIfc 9 (.c (.str [115, 116, 114, 105, 110, 103, 115, 58, 32, 82, 101, 112, 101, 97, 116, 32, 111, 117, 116, 112, 117, 116, 32, 108, 101, 110, 103, 116, 104, 32, 111, 118, 101, 114, 102, 108, 111, 119])))),
 ⟨none, none, .pan (.t 35)⟩])
 .skip))
 (.seq (.ops [(mV 36 6),
 (oP 37 (.toInt .i64 (.t 36))),
 (mV 7 37)])
 (.seq (.seq (.ops [(mV 38 0),
 (oP 39 (.lenS (.t 38))),
 (oP 40 (.bin .eql (.t 39) (.c (.int .i64 0))))])
 (.cond (.t 40)
 (.seq (.ops [(oP 4 (.mv (.c (.str []))))])
 .ret)
 .skip))
 (.seq (.seq (.ops [(mV 41 0),
 (oP 42 (.indexS (.t 41) (.c (.int .i64 0))))])
 (.block 1
 (.seq (.seq (.ops [(oP 44 (.bin .eql (.t 42) (.c (.int .u8 32)))),
 (mV 43 44)])
 (.cond (.t 43)
 .skip
 (.seq (.ops [(oP 45 (.bin .eql (.t 42) (.c (.int .u8 45)))),
 (mV 43 45)])
 (.cond (.t 43)
 .skip
 (.seq (.ops [(oP 46 (.bin .eql (.t 42) (.c (.int .u8 48)))),
 (mV 43 46)])
 (.cond (.t 43)
 .skip
 (.seq (.ops [(oP 47 (.bin .eql (.t 42) (.c (.int .u8 61)))),
 (mV 43 47)])
 (.cond (.t 43)
 .skip
 (.ops [(oP 48 (.bin .eql (.t 42) (.c (.int .u8 9)))),
 (mV 43 48)])))))))))
 (.cond (.t 43)
 (.block 2
 (.seq (.ops [(mV 50 7),
 (oP 51 (.bin .leq (.t 50) (.c (.int .i64 128)))),
 (mV 52 51),
 (oG 53 52 true (.mv (.t 0))),
 (oG 54 52 true (.callF 110 [(.c (.str [32, 32, 32, 32, 32, 32, 32, 32, 32, 32, 32, 32, 32, 32, 32, 32, 32, 32, 32, 32, 32, 32, 32, 32, 32, 32, 32, 32, 32, 32, 32, 32, 32, 32, 32, 32, 32, 32, 32, 32, 32, 32, 32, 32, 32, 32, 32, 32, 32, 32, 32, 32, 32, 32, 32, 32, 32, 32, 32, 32, 32, 32, 32, 32, 32, 32, 32, 32, 32, 32, 32, 32, 32, 32, 32, 32, 32, 32, 32, 32, 32, 32, 32, 32, 32, 32, 32, 32, 32, 32, 32, 32, 32, 32, 32, 32, 32, 32, 32, 32, 32, 32, 32, 32, 32, 32, 32, 32, 32, 32, 32, 32, 32, 32, 32, 32, 32, 32, 32, 32, 32, 32, 32, 32, 32, 32, 32, 32])), (.t 53)])),
 (oP 55 (.pick (.t 52) (.t 54) (.c (.bool false)))),
 (mV 49 55)])
 (.cond (.t 49)
 (.seq (.ops [(mV 56 7),
 (oP 57 (.sliceS (.c (.str [32, 32, 32, 32, 32, 32, 32, 32, 32, 32, 32, 32, 32, 32, 32, 32, 32, 32, 32, 32, 32, 32, 32, 32, 32, 32, 32, 32, 32, 32, 32, 32, 32, 32, 32, 32, 32, 32, 32, 32, 32, 32, 32, 32, 32, 32, 32, 32, 32, 32, 32, 32, 32, 32, 32, 32, 32, 32, 32, 32, 32, 32, 32, 32, 32, 32, 32, 32, 32, 32, 32, 32, 32, 32, 32, 32, 32, 32, 32, 32, 32, 32, 32, 32, 32, 32, 32, 32, 32, 32, 32, 32, 32, 32, 32, 32, 32, 32, 32, 32, 32, 32, 32, 32, 32, 32, 32, 32, 32, 32, 32, 32, 32, 32, 32, 32, 32, 32, 32, 32, 32, 32, 32, 32, 32, 32, 32, 32])) none (some (.t 56)))),
 (mV 4 57)])
 .ret)
 (.seq (.ops [(mV 59 7),
 (oP 60 (.bin .leq (.t 59) (.c (.int .i64 128)))),
 (mV 61 60),
 (oG 62 61 true (.mv (.t 0))),
 (oG 63 61 true (.callF 110 [(.c (.str [45, 45, 45, 45, 45, 45, 45, 45, 45, 45, 45, 45, 45, 45, 45, 45, 45, 45, 45, 45, 45, 45, 45, 45, 45, 45, 45, 45, 45, 45, 45, 45, 45, 45, 45, 45, 45, 45, 45, 45, 45, 45, 45, 45, 45, 45, 45, 45, 45, 45, 45, 45, 45, 45, 45, 45, 45, 45, 45, 45, 45, 45, 45, 45, 45, 45, 45, 45, 45, 45, 45, 45, 45, 45, 45, 45, 45, 45, 45, 45, 45, 45, 45, 45, 45, 45, 45, 45, 45, 45, 45, 45, 45, 45, 45, 45, 45, 45, 45, 45, 45, 45, 45, 45, 45, 45, 45, 45, 45, 45, 45, 45, 45, 45, 45, 45, 45, 45, 45, 45, 45, 45, 45, 45, 45, 45, 45, 45])), (.t 62)])),
 (oP 64 (.pick (.t 61) (.t 63) (.c (.bool false)))),
 (mV 58 64)])
 (.cond (.t 58)
 (.seq (.ops [(mV 65 7),
 (oP 66 (.sliceS (.c (.str [45, 45, 45, 45, 45, 45, 45, 45, 45, 45, 45, 45, 45, 45, 45, 45, 45, 45, 45, 45, 45, 45, 45, 45, 45, 45, 45, 45, 45, 45, 45, 45, 45, 45, 45, 45, 45, 45, 45, 45, 45, 45, 45, 45, 45, 45, 45, 45, 45, 45, 45, 45, 45, 45, 45, 45, 45, 45, 45, 45, 45, 45, 45, 45, 45, 45, 45, 45, 45, 45, 45, 45, 45, 45, 45, 45, 45, 45, 45, 45, 45, 45, 45, 45, 45, 45, 45, 45, 45, 45, 45, 45, 45, 45, 45, 45, 45, 45, 45, 45, 45, 45, 45, 45, 45, 45, 45, 45, 45, 45, 45, 45, 45, 45, 45, 45, 45, 45, 45, 45, 45, 45, 45, 45, 45, 45, 45, 45])) none (some (.t 65)))),
 (mV 4 66)])
 .ret)
 (.seq (.ops [(mV 68 7),
 (oP 69 (.bin .leq (.t 68) (.c (.int .i64 64)))),
 (mV 70 69),
 (oG 71 70 true (.mv (.t 0))),
 (oG 72 70 true (.callF 110 [(.c (.str [48, 48, 48, 48, 48, 48, 48, 48, 48, 48, 48, 48, 48, 48, 48, 48, 48, 48, 48, 48, 48, 48, 48, 48, 48, 48, 48, 48, 48, 48, 48, 48, 48, 48, 48, 48, 48, 48, 48, 48, 48, 48, 48, 48, 48, 48, 48, 48, 48, 48, 48, 48, 48, 48, 48, 48, 48, 48, 48, 48, 48, 48, 48, 48])), (.t 71)])),
 (oP 73 (.pick (.t 70) (.t 72) (.c (.bool false)))),
 (mV 67 73)])
 (.cond (.t 67)
 (.seq (.ops [(mV 74 7),
 (oP 75 (.sliceS (.c (.str [48, 48, 48, 48, 48, 48, 48, 48, 48, 48, 48, 48, 48, 48, 48, 48, 48, 48, 48, 48, 48, 48, 48, 48, 48, 48, 48, 48, 48, 48, 48, 48, 48, 48, 48, 48, 48, 48, 48, 48, 48, 48, 48, 48, 48, 48, 48, 48, 48, 48, 48, 48, 48, 48, 48, 48, 48, 48, 48, 48, 48, 48, 48, 48])) none (some (.t 74)))),
 (mV 4 75)])
 .ret)
 (.seq (.ops [(mV 77 7),
 (oP 78 (.bin .leq (.t 77) (.c (.int .i64 128)))),
 (mV 79 78),
 (oG 80 79 true (.mv (.t 0))),
 (oG 81 79 true (.callF 110 [(.c (.str [61, 61, 61, 61, 61, 61, 61, 61, 61, 61, 61, 61, 61, 61, 61, 61, 61, 61, 61, 61, 61, 61, 61, 61, 61, 61, 61, 61, 61, 61, 61, 61, 61, 61, 61, 61, 61, 61, 61, 61, 61, 61, 61, 61, 61, 61, 61, 61, 61, 61, 61, 61, 61, 61, 61, 61, 61, 61, 61, 61, 61, 61, 61, 61, 61, 61, 61, 61, 61, 61, 61, 61, 61, 61, 61, 61, 61, 61, 61, 61, 61, 61, 61, 61, 61, 61, 61, 61, 61, 61, 61, 61, 61, 61, 61, 61, 61, 61, 61, 61, 61, 61, 61, 61, 61, 61, 61, 61, 61, 61, 61, 61, 61, 61, 61, 61, 61, 61, 61, 61, 61, 61, 61, 61, 61, 61, 61, 61])), (.t 80)])),
 (oP 82 (.pick (.t 79) (.t 81) (.c (.bool false)))),
 (mV 76 82)])
 (.cond (.t 76)
 (.seq (.ops [(mV 83 7),
 (oP 84 (.sliceS (.c (.str [61, 61, 61, 61, 61, 61, 61, 61, 61, 61, 61, 61, 61, 61, 61, 61, 61, 61, 61, 61, 61, 61, 61, 61, 61, 61, 61, 61, 61, 61, 61, 61, 61, 61, 61, 61, 61, 61, 61, 61, 61, 61, 61, 61, 61, 61, 61, 61, 61, 61, 61, 61, 61, 61, 61, 61, 61, 61, 61, 61, 61, 61, 61, 61, 61, 61, 61, 61, 61, 61, 61, 61, 61, 61, 61, 61, 61, 61, 61, 61, 61, 61, 61, 61, 61, 61, 61, 61, 61, 61, 61, 61, 61, 61, 61, 61, 61, 61, 61, 61, 61, 61, 61, 61, 61, 61, 61, 61, 61, 61, 61, 61, 61, 61, 61, 61, 61, 61, 61, 61, 61, 61, 61, 61, 61, 61, 61, 61])) none (some (.t 83)))),
 (mV 4 84)])
 .ret)
 (.seq (.ops [(mV 86 7),
 (oP 87 (.bin .leq (.t 86) (.c (.int .i64 64)))),
 (mV 88 87),
 (oG 89 88 true (.mv (.t 0))),
 (oG 90 88 true (.callF 110 [(.c (.str [9, 9, 9, 9, 9, 9, 9, 9, 9, 9, 9, 9, 9, 9, 9, 9, 9, 9, 9, 9, 9, 9, 9, 9, 9, 9, 9, 9, 9, 9, 9, 9, 9, 9, 9, 9, 9, 9, 9, 9, 9, 9, 9, 9, 9, 9, 9, 9, 9, 9, 9, 9, 9, 9, 9, 9, 9, 9, 9, 9, 9, 9, 9, 9])), (.t 89)])),
 (oP 91 (.pick (.t 88) (.t 90) (.c (.bool false)))),
 (mV 85 91)])
 (.cond (.t 85)
 (.seq (.ops [(mV 92 7),
 (oP 93 (.sliceS (.c (.str [9, 9, 9, 9, 9, 9, 9, 9, 9, 9, 9, 9, 9, 9, 9, 9, 9, 9, 9, 9, 9, 9, 9, 9, 9, 9, 9, 9, 9, 9, 9, 9, 9, 9, 9, 9, 9, 9, 9, 9, 9, 9, 9, 9, 9, 9, 9, 9, 9, 9, 9, 9, 9, 9, 9, 9, 9, 9, 9, 9, 9, 9, 9, 9])) none (some (.t 92)))),
 (mV 4 93)])
 .ret)
 .skip)))))))))))
 .skip))))
 (.seq (.ops [(mV 94 7),
 (mV 8 94)])
 (.seq (.seq (.ops [(mV 95 7),
 (oP 96 (.bin .gtr (.t 95) (.c (.int .i64 8192))))])
 (.cond (.t 96)
 (.seq (.ops [(mV 97 0),
 (oP 98 (.lenS (.t 97))),
 (oP 99 (.bin .quo (.c (.int .i64 8192)) (.t 98))),
 (mV 100 0),
 (oP 101 (.lenS (.t 100))),
 (oP 102 (.bin .mul (.t 99) (.t 101))),
 (mV 8 102)])
 (.seq (.ops [(mV 103 8),
 (oP 104 (.bin .eql (.t 103) (.c (.int .i64 0))))])
 (.cond (.t 104)
 (.ops [(mV 105 0),
 (oP 106 (.lenS (.t 105))),
 (mV 8 106)])
 .skip)))
 .skip))
 (.seq (.ops [(oP 9 (.alloc 115 [.nilp, (.lst 0 [] true)]))])
 (.seq (.ops [(mV 107 7),
 (oP 108 (.callF 111 [(.t 9), (.t 107)]))])
 (.seq (.ops [(mV 109 0),
 (oP 110 (.callF 59 [(.t 9), (.t 109)]))])
 (.seq (.block 3
 (.loop
 (.seq (.seq (.ops [(oP 111 (.callF 61 [(.t 9)])),
 (mV 112 7),
 (oP 113 (.bin .lss (.t 111) (.t 112)))])
 (.cond (.t 113)
 .skip
 (.exit 3)))
 (.block 4
 (.seq (.ops [(mV 114 7),
 (oP 115 (.callF 61 [(.t 9)])),
 (oP 116 (.bin .sub (.t 114) (.t 115))),
 (oP 117 (.callF 61 [(.t 9)])),
 (mV 118 8),
 (oP 119 (.mm3 false (.t 116) (.t 117) (.t 118))),
 (mV 10 119)])
 (.ops [(oP 120 (.callF 63 [(.t 9)])),
 (mV 121 10),
 (oP 122 (.sliceS (.t 120) none (some (.t 121)))),
 (oP 123 (.callF 59 [(.t 9), (.t 122)]))]))))))
 (.cut (.seq (.ops [(oP 124 (.callF 63 [(.t 9)])),
 (mV 4 124)])
 .ret))))))))))))))))
theorem F60 : FI 60 2 125 7 [.tmp 4] c60 := ⟨⟨Tryz.f60, Tryz.func60, by kernel_rfl, by kernel_rfl, by kernel_rfl⟩, by kernel_rfl, by decide, by kernel_rfl⟩
/- f111 (*strings.Builder).Grow: 25 temporaries, depth 5, 2 parameters, results [] -/
def c111 : RC :=
 (.seq (.ops [(mV 4 0),
 (oP 5 (.callF 108 [(.t 4)]))])
 (.seq (.seq (.ops [(mV 6 1),
 (oP 7 (.bin .lss (.t 6) (.c (.int .i64 0))))])
 (.cond (.t 7)
 (.ops [(oP 8 (.mkIfc 9 (.c (.str [115, 116, 114, 105, 110, 103, 115, 46, 66, 117, 105, 108, 100, 101, 114, 46, 71, 114, 111, 119, 58, 32, 110, 101, 103, 97, 116, 105, 118, 101, 32, 99, 111, 117, 110, 116])))),
 ⟨none, none, .pan (.t 8)⟩])
 .skip))
 (.seq (.draw [((mV 9 0), 0),
 ((oP 10 (.nilCheck (.t 9))), 0),
 ((oP 11 (.fieldAddr 1 (.t 10))), 0),
 ((oP 12 (.load false 1 (.t 11))), 1),
 ((oP 13 (.capL (.t 12))), 0),
 ((mV 14 0), 0),
 ((oP 15 (.nilCheck (.t 14))), 0),
 ((oP 16 (.fieldAddr 1 (.t 15))), 0),
 ((oP 17 (.load false 1 (.t 16))), 1),
 ((oP 18 (.lenL (.t 17))), 0),
 ((oP 19 (.bin .sub (.t 13) (.t 18))), 0),
 ((mV 20 1), 0),
 ((oP 21 (.bin .lss (.t 19) (.t 20))), 0)])
 (.cond (.t 21)
 (.ops [(mV 22 0),
 (mV 23 1),
 (oP 24 (.callF 148 [(.t 22), (.t 23)]))])
 .skip))))
theorem F111 : FI 111 2 25 5 [] c111 := ⟨⟨Tryz.f111, Tryz.func111, by kernel_rfl, by kernel_rfl, by kernel_rfl⟩, by kernel_rfl, by decide, by kernel_rfl⟩
/- f148 (*strings.Builder).grow: 30 temporaries, depth 5, 2 parameters, results [] -/
def c148 : RC :=
 (.seq (.draw [((mV 5 0), 0),
 ((oP 6 (.nilCheck (.t 5))), 0),
 ((oP 7 (.fieldAddr 1 (.t 6))), 0),
 ((oP 8 (.load false 1 (.t 7))), 1),
 ((oP 9 (.capL (.t 8))), 0),
 ((oP 10 (.bin .mul (.c (.int .i64 2)) (.t 9))), 0),
 ((mV 11 1), 0),
 ((oP 12 (.bin .add (.t 10) (.t 11))), 0),
 ((mV 14 0), 0),
 ((oP 15 (.nilCheck (.t 14))), 0),
 ((oP 16 (.fieldAddr 1 (.t 15))), 0),
 ((oP 17 (.load false 1 (.t 16))), 1),
 ((oP 18 (.lenL (.t 17))), 0),
 ((oP 13 (.mkNZ 5 (.t 12))), 2),
 ((oP 19 (.sliceL 1 (.t 13) none (some (.t 18)) none)), 1),
 ((mV 4 19), 0)])
 (.seq (.ops [(mV 20 4),
 (mV 21 0),
 (oP 22 (.nilCheck (.t 21))),
 (oP 23 (.fieldAddr 1 (.t 22))),
 (oP 24 (.load false 1 (.t 23))),
 (oP 25 (.cpy 1 (.t 20) (.t 24)))])
 (.ops [(mV 26 0),
 (mV 27 4),
 (oP 28 (.nilCheck (.t 26))),
 (oP 29 (.fieldAddr 1 (.t 28))),
 (oU (.store 1 (.t 29) (.t 27)))])))
theorem F148 : FI 148 2 30 5 [] c148 := ⟨⟨Tryz.f148, Tryz.func148, by kernel_rfl, by kernel_rfl, by kernel_rfl⟩, by kernel_rfl, by decide, by kernel_rfl⟩
/- f109 math/bits.Mul: 30 temporaries, depth 5, 2 parameters, results [t4, t5] -/
def c109 : RC :=
 (.seq (.ops [(oP 4 (.mv (.c (.int .u64 0)))),
 (oP 5 (.mv (.c (.int .u64 0))))])
 (.seq (.cond (.c (.bool false))
 (.seq (.ops [(mV 11 0),
 (oP 12 (.toInt .u32 (.t 11))),
 (mV 13 1),
 (oP 14 (.toInt .u32 (.t 13))),
 (oP 15 (.callF 145 [(.t 12), (.t 14)])),
 (mV 10 15),
 (oP 16 (.extract (.t 10) 0)),
 (oP 17 (.extract (.t 10) 1)),
 (mV 6 16),
 (mV 7 17)])
 (.seq (.ops [(mV 18 6),
 (oP 19 (.toInt .u64 (.t 18))),
 (mV 20 7),
 (oP 21 (.toInt .u64 (.t 20))),
 (mV 4 19),
 (mV 5 21)])
 .ret))
 .skip)
 (.seq (.ops [(mV 23 0),
 (mV 24 1),
 (oP 25 (.callF 146 [(.t 23), (.t 24)])),
 (mV 22 25),
 (oP 26 (.extract (.t 22) 0)),
 (oP 27 (.extract (.t 22) 1)),
 (mV 8 26),
 (mV 9 27)])
 (.seq (.ops [(mV 28 8),
 (mV 29 9),
 (mV 4 28),
 (mV 5 29)])
 .ret))))
theorem F109 : FI 109 2 30 5 [.tmp 4, .tmp 5] c109 := ⟨⟨Tryz.f109, Tryz.func109, by kernel_rfl, by kernel_rfl, by kernel_rfl⟩, by kernel_rfl, by decide, by kernel_rfl⟩
/- f146 math/bits.Mul64: 51 temporaries, depth 6, 2 parameters, results [t4, t5] -/
def c146 : RC :=
 (.seq (.ops [(oP 4 (.mv (.c (.int .u64 0)))),
 (oP 5 (.mv (.c (.int .u64 0))))])
 (.seq (.ops [(mV 14 0),
 (oP 15 (.bin .and (.t 14) (.c (.int .u64 4294967295)))),
 (mV 6 15)])
 (.seq (.ops [(mV 16 0),
 (oP 17 (.bin .shr (.t 16) (.c (.int .u64 32)))),
 (mV 7 17)])
 (.seq (.ops [(mV 18 1),
 (oP 19 (.bin .and (.t 18) (.c (.int .u64 4294967295)))),
 (mV 8 19)])
 (.seq (.ops [(mV 20 1),
 (oP 21 (.bin .shr (.t 20) (.c (.int .u64 32)))),
 (mV 9 21)])
 (.seq (.ops [(mV 22 6),
 (mV 23 8),
 (oP 24 (.bin .mul (.t 22) (.t 23))),
 (mV 10 24)])
 (.seq (.ops [(mV 25 7),
 (mV 26 8),
 (oP 27 (.bin .mul (.t 25) (.t 26))),
 (mV 28 10),
 (oP 29 (.bin .shr (.t 28) (.c (.int .u64 32)))),
 (oP 30 (.bin .add (.t 27) (.t 29))),
 (mV 11 30)])
 (.seq (.ops [(mV 31 11),
 (oP 32 (.bin .and (.t 31) (.c (.int .u64 4294967295)))),
 (mV 12 32)])
 (.seq (.ops [(mV 33 11),
 (oP 34 (.bin .shr (.t 33) (.c (.int .u64 32)))),
 (mV 13 34)])
 (.seq (.ops [(mV 35 12),
 (mV 36 6),
 (mV 37 9),
 (oP 38 (.bin .mul (.t 36) (.t 37))),
 (oP 39 (.bin .add (.t 35) (.t 38))),
 (mV 12 39)])
 (.seq (.ops [(mV 40 7),
 (mV 41 9),
 (oP 42 (.bin .mul (.t 40) (.t 41))),
 (mV 43 13),
 (oP 44 (.bin .add (.t 42) (.t 43))),
 (mV 45 12),
 (oP 46 (.bin .shr (.t 45) (.c (.int .u64 32)))),
 (oP 47 (.bin .add (.t 44) (.t 46))),
 (mV 4 47)])
 (.seq (.ops [(mV 48 0),
 (mV 49 1),
 (oP 50 (.bin .mul (.t 48) (.t 49))),
 (mV 5 50)])
 .ret))))))))))))
theorem F146 : FI 146 2 51 6 [.tmp 4, .tmp 5] c146 := ⟨⟨Tryz.f146, Tryz.func146, by kernel_rfl, by kernel_rfl, by kernel_rfl⟩, by kernel_rfl, by decide, by kernel_rfl⟩
/- f110 strings.HasPrefix: 8 temporaries, depth 4, 2 parameters, results [t4] -/
def c110 : RC :=
 (.seq (.ops [(oP 4 (.mv (.c (.bool false))))])
 (.seq (.ops [(mV 5 0),
 (mV 6 1),
 (oP 7 (.callF 147 [(.t 5), (.t 6)])),
 (mV 4 7)])
 .ret))
theorem F110 : FI 110 2 8 4 [.tmp 4] c110 := ⟨⟨Tryz.f110, Tryz.func110, by kernel_rfl, by kernel_rfl, by kernel_rfl⟩, by kernel_rfl, by decide, by kernel_rfl⟩
/- f147 internal/stringslite.HasPrefix: 18 temporaries, depth 5, 2 parameters, results [t4] -/
def c147 : RC :=
 (.seq (.ops [(oP 4 (.mv (.c (.bool false))))])
 (.seq (.ops [(mV 5 0),
 (oP 6 (.lenS (.t 5))),
 (mV 7 1),
 (oP 8 (.lenS (.t 7))),
 (oP 9 (.bin .geq (.t 6) (.t 8))),
 (mV 10 9),
 (oG 11 10 true (.mv (.t 0))),
 (oG 12 10 true (.mv (.t 1))),
 (oG 13 10 true (.lenS (.t 12))),
 (oG 14 10 true (.sliceS (.t 11) none (some (.t 13)))),
 (oG 15 10 true (.mv (.t 1))),
 (oG 16 10 true (.bin .eql (.t 14) (.t 15))),
 (oP 17 (.pick (.t 10) (.t 16) (.c (.bool false)))),
 (mV 4 17)])
 .ret))
theorem F147 : FI 147 2 18 5 [.tmp 4] c147 := ⟨⟨Tryz.f147, Tryz.func147, by kernel_rfl, by kernel_rfl, by kernel_rfl⟩, by kernel_rfl, by decide, by kernel_rfl⟩
end Go.Proofs
/- Contracts: a byte repeated. -/
set_option linter.unusedVariables false
set_option linter.unusedSimpArgs false
namespace Go.Proofs
open Go Go.Abs
theorem wrap_u64 {k : Int} (h0 : 0 ≤ k) (h1 : k < 18446744073709551616) : IntKind.u64.wrap k = k := by
  show (if (IntKind.u64.signed && decide (k % (2 ^ 64 : Int) ≥ (2 ^ (64 - 1) : Int))) = true then k % (2 ^ 64 : Int) - 2 ^ 64 else k % (2 ^ 64 : Int)) = _
  rw [if_neg (by simp [IntKind.signed])]
  omega
theorem mask_u64 {k : Int} (h0 : 0 ≤ k) (h1 : k < 4294967296) : IntKind.u64.wrap (BitVec.ofInt IntKind.u64.bits k &&& BitVec.ofInt IntKind.u64.bits 4294967295).toNat = k := by
  obtain ⟨q, rfl⟩ := Int.eq_ofNat_of_zero_le h0
  have hq : q < 4294967296 := by omega
  have e : (BitVec.ofInt IntKind.u64.bits (q : Int) &&& BitVec.ofInt IntKind.u64.bits 4294967295).toNat = q := by
    show (BitVec.ofInt 64 (q : Int) &&& BitVec.ofInt 64 4294967295).toNat = q
    rw [BitVec.toNat_and]
    have h1 : (BitVec.ofInt 64 (q : Int)).toNat = q := by rw [BitVec.ofInt_natCast, BitVec.toNat_ofNat]; omega
    have h2 : (BitVec.ofInt 64 4294967295).toNat = 2 ^ 32 - 1 := by decide
    rw [h1, h2, Nat.and_two_pow_sub_one_eq_mod]; omega
  rw [e]
  exact wrap_u64 (by omega) (by omega)
theorem shr_small {k : Int} (h0 : 0 ≤ k) (h1 : k < 4294967296) : k.fdiv (2 ^ (min (32 : Int).toNat IntKind.u64.bits)) = 0 := by
  have : min (32 : Int).toNat IntKind.u64.bits = 32 := by decide
  rw [this, Int.fdiv_eq_ediv_of_nonneg _ (by decide)]
  have : (2 ^ 32 : Int) = 4294967296 := by decide
  omega
section
variable {n : Nat} {h : AHeap}
theorem mul64_eq (hn : 1 ≤ n) (k : Int) (h0 : 0 ≤ k) (h1 : k < 1048576) : C n 146 [.int .u64 1, .int .u64 k] h = some (.ret (.tup [.int .u64 0, .int .u64 k]), h) := by
  obtain ⟨m, rfl⟩ : ∃ m, n = m + 1 := ⟨n - 1, by omega⟩
  refine fun_pure F146 rfl rfl rfl rfl ?_
  conv => whnf
  refine zI (mask_u64 (by decide) (by decide)) ?_
  conv => whnf
  refine ⟨by decide, _, shr_small (by decide) (by decide), ?_⟩
  conv => whnf
  refine zI (mask_u64 h0 (by omega)) ?_
  conv => whnf
  refine ⟨by decide, _, shr_small h0 (by omega), ?_⟩
  conv => whnf
  refine zI (z := k) (by rw [Int.one_mul, wrap_u64 h0 (by omega)]) ?_
  conv => whnf
  refine zI (z := 0) (by rw [Int.zero_mul]; rfl) ?_
  conv => whnf
  refine ⟨by decide, _, shr_small h0 (by omega), ?_⟩
  conv => whnf
  refine zI (z := 0) (by rfl) ?_
  conv => whnf
  refine zI (mask_u64 (by decide) (by decide)) ?_
  conv => whnf
  refine ⟨by decide, _, shr_small (by decide) (by decide), ?_⟩
  conv => whnf
  refine zI (z := 0) (by rw [Int.mul_zero]; rfl) ?_
  conv => whnf
  refine zI (z := 0) (by rfl) ?_
  conv => whnf
  refine zI (z := 0) (by rw [Int.mul_zero]; rfl) ?_
  conv => whnf
  refine zI (z := 0) (by rfl) ?_
  conv => whnf
  refine ⟨by decide, _, shr_small (by decide) (by decide), ?_⟩
  conv => whnf
  refine zI (z := 0) (by rfl) ?_
  conv => whnf
  refine zI (z := k) (by rw [Int.one_mul, wrap_u64 h0 (by omega)]) ?_
  conv => whnf
  exact retP rfl rfl
theorem mul_eq (hn : 2 ≤ n) (k : Int) (h0 : 0 ≤ k) (h1 : k < 1048576) : C n 109 [.int .u64 1, .int .u64 k] h = some (.ret (.tup [.int .u64 0, .int .u64 k]), h) := by
  obtain ⟨m, rfl⟩ : ∃ m, n = m + 1 := ⟨n - 1, by omega⟩
  refine fun_pure F109 rfl rfl rfl rfl ?_
  conv => whnf
  refine clI (mul64_eq (by omega) k h0 h1) ?_
  conv => whnf
  exact retP rfl rfl

theorem grow_eq (hn : 1 ≤ n) {hp : AHeap} {b t : Nat} {a : AV} (hb : hp[b]? = some (.cells 0 (some t) [a, .lst 0 [] true] 0)) (ha : a = .ptr b 0 0) (ht : t = tBld ∨ t = tWri) (k : Int) (h0 : 0 < k) (h1 : k < 1048576) :
    ∃ hp' F', C n 148 [.ptr b 0 0, i64 k] hp = some (.ret (.tup []), hp') ∧ Wrote hp hp' b [b] F' [] := by
  obtain ⟨m, rfl⟩ : ∃ m, n = m + 1 := ⟨n - 1, by omega⟩
  subst ha
  refine ⟨(hp ++ [AB.cells 0 (some 5) [] 0]).set b (.cells 0 (some t) (putAt [.ptr b 0 0, .lst 0 [] true] 1 [.sl 1 hp.length 0 0 0]) 0), [b, hp.length], ?_, ?_⟩
  · refine fun_inl F148 rfl rfl ?_
    have hb' := get_app (x := AB.cells 0 (some 5) [] 0) hb
    conv => whnf
    refine ldI hb ?_
    conv => whnf
    refine ⟨0, rfl, ?_⟩
    conv => whnf
    refine zI (z := 0) (by rfl) ?_
    conv => whnf
    refine zI (z := k) (by rw [wrap_i64 (by omega) (by omega)]; omega) ?_
    conv => whnf
    refine ldI hb ?_
    conv => whnf
    refine ⟨by omega, by omega, ?_⟩
    conv => whnf
    refine ⟨⟨?_, ?_⟩, ?_⟩
    · conv => whnf
      exact ldI hb' rfl
    · conv => whnf
      exact ldI hb' rfl
    conv => whnf
    refine slI (v := .sl 1 hp.length 0 0 0) ?_ ?_
    · unfold sliceA
      simp only [Option.getD_none, Option.getD_some]
      rw [if_pos ⟨by omega, by simp, by simp; omega, trivial⟩, if_neg (by omega)]
      simp
    conv => whnf
    refine ldI hb' ?_
    refine ⟨_, rfl, ?_⟩
    conv => whnf
    refine stI hb' (by rfl) (by rfl) (by rfl) (by rfl) ?_
    exact ⟨rfl, [], rfl, rfl, rfl⟩
  · have hlt := lt_of_get hb
    refine ⟨⟨_, _, _, by rw [List.getElem?_set_self (by simp; omega)]; rfl, .inr rfl, ht, .inr ⟨hp.length, 0, 0, rfl, ?_, by omega, Nat.le_refl _, rfl⟩⟩, ((Keep.app hp _ []).mono (by simp)).set' (.inl (by simp)), ?_⟩
    · rw [List.getElem?_set_ne (by omega)]; simp
    · intro x hx; simp at hx; rcases hx with rfl | rfl <;> simp

theorem Grow_eq (hn : 2 ≤ n) {hp : AHeap} {b : Nat} (hb : hp[b]? = some (.cells 0 (some tBld) [.nilp, .lst 0 [] true] 0)) (k : Int) (h0 : 0 < k) (h1 : k < 1048576) :
    ∃ hp' F', C n 111 [.ptr b 0 0, i64 k] hp = some (.ret (.tup []), hp') ∧ Wrote hp hp' b [b] F' [] := by
  obtain ⟨m, rfl⟩ : ∃ m, n = m + 1 := ⟨n - 1, by omega⟩
  have w : BW hp b [] [b] := ⟨_, _, _, hb, .inl rfl, .inl rfl, .inl ⟨rfl, rfl, rfl⟩⟩
  obtain ⟨hp1, t, buf, ec, hb1, ht, hB, k1⟩ := copyCheck_eq (n := m) (by omega) w
  have hbuf : buf = .lst 0 [] true := by
    rcases hB with ⟨q, _, _⟩ | ⟨bb, ver, frz, _, _, _, _, q⟩
    · exact q
    · simp at q
  subst hbuf
  obtain ⟨h2, F2, e2, w2⟩ := grow_eq (n := m) (by omega) hb1 rfl ht k h0 h1
  refine ⟨h2, F2, ?_, w2.1, k1.trans w2.2.1 (fun x hx => .inl hx), fun x hx => (w2.2.2 x hx).imp id fun q => Nat.le_trans k1.1 q⟩
  refine fun_inl F111 rfl rfl ?_
  conv => whnf
  refine clI ec ?_
  conv => whnf
  refine brd (fun a => absurd a (by omega)) (fun a => ?_)
  conv => whnf
  refine ldI hb1 ?_
  conv => whnf
  refine ⟨0, rfl, ?_⟩
  conv => whnf
  refine ldI hb1 ?_
  conv => whnf
  refine zI (z := 0) (by rfl) ?_
  conv => whnf
  refine brd (fun a => ?_) (fun a => absurd (by omega) a)
  conv => whnf
  refine clI e2 ?_
  exact ⟨rfl, [], rfl, rfl, rfl⟩
def zeros (k : Nat) : Str := List.replicate k 0
theorem zeros_len (k : Nat) : (zeros k).length = k := by simp [zeros]
theorem repeat_eq (hn : 4 ≤ n) (k : Nat) (hk : k ≤ 4096) : C n 60 [.str [0], i64 k] h = some (.ret (.str (zeros k)), h) := by
  obtain ⟨m, rfl⟩ : ∃ m, n = m + 1 := ⟨n - 1, by omega⟩
  refine fun_pure F60 rfl rfl rfl rfl ?_
  conv => whnf
  refine bre (fun a => ?_) (fun a => ?_)
  · have : k = 0 := by omega
    subst this
    conv => whnf
    exact retP rfl (frz_str rfl)
  conv => whnf
  refine bre (fun a1 => ?_) (fun a1 => ?_)
  · have : k = 1 := by omega
    subst this
    conv => whnf
    exact retP rfl (frz_str rfl)
  have hk2 : 2 ≤ k := by omega
  conv => whnf
  refine zI (z := 1) (by rfl) ?_
  conv => whnf
  refine zI (wrap_u64 (by omega) (by omega)) ?_
  conv => whnf
  refine clI (mul_eq (by omega) k (by omega) (by omega)) ?_
  conv => whnf
  refine brd (fun a3 => absurd a3 (by omega)) (fun a3 => ?_)
  conv => whnf
  refine zI (wrap_i64 (by omega) (by omega)) ?_
  conv => whnf
  refine strI (b := 0) (by omega) (by rfl) ?_
  conv => whnf
  refine brd (fun a4 => absurd a4 (by omega)) (fun a4 => ?_)
  conv => whnf
  obtain ⟨h2, F2, e2, w2⟩ := Grow_eq (n := m) (hp := ([] : AHeap) ++ [AB.cells 0 (some tBld) [.nilp, .lst 0 [] true] 0]) (b := 0) (by omega) rfl k (by omega) (by omega)
  refine clI e2 ?_
  obtain ⟨h3, F3, e3, w3⟩ := WriteString_eq (n := m) (by omega) w2.1 [0] (by simp)
  conv => whnf
  refine clI e3 ?_
  conv => whnf
  refine loopI (by decide) rfl (α := Nat × List Nat × AHeap) (fun x => ⟨[(7, i64 k), (8, i64 k), (9, .ptr 0 0 0)], x.2.2, []⟩) (fun x => (1 ≤ x.1 ∧ x.1 ≤ k) ∧ BW x.2.2 0 (zeros x.1) x.2.1) (fun x => k - x.1) (1, F3, h3) ⟨⟨rfl, rfl, rfl⟩, rfl, rfl⟩ ⟨⟨Nat.le_refl _, by omega⟩, w3.1⟩ (by show k - 1 < KK; simp only [KK]; omega) ?_
  rintro ⟨c, G, hp⟩ ⟨⟨g1, g2⟩, g3⟩
  simp only at g1 g2 g3
  conv => whnf
  refine clI (Len_eq (n := m) (by omega) g3) ?_
  conv => whnf
  have el : ((zeros c).length : Int) = (c : Int) := by rw [zeros_len]
  rw [el]
  refine brd (fun a5 => ?_) (fun a5 => ?_)
  · have hc : c < k := by omega
    conv => whnf
    refine clI (Len_eq (n := m) (by omega) g3) ?_
    conv => whnf
    rw [el]
    refine zI (wrap_i64 (by omega) (by omega)) ?_
    conv => whnf
    refine clI (Len_eq (n := m) (by omega) g3) ?_
    conv => whnf
    rw [el]
    refine ⟨_, (show mm2 false (mm2 false ((k : Int) - c) c) k = ((min (k - c) c : Nat) : Int) from ?_), ?_⟩
    · unfold mm2
      simp only [cond_false]
      repeat' split
      all_goals omega
    obtain ⟨h4, e4, w4⟩ := String_eq (n := m) (by omega) g3 (by intro e; have := congrArg List.length e; rw [zeros_len] at this; simp at this; omega) (by rw [zeros_len]; omega)
    conv => whnf
    refine clI e4 ?_
    conv => whnf
    refine ss_hi (c := min (k - c) c) (by rw [zeros_len]; omega) ?_
    have et : (zeros c).take (min (k - c) c) = zeros (min (k - c) c) := by unfold zeros; rw [List.take_replicate]; congr 1; omega
    obtain ⟨h5, F5, e5, w5⟩ := WriteString_eq (n := m) (by omega) w4.1 (zeros (min (k - c) c)) (by rw [zeros_len, zeros_len]; omega)
    conv => whnf
    refine clI (by rw [et]; exact e5) ?_
    conv => whnf
    refine nxI (c + min (k - c) c, F5, h5) ⟨⟨by omega, by omega⟩, ?_⟩ (by simp only; omega) ⟨⟨rfl, rfl, rfl⟩, rfl, rfl⟩
    have := w5.1
    unfold zeros at this ⊢
    rwa [List.replicate_append_replicate] at this
  · have hc : c = k := by omega
    subst hc
    obtain ⟨h4, e4, w4⟩ := String_eq (n := m) (by omega) g3 (by intro e; have := congrArg List.length e; rw [zeros_len] at this; simp at this; omega) (by rw [zeros_len]; omega)
    conv => whnf
    refine cutI (by decide) rfl (t := ⟨[(9, .ptr 0 0 0)], hp, []⟩) ⟨rfl, rfl, rfl⟩ ?_
    conv => whnf
    refine clI e4 ?_
    conv => whnf
    exact retP rfl (frz_str rfl)
end
end Go.Proofs
/- Contracts: Encode. -/
set_option linter.unusedVariables false
set_option linter.unusedSimpArgs false
namespace Go.Proofs
open Go Go.Abs
theorem restB_w {e : Entry} {lv : Int} (hv : if lv = 0 then formOf e ≠ 0 else branches e = true) (h0 : 0 ≤ lv) : weighB e lv = true ∧ (((restB e lv).length : Nat) : Int) + e.key.length + 3 = weighW e lv := by
  by_cases hl : lv = 0
  · subst hl
    rw [if_pos rfl] at hv
    refine ⟨weigh_form hv, ?_⟩
    have hf : formOf e = 1 ∨ formOf e = 2 ∨ formOf e = 3 := by
      have : formOf e = 0 ∨ formOf e = 1 ∨ formOf e = 2 ∨ formOf e = 3 := by
        unfold formOf
        repeat' (first | split)
        all_goals simp
      omega
    have f0 : ¬ (0 : Int) < 0 := by omega
    unfold weighW restB
    rcases hf with hf | hf | hf
    · have hs : isShort e = true := by
        have hf' := hf
        by_cases q : isShort e = true
        · exact q
        · unfold formOf at hf'
          simp only [q, if_false] at hf'
          repeat' split at hf'
          all_goals simp_all
      simp [isShort] at hs
      obtain ⟨⟨⟨⟨⟨g1, g2⟩, g3⟩, g4⟩, _⟩, g5⟩ := hs
      have f1 : ¬ 0 < e.over := by omega
      have f2 : ¬ 0 < e.child := by omega
      simp only [f0, f1, f2, if_false, hf, if_true]
      simp [num_len]; omega
    · have hs : isLong e = true := by
        by_cases q : isLong e = true
        · exact q
        · unfold formOf at hf
          simp only [q, if_false] at hf
          repeat' split at hf
          all_goals simp_all
      simp [isLong, numbered, within] at hs
      have f1 : 0 < e.over := by omega
      simp only [f0, f1, if_false, hf, if_true]
      simp [num_len, Dg.bytes_len]; omega
    · have hs : isNest e = true := by
        by_cases q : isNest e = true
        · exact q
        · unfold formOf at hf
          simp only [q, if_false] at hf
          repeat' split at hf
          all_goals simp_all
      simp [isNest, numbered, within] at hs
      have f1 : ¬ 0 < e.over := by omega
      have f2 : 0 < e.child := by omega
      simp only [f0, f1, f2, if_false, hf, if_true]
      simp [num_len, Dg.bytes_len]; omega
  · rw [if_neg hl] at hv
    have hp : 0 < lv := by omega
    refine ⟨by simp [weighB, hp, hv], ?_⟩
    unfold weighW restB
    rw [if_pos hp, if_pos hp]
    simp [num_len, Dg.bytes_len]; omega

def cuts (l : List Entry) (lv : Int) : Nat → Nat
  | 0 => 0
  | k + 1 => cuts l lv k + cutAt l lv k
theorem cuts_mono (l : List Entry) (lv : Int) {i : Nat} : ∀ {k : Nat}, i < k → cutAt l lv i ≤ cuts l lv k
  | 0, h => by omega
  | k + 1, h => by
    simp only [cuts]
    by_cases e : i = k
    · subst e; omega
    · have := cuts_mono l lv (i := i) (k := k) (by omega); omega
theorem valid_form {l : List Entry} {lv : Int} (hv : valid l lv = true) {j : Nat} (hj : j < l.length) : (if lv = 0 then formOf l[j] ≠ 0 else branches l[j] = true) ∧ (lv = 0 ∨ j = 0 ∨ l[j].key ≠ []) ∧ (j = 0 ∨ cmpS l[j - 1].key l[j].key < 0) := by
  obtain ⟨h1, h2, h3, h4⟩ := valid_iff.1 hv
  have := h4 j hj
  rw [vAt_unf hj] at this
  by_cases e0 : lv = 0
  · subst e0
    simp at this
    exact ⟨by rw [if_pos rfl]; exact this.1, .inl rfl, this.2⟩
  · simp [e0] at this
    exact ⟨by rw [if_neg e0]; exact this.1.1, .inr this.1.2, this.2⟩
theorem ents_weight {l : List Entry} {lv : Int} (hv : valid l lv = true) : ∀ k, k ≤ l.length → ∃ s, wsum lv (l.take k) = some s ∧ (((entsB l lv k).length : Nat) : Int) + 2 * k + cuts l lv k = s
  | 0, _ => ⟨0, by simp [wsum], by simp [entsB, cuts]⟩
  | k + 1, hk => by
    obtain ⟨s, h1, h2⟩ := ents_weight hv k (by omega)
    have hk' : k < l.length := by omega
    have hf := (valid_form hv hk').1
    obtain ⟨g1, g2⟩ := restB_w hf (valid_iff.1 hv).1.1
    have hw := wsum_take hk' h1
    rw [if_pos g1] at hw
    refine ⟨_, hw, ?_⟩
    have hc := cutAt_le (lv := lv) hk'
    rw [entsB_succ l lv hk', List.length_append]
    unfold entB
    simp only [List.length_append, num_len, List.length_drop, cuts]
    omega
theorem nodeB_len {tree lv : Int} {top : Bool} {l : List Entry} {base : Nat} (hf : fits l lv = true) : (nodeB tree lv top l base).length ≤ 496 ∧ valid l lv = true ∧ l.length ≤ 98 := by
  unfold fits at hf
  simp only [Bool.and_eq_true] at hf
  obtain ⟨hv, hw⟩ := hf
  obtain ⟨⟨q1, q2⟩, hne, q3, _⟩ := valid_iff.1 hv
  obtain ⟨s, h1, h2⟩ := ents_weight hv l.length (Nat.le_refl _)
  rw [List.take_length] at h1
  have hws : weight l lv = some (6 + s) := by unfold weight; rw [if_pos (within_iff.2 ⟨q1, q2⟩), h1]; rfl
  rw [hws] at hw
  simp at hw
  have hpos : 0 < l.length := by cases l with | nil => exact (hne rfl).elim | cons => simp
  have hcut : (shared l lv).length ≤ cuts l lv l.length := by
    have h3 := cuts_mono l lv (i := l.length - 1) (k := l.length) (by omega)
    unfold cutAt at h3
    rw [if_neg (by omega)] at h3
    exact h3
  have hents : 5 * (l.length : Int) ≤ s := by
    have : ∀ k, k ≤ l.length → ∀ s, wsum lv (l.take k) = some s → 5 * (k : Int) ≤ s := by
      intro k
      induction k with
      | zero => intro _ s h; simp [wsum] at h; omega
      | succ k ih =>
        intro hk s h
        obtain ⟨s', g1, _⟩ := ents_weight hv k (by omega)
        have hf := (valid_form hv (show k < l.length by omega)).1
        have g2 := (restB_w hf q1).1
        have hw := wsum_take (show k < l.length by omega) g1
        rw [if_pos g2, h] at hw
        have := ih (by omega) s' g1
        have := (weigh_bound g2).1
        have := Option.some.inj hw
        omega
    exact this l.length (Nat.le_refl _) s (by rw [List.take_length]; exact h1)
  refine ⟨?_, hv, by omega⟩
  unfold nodeB
  simp only [List.length_append, num_len, offsB_len]
  omega
theorem freedsB_len : ∀ (l : List Freed), ((freedsB l).length : Int) + 6 = listed l
  | [] => by simp [freedsB, listed]
  | f :: r => by
    have h1 := freedsB_len r
    have h2 := freedB_len f
    simp only [freedsB, listed, List.flatMap_cons, List.map_cons, List.sum_cons, List.length_append] at h1 ⊢
    omega
theorem freedOk_at {l : List Freed} (h : freedOk l = true) {j : Nat} (hj : j < l.length) : (0 ≤ l[j].ver ∧ l[j].ver ≤ 1099511627776) ∧ l[j].pages ≠ [] ∧ (j = 0 ∨ l[j - 1].ver < l[j].ver) ∧ pgsOk l[j].pages = true := by
  have := List.all_eq_true.1 h j (List.mem_range.2 hj)
  rw [frAt_unf hj] at this
  simp [within] at this
  exact ⟨this.1.1, this.1.2.1, this.1.2.2, this.2⟩
theorem pgsOk_at {l : List Int} (h : pgsOk l = true) {j : Nat} (hj : j < l.length) : (2 ≤ l[j] ∧ l[j] ≤ 4095) ∧ (j = 0 ∨ l[j - 1] < l[j]) := by
  have := List.all_eq_true.1 h j (List.mem_range.2 hj)
  rw [pgAt_unf hj] at this
  simp [numbered, within] at this
  exact this

def Page.bodyB (p : Page) : Str := if p.kind = 3 then pieceB p.next p.data else if p.kind = 4 then listB p.next p.freed else nodeB p.tree p.level p.top p.entries 12
def Page.headB (p : Page) : Str := 85 :: (num p.kind.toNat 1 ++ (num p.no.toNat 4 ++ num p.ver.toNat 6))
def Page.used (p : Page) : Str := p.headB ++ p.bodyB
def Page.full (p : Page) : Str := p.used ++ zeros (508 - p.used.length)
def Page.enc (p : Page) : Str := p.full ++ crcB p.full
theorem headB_len (p : Page) : p.headB.length = 12 := by simp [Page.headB, num_len]
/-- What is known of a well-formed page. -/
theorem check_iff {p : Page} : p.check = true ↔ (2 ≤ p.no ∧ p.no ≤ 4095) ∧ (0 ≤ p.ver ∧ p.ver ≤ 1099511627776) ∧
    (((p.kind = 1 ∨ p.kind = 2) ∧ (0 ≤ p.tree ∧ p.tree ≤ 255) ∧ (p.kind = 1 ↔ p.level = 0) ∧ fits p.entries p.level = true ∧ p.next = 0 ∧ p.data = [] ∧ p.freed = []) ∨
    (p.kind = 3 ∧ p.plain = true ∧ linked p.next = true ∧ (1 ≤ p.data.length ∧ p.data.length ≤ 490) ∧ p.freed = []) ∨
    (p.kind = 4 ∧ p.plain = true ∧ linked p.next = true ∧ p.data = [] ∧ freedOk p.freed = true ∧ listed p.freed ≤ 496)) := by
  unfold Page.check
  simp only [Bool.and_eq_true, numbered, within, decide_eq_true_eq]
  by_cases h1 : p.kind = 1 ∨ p.kind = 2
  · have h3 : p.kind ≠ 3 := by omega
    have h4 : p.kind ≠ 4 := by omega
    simp only [h1, h3, h4, if_true, false_and, or_false, true_and]
    have e : (((p.kind == 1) == (p.level == 0)) = true) ↔ (p.kind = 1 ↔ p.level = 0) := by
      have e1 : (p.kind == 1) = decide (p.kind = 1) := rfl
      have e2 : (p.level == 0) = decide (p.level = 0) := rfl
      rw [e1, e2]
      by_cases a : p.kind = 1 <;> by_cases b : p.level = 0 <;> simp [a, b]
    simp [e]
  · by_cases h3 : p.kind = 3
    · simp [h3, within]
      omega
    · by_cases h4 : p.kind = 4
      · simp [h4]
      · simp [h1, h3, h4]
theorem linked_nn {k : Int} (h : linked k = true) : 0 ≤ k ∧ k ≤ 4095 := by
  simp [linked, numbered, within] at h; omega
theorem bodyB_len {p : Page} (hc : p.check = true) : p.bodyB.length ≤ 496 := by
  obtain ⟨_, _, h⟩ := check_iff.1 hc
  unfold Page.bodyB
  rcases h with ⟨h1, _, _, h2, _⟩ | ⟨h1, _, _, h2, _⟩ | ⟨h1, _, _, _, _, h2⟩
  · rw [if_neg (by omega), if_neg (by omega)]; exact (nodeB_len h2).1
  · rw [if_pos h1]; simp [pieceB, num_len]; omega
  · rw [if_neg (by omega), if_pos h1]
    have := freedsB_len p.freed
    simp only [listB, List.length_append, num_len]; omega
theorem used_len {p : Page} (hc : p.check = true) : p.used.length ≤ 508 := by
  have := bodyB_len hc
  unfold Page.used
  rw [List.length_append, headB_len]; omega
theorem full_len {p : Page} (hc : p.check = true) : p.full.length = 508 := by
  have := used_len hc
  unfold Page.full
  rw [List.length_append, zeros_len]; omega
theorem enc_len {p : Page} (hc : p.check = true) : p.enc.length = 512 := by
  unfold Page.enc
  rw [List.length_append, full_len hc]; rfl
end Go.Proofs
/- Contracts: Encode (the walk). -/
set_option linter.unusedVariables false
set_option linter.unusedSimpArgs false
namespace Go.Proofs
open Go Go.Abs
theorem frz_si' {h : AHeap} {s : Str} {k : Int} : frz h 64 (.tup [.str s, i64 k]) = some (.tup [.str s, i64 k]) := rfl
section
variable {n : Nat} {h : AHeap}
theorem encode_bad (hn : 9 ≤ n) (p : Page) (ok : p.Ok) (hc : p.check = false) : C n 12 [p.av] h = some (.ret (.tup [.str [], i64 2]), h) := by
  obtain ⟨m, rfl⟩ : ∃ m, n = m + 1 := ⟨n - 1, by omega⟩
  have ec : ∀ h, C m 16 [p.av] h = some (.ret (i64 2), h) := fun h => by rw [check_eq (by omega) p ok, hc]; rfl
  refine fun_pure F12 rfl rfl rfl (by simp [pureBs, page_pure]) ?_
  conv => whnf
  refine ldI (by rfl) ?_
  conv => whnf
  refine clI (ec _) ?_
  conv => whnf
  exact retP rfl rfl
theorem encode_good (hn : 9 ≤ n) (p : Page) (ok : p.Ok) (hc : p.check = true) : C n 12 [p.av] h = some (.ret (.tup [.str p.enc, i64 0]), h) := by
  obtain ⟨m, rfl⟩ : ∃ m, n = m + 1 := ⟨n - 1, by omega⟩
  have ec : ∀ h, C m 16 [p.av] h = some (.ret (i64 0), h) := fun h => by rw [check_eq (by omega) p ok, hc]; rfl
  obtain ⟨⟨n1, n2⟩, ⟨v1, v2⟩, kinds⟩ := check_iff.1 hc
  have hk : 1 ≤ p.kind ∧ p.kind ≤ 4 := by rcases kinds with ⟨h, _⟩ | ⟨h, _⟩ | ⟨h, _⟩ <;> omega
  refine fun_pure F12 rfl rfl rfl (by simp [pureBs, page_pure]) ?_
  conv => whnf
  refine ldI (by rfl) ?_
  conv => whnf
  refine clI (ec _) ?_
  have e1 : (([] : AHeap) ++ [AB.cells 0 (some 25) p.cells 0] ++ [AB.cells 0 (some tWri) [.nilp, .lst 0 [] true] 0])[0]? = some (.cells 0 (some 25) p.cells 0) := rfl
  have w1 : BW (([] : AHeap) ++ [AB.cells 0 (some 25) p.cells 0] ++ [AB.cells 0 (some tWri) [.nilp, .lst 0 [] true] 0]) 1 [] [1] := ⟨_, _, _, rfl, .inl rfl, .inr rfl, .inl ⟨rfl, rfl, rfl⟩⟩
  have ne1 : 0 ∉ [1] := by simp
  conv => whnf
  refine byteC (n := m) (hp := ([] : AHeap) ++ [AB.cells 0 (some 25) p.cells 0] ++ [AB.cells 0 (some tWri) [.nilp, .lst 0 [] true] 0]) (by omega) w1 85 (by simp) fun h2 F2 w2 => ?_
  have e2 := (w2.keep e1 ne1).1
  have ne2 := (w2.keep e1 ne1).2
  conv => whnf
  refine ldI e2 ?_
  conv => whnf
  refine numC (n := m) (hp := h2) (by omega) w2.1 p.kind (by omega) 1 (by omega) (by simp) fun h3 F3 w3 => ?_
  have e3 := (w3.keep e2 ne2).1
  have ne3 := (w3.keep e2 ne2).2
  conv => whnf
  refine ldI e3 ?_
  conv => whnf
  refine numC (n := m) (hp := h3) (by omega) w3.1 p.no (by omega) 4 (by omega) (by simp [num_len]) fun h4 F4 w4 => ?_
  have e4 := (w4.keep e3 ne3).1
  have ne4 := (w4.keep e3 ne3).2
  conv => whnf
  refine ldI e4 ?_
  conv => whnf
  refine numC (n := m) (hp := h4) (by omega) w4.1 p.ver (by omega) 6 (by omega) (by simp [num_len]) fun h5 F5 w5 => ?_
  have e5 := (w5.keep e4 ne4).1
  have ne5 := (w5.keep e4 ne4).2
  have hb : BW h5 1 p.headB F5 := by
    have := w5.1
    simpa [Page.headB, List.append_assoc] using this
  conv => whnf
  refine ldI e5 ?_
  conv => whnf
  have fin : ∀ (s' : LS) (h6 : AHeap) (F6 : List Nat), Wrote h5 h6 1 F5 F6 p.used → LS.sub ⟨[(4, .ptr 1 0 0)], h6, []⟩ s' → OkR Tryz.prog (C m) cfg0.inl KK 45 6 (cutOf c12) s' (RetQ Tryz.prog [.tmp 2, .tmp 3] fun v' h' => frz h' 64 v' = some (.tup [.str p.enc, i64 0])) := by
    intro s' h6 F6 w6 hs'
    have hul := used_len hc
    have w6' := w6.1
    refine cutI (by decide) rfl hs' ?_
    conv => whnf
    refine clI (Len_eq (n := m) (by omega) w6') ?_
    conv => whnf
    refine zI (z := ((508 - p.used.length : Nat) : Int)) (by rw [wrap_i64 (by omega) (by omega)]; omega) ?_
    conv => whnf
    refine clI (repeat_eq (n := m) (by omega) (508 - p.used.length) (by omega)) ?_
    conv => whnf
    refine strC (n := m) (hp := h6) (by omega) w6' (zeros (508 - p.used.length)) (by rw [zeros_len]; omega) fun h7 F7 w7 => ?_
    have hfl := full_len hc
    obtain ⟨h8, e8, w8⟩ := String_eq (n := m) (by omega) w7.1 (by intro q; have := congrArg List.length q; rw [show p.used ++ zeros (508 - p.used.length) = p.full from rfl, hfl] at this; simp at this) (by rw [show p.used ++ zeros (508 - p.used.length) = p.full from rfl, hfl]; omega)
    conv => whnf
    refine clI e8 ?_
    conv => whnf
    refine clI (ended_eq (n := m) (by omega) p.full (by omega)) ?_
    conv => whnf
    exact retP rfl rfl
  have hbo := body_eq (n := m) (h := h5) (by omega) p
  rcases kinds with ⟨k1, _, _, hf, _⟩ | ⟨k1, _, hl, ⟨_, hd⟩, _⟩ | ⟨k1, _, hl, _, hfr, hli⟩
  · have kb : p.body = .ifc 178 (.agg (nodeXs p.tree p.level p.top p.entries p.esh.sz p.esh.c)) := by unfold Page.body; rw [if_neg (by omega), if_neg (by omega)]
    have kB : p.bodyB = nodeB p.tree p.level p.top p.entries 12 := by unfold Page.bodyB; rw [if_neg (by omega), if_neg (by omega)]
    obtain ⟨_, hv, h98⟩ := nodeB_len (tree := 0) (top := true) (base := 0) hf
    obtain ⟨h6, F6, e6, w6⟩ := node_eq (n := m) (by omega) hb p.tree p.level p.top (by rcases check_iff.1 hc with ⟨_, _, ⟨_, ⟨q, _⟩, _⟩ | ⟨q, _⟩ | ⟨q, _⟩⟩ <;> omega) p.entries p.esh.sz ok.esz p.esh.c hv (by omega) (by rw [headB_len]; omega)
    rw [kb] at hbo
    refine clI hbo ?_
    conv => whnf
    refine ivI (by kernel_rfl) (by kernel_rfl) e6 ?_
    rw [headB_len] at w6
    exact fin _ h6 F6 (by unfold Page.used; rw [kB]; exact w6) ⟨rfl, rfl, rfl⟩
  · have kb : p.body = .ifc 174 (.agg [i64 p.next, .str p.data]) := by unfold Page.body; rw [if_pos k1]
    have kB : p.bodyB = pieceB p.next p.data := by unfold Page.bodyB; rw [if_pos k1]
    obtain ⟨h6, F6, e6, w6⟩ := piece_eq (n := m) (by omega) hb p.next (linked_nn hl).1 p.data (by rw [headB_len]; omega)
    rw [kb] at hbo
    refine clI hbo ?_
    conv => whnf
    refine ivI (by kernel_rfl) (by kernel_rfl) e6 ?_
    exact fin _ h6 F6 (by unfold Page.used; rw [kB]; exact w6) ⟨rfl, rfl, rfl⟩
  · have kb : p.body = .ifc 176 (.agg [i64 p.next, .lst p.fsh.sz (p.freed.map Freed.av) p.fsh.c]) := by unfold Page.body; rw [if_neg (by omega), if_pos k1]
    have kB : p.bodyB = listB p.next p.freed := by unfold Page.bodyB; rw [if_neg (by omega), if_pos k1]
    have hfl := freedsB_len p.freed
    have hfn : (p.freed.length : Int) * 8 ≤ listed p.freed := by
      have : ∀ l : List Freed, (l.length : Int) * 8 ≤ listed l := by
        intro l
        induction l with
        | nil => simp [listed]
        | cons f r ih => simp only [listed, List.map_cons, List.sum_cons, List.length_cons] at ih ⊢; omega
      exact this _
    obtain ⟨h6, F6, e6, w6⟩ := list_eq (n := m) (by omega) hb p.next (linked_nn hl).1 p.freed p.fsh.sz ok.fsz p.fsh.c (fun f hf => by
      obtain ⟨j, hj, rfl⟩ := List.getElem_of_mem hf
      obtain ⟨q1, _, _, q2⟩ := freedOk_at hfr hj
      refine ⟨(ok.fr _ hf).1, q1.1, fun k hk => ?_⟩
      obtain ⟨i, hi, rfl⟩ := List.getElem_of_mem hk
      have := (pgsOk_at q2 hi).1
      omega) (by rw [headB_len]; omega)
    rw [kb] at hbo
    refine clI hbo ?_
    conv => whnf
    refine ivI (by kernel_rfl) (by kernel_rfl) e6 ?_
    exact fin _ h6 F6 (by unfold Page.used; rw [kB]; exact w6) ⟨rfl, rfl, rfl⟩
theorem encode_eq (hn : 9 ≤ n) (p : Page) (ok : p.Ok) : C n 12 [p.av] h = some (.ret (.tup [.str (if p.check then p.enc else []), i64 (if p.check then 0 else 2)]), h) := by
  cases hc : p.check with
  | true => exact encode_good hn p ok hc
  | false => exact encode_bad hn p ok hc
end
end Go.Proofs
/- Contracts: blocks that are none: Head and Decode. -/
set_option linter.unusedVariables false
set_option linter.unusedSimpArgs false
namespace Go.Proofs
open Go Go.Abs
def headOk (s : Str) : Bool := decide (s.length = 512) && (decide (s.getD 0 0 = 85) && (decide (s.take 508 ++ crcB (s.take 508) = s) && within ((s.getD 1 0).toNat : Int) 1 4))
def zeroP : List AV := [i64 0, i64 0, i64 0, i64 0, i64 0, .bool false, .lst 0 [] true, i64 0, .str [], .lst 0 [] true]
section
variable {n : Nat} {h : AHeap}
theorem u8_eq85 (c : UInt8) : ((c.toNat : Int) = 85) ↔ c = 85 := by
  constructor
  · intro h; exact UInt8.toNat_inj.1 (by simpa using (by omega : c.toNat = 85))
  · rintro rfl; rfl
theorem head_bad (hn : 4 ≤ n) (s : Str) (hb : headOk s = false) : C n 18 [.str s] h = some (.ret (.tup [i64 0, i64 0, i64 0, i64 8]), h) := by
  obtain ⟨m, rfl⟩ : ∃ m, n = m + 1 := ⟨n - 1, by omega⟩
  refine fun_pure F18 rfl rfl rfl rfl ?_
  have fin : ∀ {L : LT} {hp : AHeap}, lk L 2 = some (i64 0) → lk L 3 = some (i64 0) → lk L 4 = some (i64 0) → lk L 5 = some (i64 8) → RetQ Tryz.prog [.tmp 2, .tmp 3, .tmp 4, .tmp 5] (fun v' h' => frz h' 64 v' = some (.tup [i64 0, i64 0, i64 0, i64 8])) .ret ⟨L, hp, []⟩ := fun {L hp} h2 h3 h4 h5 => ⟨rfl, [i64 0, i64 0, i64 0, i64 8], by simp [resAL, h2, h3, h4, h5], rfl⟩
  conv => whnf
  refine brq (fun a => ?_) (fun a => ?_)
  · conv => whnf
    exact fin rfl rfl rfl rfl
  have hl : s.length = 512 := by omega
  have e0 : s.getD 0 0 = s[0]'(by omega) := by simp [hl]
  have e1 : s.getD 1 0 = s[1]'(by omega) := by simp [hl]
  conv => whnf
  refine strI (b := s[0]'(by omega)) (by omega) (List.getElem?_eq_getElem (by omega)) ?_
  conv => whnf
  refine brq (fun a0 => ?_) (fun a0 => ?_)
  · conv => whnf
    exact fin rfl rfl rfl rfl
  rw [u8_eq85] at a0
  conv => whnf
  refine ss_hi (c := 508) (by omega) ?_
  conv => whnf
  refine clI (ended_eq (n := m) (by omega) (s.take 508) (by rw [List.length_take]; omega)) ?_
  conv => whnf
  refine br (fun a2 => ?_) (fun a2 => ?_)
  · conv => whnf
    exact fin rfl rfl rfl rfl
  have a2' : s.take 508 ++ crcB (s.take 508) = s := by simpa using a2
  conv => whnf
  refine strI (b := s[1]'(by omega)) (by omega) (List.getElem?_eq_getElem (by omega)) ?_
  conv => whnf
  refine zI (z := ((s[1]'(by omega)).toNat : Int)) (by have := (s[1]'(by omega)).toNat_lt; exact wrap_i64 (by omega) (by omega)) ?_
  conv => whnf
  refine clI (within_eq (by omega) _ _ _) ?_
  conv => whnf
  refine brn (fun a3 => ?_) (fun a3 => ?_)
  · conv => whnf
    exact fin rfl rfl rfl rfl
  · exfalso
    unfold headOk at hb
    rw [e0, e1, a0, a3] at hb
    simp [hl, a2'] at hb
set_option maxRecDepth 10000 in
theorem decode_bad (hn : 5 ≤ n) (s : Str) (hb : headOk s = false) : C n 14 [.str s] h = some (.ret (.tup [.agg zeroP, i64 8]), h) := by
  obtain ⟨m, rfl⟩ : ∃ m, n = m + 1 := ⟨n - 1, by omega⟩
  refine fun_pure F14 rfl rfl rfl rfl ?_
  conv => whnf
  refine clI (head_bad (n := m) (by omega) s hb) ?_
  conv => whnf
  refine stI (xs := zeroP) (by rfl) (by rfl) (by rfl) (by rfl) (by rfl) ?_
  refine ⟨rfl, [.agg zeroP, i64 8], ?_, rfl⟩
  have el : loadA Tryz.prog [.cells 0 (some 25) zeroP 0] 25 (.ptr 0 0 0) = some (.agg zeroP) := load_agg (N := 10) (by kernel_rfl) rfl rfl
  show (match loadA Tryz.prog [.cells 0 (some 25) zeroP 0] 25 (.ptr 0 0 0) with | some v => some [v, i64 8] | none => none) = _
  rw [el]
end
end Go.Proofs
/- Contracts: the deferred function that recovers. -/
set_option linter.unusedVariables false
set_option linter.unusedSimpArgs false
namespace Go.Proofs
open Go Go.Abs
def cRec : RC := match c118 with
  | .seq _ r => r
  | _ => .skip
theorem D118 : DefI 118 2 17 5 [] (some 5) [⟨some 2, none, .op (.mv (.t 5))⟩] cRec :=
  ⟨⟨Tryz.f118, Tryz.func118, by kernel_rfl, by kernel_rfl, by kernel_rfl⟩, by kernel_rfl, by decide, by kernel_rfl, by kernel_rfl, by kernel_rfl⟩
section
variable {m : Nat} {h : AHeap} {P I : Nat}
theorem rec_ret : ∃ h', evalDef Tryz.prog (C m) (drawA Tryz.prog cfg0.inl (C m)) KK 118 [.ptr P 0 0, .ptr I 0 0] .ret h = some (.ret, h') ∧ h' = h := by
  refine def_wp D118 rfl ?_
  conv => whnf
  exact ⟨rfl, ⟨[], rfl⟩, rfl⟩
theorem rec_bad {cs : List AV} {b : Bool} (hP : h[P]? = some (.cells 0 (some 25) cs 0)) (hc : cs.length = 10) (hI : h[I]? = some (.cells 0 (some 4) [.bool b] 0)) :
    ∃ h', evalDef Tryz.prog (C m) (drawA Tryz.prog cfg0.inl (C m)) KK 118 [.ptr P 0 0, .ptr I 0 0] (.pan badV false) h = some (.pan badV true, h') ∧ h'[P]? = some (.cells 0 (some 25) zeroP 0) ∧ h'[I]? = some (.cells 0 (some 4) [.bool false] 0) := by
  refine def_wp D118 rfl ?_
  conv => whnf
  refine stI (get_last _ _) (by rfl) (by rfl) (by rfl) (by rfl) ?_
  have lP := lt_of_get hP
  have lI := lt_of_get hI
  have nPI : P ≠ I := by
    rintro rfl
    rw [hP] at hI
    have := (AB.cells.inj (Option.some.inj hI)).2.1
    exact absurd (Option.some.inj this) (by decide)
  have e1 : ((h ++ [AB.cells 0 (some 190) [] 0]).set h.length (AB.cells 0 (some 190) (putAt [] 0 []) 0))[P]? = some (.cells 0 (some 25) cs 0) := by
    rw [List.getElem?_set_ne (by omega), List.getElem?_append_left lP]; exact hP
  have e2 : ((h ++ [AB.cells 0 (some 190) [] 0]).set h.length (AB.cells 0 (some 190) (putAt [] 0 []) 0))[I]? = some (.cells 0 (some 4) [.bool b] 0) := by
    rw [List.getElem?_set_ne (by omega), List.getElem?_append_left lI]; exact hI
  have hput : putAt cs 0 zeroP = zeroP := by
    unfold putAt
    rw [List.take_zero, List.nil_append, List.drop_of_length_le (by rw [hc]; decide), List.append_nil]
  conv => whnf
  refine stI (xs := zeroP) e1 (by rfl) (by rfl) (by rw [hc]; decide) (by rfl) ?_
  conv => whnf
  refine stI (cs := [.bool b]) (by rw [List.getElem?_set_ne nPI]; exact e2) (by rfl) (by rfl) (by rfl) (by rfl) ?_
  refine ⟨rfl, ⟨[], rfl⟩, ?_, ?_⟩
  · rw [List.getElem?_set_ne (Ne.symm nPI), List.getElem?_set_self (lt_of_get e1), hput]
  · rw [List.getElem?_set_self (by rw [List.length_set]; exact lt_of_get e2)]
    rfl
end
end Go.Proofs
/- Contracts: blocks whose bodies are read. -/
set_option linter.unusedVariables false
set_option linter.unusedSimpArgs false
namespace Go.Proofs
open Go Go.Abs
inductive Bdy where
  | nd (x : NodeP)
  | pc (x : Nat × Str)
  | ls (x : Nat × List (Nat × List Nat))
def pbody (k : Nat) (s : Str) : Option Bdy := if k = 1 ∨ k = 2 then (pnode s).map fun x => .nd x.1 else if k = 3 then (ppiece s).map fun x => .pc x.1 else (plist s).map fun x => .ls x.1
structure Blk where
  kind : Nat
  no : Nat
  ver : Nat
  bd : Bdy
def pread (s : Str) : Option Blk := (pnum 1 ((s.take 508).drop 1)).bind fun k => (pnum 4 k.2).bind fun no => (pnum 6 no.2).bind fun v => (pbody k.1 v.2).map fun b => ⟨k.1, no.1, v.1, b⟩
/-- What a page has that was read. -/
def BdIs (q : Page) : Bdy → Prop
  | .nd x => q.tree = x.tree ∧ q.level = x.lv ∧ q.top = x.top ∧ q.entries = x.es ∧ q.next = 0 ∧ q.data = [] ∧ q.freed = []
  | .pc x => q.tree = 0 ∧ q.level = 0 ∧ q.top = false ∧ q.entries = [] ∧ q.next = x.1 ∧ q.data = x.2 ∧ q.freed = []
  | .ls x => q.tree = 0 ∧ q.level = 0 ∧ q.top = false ∧ q.entries = [] ∧ q.next = x.1 ∧ q.data = [] ∧ FsAre q.freed x.2
structure BlkIs (q : Page) (x : Blk) : Prop where
  kind : q.kind = x.kind
  no : q.no = x.no
  ver : q.ver = x.ver
  bd : BdIs q x.bd
  esz : q.entries ≠ [] → q.esh.sz = 22
  fsz : q.freed ≠ [] → q.fsh.sz = 2
def zeroPg : Page := ⟨0, 0, 0, 0, 0, false, ⟨0, true⟩, [], 0, [], ⟨0, true⟩, []⟩
theorem zeroPg_cells : zeroPg.cells = zeroP := rfl
def ReadS (s : Str) (r : CRes) : Prop := match pread s with
  | none => r = .ret (.tup [.agg zeroP, .bool false])
  | some x => ∃ q : Page, r = .ret (.tup [q.av, .bool true]) ∧ BlkIs q x
theorem gs {h : AHeap} {x y : Nat} {v w : AB} (e : h[x]? = some v) (n : y ≠ x) : (h.set y w)[x]? = some v := by rw [List.getElem?_set_ne n]; exact e
theorem ge {h : AHeap} {x : Nat} {v w : AB} (e : h[x]? = some v) : (h.set x w)[x]? = some w := List.getElem?_set_self (lt_of_get e)
theorem cells_of {xs : List AV} (h : xs.all AV.scal = true) : AV.cells? (.agg xs) = some xs := by
  show (if xs.all AV.scal = true then some xs else none) = _
  rw [if_pos h]
theorem pg_cells {a b c d e g : Int} {f : Bool} {t : Str} {L L' : AV} (h1 : L.scal = true) (h2 : L'.scal = true) : AV.cells? (.agg [i64 a, i64 b, i64 c, i64 d, i64 e, .bool f, L, i64 g, .str t, L']) = some [i64 a, i64 b, i64 c, i64 d, i64 e, .bool f, L, i64 g, .str t, L'] := cells_of (by simp only [List.all_cons, List.all_nil, h1, h2, Bool.and_true]; rfl)
theorem GBuf.one {el : TypeId} {sz : Nat} {h : AHeap} {X : Nat} {L : AV} {rows : List (List AV)} {G : List Nat} (g : GBuf el sz h X L rows G) : L.cells? = some [L] ∧ L.scal = true := by
  rcases g.2 with ⟨rfl, _⟩ | ⟨eb, ver, frz, rfl, _⟩ <;> exact ⟨rfl, rfl⟩
theorem allM_page {h : AHeap} {a b c d e g : Int} {f : Bool} {t : Str} {L M L' M' : AV} (h1 : Abs.frz h 62 L = some M) (h2 : Abs.frz h 62 L' = some M') :
    allM (Abs.frz h 62) [i64 a, i64 b, i64 c, i64 d, i64 e, .bool f, L, i64 g, .str t, L'] = some [i64 a, i64 b, i64 c, i64 d, i64 e, .bool f, M, i64 g, .str t, M'] := by
  have fi : ∀ k : Int, Abs.frz h 62 (i64 k) = some (i64 k) := fun _ => rfl
  have fb : Abs.frz h 62 (.bool f) = some (.bool f) := rfl
  have fs : Abs.frz h 62 (.str t) = some (.str t) := rfl
  simp only [allM, fi, fb, fs, h1, h2]
theorem frz_nil {h : AHeap} : Abs.frz h 62 (.lst 0 [] true) = some (.lst 0 [] true) := rfl
theorem LV.stays' {h h' : AHeap} {Y b : Nat} {LL : AV} {ts : List FT} {G I : List Nat} (v : LV h Y LL ts G I) (hG : ∀ z ∈ G, b ≤ z) (hI : ∀ z ∈ I, b ≤ z) (e : ∀ x, b ≤ x → x < h.length → h'[x]? = h[x]?) : LV h' Y LL ts G I := by
  refine ⟨⟨v.buf.1, ?_⟩, fun t ht => ?_⟩
  · rcases v.buf.2 with r | ⟨eb, ver, frz, h1, h2, h3, h4, rfl⟩
    · exact .inl r
    · exact .inr ⟨eb, ver, frz, h1, by rw [e eb (hG eb (by simp)) (lt_of_get h2)]; exact h2, h3, h4, rfl⟩
  · rcases v.inr t ht with r | ⟨eb, ver, frz, h1, h2, h3⟩
    · exact .inl r
    · exact .inr ⟨eb, ver, frz, h1, by rw [e eb (hI eb h3) (lt_of_get h2)]; exact h2, h3⟩
structure RS (h : AHeap) (cs : List AV) (t : Str) : Prop where
  p : h[0]? = some (.cells 0 (some 25) cs 0)
  i : h[1]? = some (.cells 0 (some 4) [.bool false] 0)
  r : RDs h 2 t
theorem RS.next {h h' : AHeap} {cs : List AV} {t t' : Str} (a : RS h cs t) (k : Keep h h' [2]) (r : RDs h' 2 t') : RS h' cs t' := ⟨k.get a.p (by simp), k.get a.i (by simp), r⟩
theorem RS.set {h : AHeap} {cs cs' : List AV} {t : Str} (a : RS h cs t) : RS (h.set 0 (.cells 0 (some 25) cs' 0)) cs' t := ⟨ge a.p, gs a.i (by decide), a.r.stays (Keep.set (F := [0]) (by simp)) (by simp)⟩
section
variable {m : Nat} {s : Str}
abbrev ReadQ (m : Nat) (s : Str) : Ex → LS → Prop := EndQ Tryz.prog (C m) cfg0.inl [.cell 2 25, .cell 3 4] (fun r h => ∃ r', OutR r' r h ∧ ReadS s r')
abbrev dfR : List DI := [.fn 118 [.ptr 0 0 0, .ptr 1 0 0]]
theorem fine_rec : fnOk Tryz.prog 118 = true := D118.fine
theorem page_ld {h : AHeap} {b : Nat} {cs : List AV} (hl : cs.length = 10) (hb : h[b]? = some (.cells 0 (some 25) cs 0)) : loadA Tryz.prog h 25 (.ptr b 0 0) = some (.agg cs) := load_agg (N := 10) (by kernel_rfl) hl hb
theorem bool_ld {h : AHeap} {b : Nat} {v : AV} (hb : h[b]? = some (.cells 0 (some 4) [v] 0)) : loadA Tryz.prog h 4 (.ptr b 0 0) = some v := load_one (N := 1) (by kernel_rfl) hb
theorem read_fails {L : LT} {h : AHeap} {cs : List AV} (hn : pread s = none) (h2 : lk L 2 = some (.ptr 0 0 0)) (h3 : lk L 3 = some (.ptr 1 0 0)) (hP : h[0]? = some (.cells 0 (some 25) cs 0)) (hc : cs.length = 10) (hI : h[1]? = some (.cells 0 (some 4) [.bool false] 0)) : ReadQ m s (.pan badV) ⟨L, h, dfR⟩ := by
  obtain ⟨h', e, g1, g2⟩ := rec_bad (m := m) hP hc hI
  refine ⟨fine_rec, _, h', e, [.agg zeroP, .bool false], ?_, _, ⟨_, rfl, rfl⟩, ?_⟩
  · simp only [resAL, h2, h3, page_ld rfl g1, bool_ld g2]
  · unfold ReadS
    rw [hn]
    rfl
theorem read_good {L : LT} {h : AHeap} {cs : List AV} (h2 : lk L 2 = some (.ptr 0 0 0)) (h3 : lk L 3 = some (.ptr 1 0 0)) (hP : h[0]? = some (.cells 0 (some 25) cs 0)) (hc : cs.length = 10) (hI : h[1]? = some (.cells 0 (some 4) [.bool true] 0)) {q : Page} (hf : allM (frz h 62) cs = some q.cells) {x : Blk} (hx : pread s = some x) (hq : BlkIs q x) : ReadQ m s .ret ⟨L, h, dfR⟩ := by
  obtain ⟨h', e, rfl⟩ := rec_ret (m := m) (h := h) (P := 0) (I := 1)
  refine ⟨fine_rec, _, h', e, [.agg cs, .bool true], ?_, .ret (.tup [q.av, .bool true]), ⟨_, ?_, rfl⟩, ?_⟩
  · simp only [resAL, h2, h3, page_ld hc hP, bool_ld hI]
  · show frz h' 64 (.tup [.agg cs, .bool true]) = some (.tup [q.av, .bool true])
    have e1 : frz h' 63 (.agg cs) = some q.av := by
      unfold frz
      simp only [hf]
      rfl
    unfold frz allM allM
    simp only [e1]
    rfl
  · unfold ReadS
    rw [hx]
    exact ⟨q, rfl, hq⟩
abbrev pgCells (k no v : Nat) : List AV := [i64 k, i64 no, i64 v, i64 0, i64 0, .bool false, .lst 0 [] true, i64 0, .str [], .lst 0 [] true]
set_option maxRecDepth 10000 in
theorem rest_node (hn : 6 ≤ m) {h3 : AHeap} {k no v : Nat} {t : Str} (a : RS h3 (pgCells k no v) t) (hk : k = 1 ∨ k = 2) (hx : pread s = (pbody k t).map fun b => ⟨k, no, v, b⟩) :
    OkR Tryz.prog (C m) cfg0.inl KK 61 6 (cutOf c67) ⟨[(2, .ptr 0 0 0), (3, .ptr 1 0 0), (4, .ptr 2 0 0)], h3, dfR⟩ (ReadQ m s) := by
  refine cutS (by decide) rfl ?_
  conv => whnf
  refine ldI a.p ?_
  obtain ⟨r4, h4, eB, sB⟩ := node_rd (n := m) (by omega) a.r (k : Int) (by omega)
  have l3 := a.r.lt
  conv => whnf
  cases hp : pnode t with
  | none =>
    rw [hp] at sB
    obtain ⟨rfl, k4⟩ := sB
    refine clP eB ?_
    exact read_fails (by rw [hx]; simp only [pbody, if_pos hk, hp, Option.map_none]) rfl rfl (k4.get a.p (by simp)) rfl (k4.get a.i (by simp))
  | some x =>
    obtain ⟨x, u⟩ := x
    rw [hp] at sB
    obtain ⟨X, L, G, rfl, r4, g4, k4, lX, gG⟩ := sB
    have g1 := g4.one
    have lG := g4.lt lX
    have e0 := k4.get a.p (by simp)
    have eI := k4.get a.i (by simp)
    have l0 := lt_of_get e0
    have l1 := lt_of_get eI
    refine clI eB ?_
    conv => whnf
    refine stI (xs := [i64 x.tree, i64 x.lv, .bool x.top, L]) (get_last _ _) (cells_of (by simp only [List.all_cons, List.all_nil, g1.2, Bool.and_true]; rfl)) (by rfl) (by rfl) (by rfl) ?_
    have es : (h4 ++ [AB.cells 0 (some 178) [i64 0, i64 0, .bool false, .lst 0 [] true] 0]).set h4.length (AB.cells 0 (some 178) (putAt [i64 0, i64 0, .bool false, .lst 0 [] true] 0 [i64 x.tree, i64 x.lv, .bool x.top, L]) 0) = h4 ++ [AB.cells 0 (some 178) [i64 x.tree, i64 x.lv, .bool x.top, L] 0] := by simp [putAt]
    have fin : ∀ hf : AHeap, (∀ y ∈ G, hf[y]? = h4[y]?) → hf[0]? = some (.cells 0 (some 25) [i64 k, i64 no, i64 v, i64 x.tree, i64 x.lv, .bool x.top, L, i64 0, .str [], .lst 0 [] true] 0) → hf[1]? = some (.cells 0 (some 4) [.bool true] 0) → ∀ Lt : LT, lk Lt 2 = some (.ptr 0 0 0) → lk Lt 3 = some (.ptr 1 0 0) → ReadQ m s .ret ⟨Lt, hf, dfR⟩ := fun hf hG hP hI Lt h2 h3 => by
      obtain ⟨sh, f1, f2⟩ := frz_ents (g4.stays fun y hy _ => hG y hy) 60
      exact read_good (x := ⟨k, no, v, .nd x⟩) (q := ⟨k, no, v, x.tree, x.lv, x.top, sh, x.es, 0, [], ⟨0, true⟩, []⟩) h2 h3 hP rfl hI (allM_page f1 frz_nil) (by rw [hx]; simp only [pbody, if_pos hk, hp, Option.map_some]) ⟨rfl, rfl, rfl, ⟨rfl, rfl, rfl, rfl, rfl, rfl, rfl⟩, f2, fun h => (h rfl).elim⟩
    have n0 : (h4.length : Nat) ≠ 0 := by omega
    have n1 : (h4.length : Nat) ≠ 1 := by omega
    have eX := get_set_last h4 (AB.cells 0 (some 178) [i64 0, i64 0, .bool false, .lst 0 [] true] 0) (AB.cells 0 (some 178) (putAt [i64 0, i64 0, .bool false, .lst 0 [] true] 0 [i64 x.tree, i64 x.lv, .bool x.top, L]) 0)
    have eP := gs (w := AB.cells 0 (some 178) (putAt [i64 0, i64 0, .bool false, .lst 0 [] true] 0 [i64 x.tree, i64 x.lv, .bool x.top, L]) 0) (get_app (x := AB.cells 0 (some 178) [i64 0, i64 0, .bool false, .lst 0 [] true] 0) e0) n0
    have eJ := gs (w := AB.cells 0 (some 178) (putAt [i64 0, i64 0, .bool false, .lst 0 [] true] 0 [i64 x.tree, i64 x.lv, .bool x.top, L]) 0) (get_app (x := AB.cells 0 (some 178) [i64 0, i64 0, .bool false, .lst 0 [] true] 0) eI) n1
    conv => whnf
    refine ldI eX ?_
    conv => whnf
    refine ldI eX ?_
    conv => whnf
    refine ldI eX ?_
    conv => whnf
    refine ldI eX ?_
    conv => whnf
    refine stI eP (by rfl) (by rfl) (by rfl) (by rfl) ?_
    conv => whnf
    refine ⟨?_, ?_⟩
    · repeat' (conv => whnf); first | exact ldI (gs eX n0.symm) rfl | refine ⟨?_, ?_⟩
    conv => whnf
    refine stI (ge eP) (by rfl) (by rfl) (by rfl) (by rfl) ?_
    conv => whnf
    refine ⟨?_, ?_⟩
    · repeat' (conv => whnf); first | exact ldI (gs (gs eX n0.symm) n0.symm) rfl | refine ⟨?_, ?_⟩
    conv => whnf
    refine stI (ge (ge eP)) (by rfl) (by rfl) (by rfl) (by rfl) ?_
    conv => whnf
    refine ⟨?_, ?_⟩
    · repeat' (conv => whnf); first | exact ldI (gs (gs (gs eX n0.symm) n0.symm) n0.symm) rfl | refine ⟨?_, ?_⟩
    conv => whnf
    refine stI (ge (ge (ge eP))) g1.1 (by rfl) (by rfl) (by rfl) ?_
    conv => whnf
    refine ldI (ge (ge (ge (ge eP)))) ?_
    conv => whnf
    refine stI (xs := [i64 k, i64 no, i64 v, i64 x.tree, i64 x.lv, .bool x.top, L, i64 0, .str [], .lst 0 [] true]) (ge (ge (ge (ge eP)))) (pg_cells g1.2 rfl) (by rfl) (by rfl) (by rfl) ?_
    conv => whnf
    refine stI (gs (gs (gs (gs (gs eJ (by decide)) (by decide)) (by decide)) (by decide)) (by decide)) (by rfl) (by rfl) (by rfl) (by rfl) ?_
    refine fin _ (fun y hy => ?_) (gs (ge (ge (ge (ge (ge eP))))) (by decide)) (ge (gs (gs (gs (gs (gs eJ (by decide)) (by decide)) (by decide)) (by decide)) (by decide))) _ rfl rfl
    have y1 := gG y hy
    have y2 := lG y hy
    rw [List.getElem?_set_ne (by omega), List.getElem?_set_ne (by omega), List.getElem?_set_ne (by omega), List.getElem?_set_ne (by omega), List.getElem?_set_ne (by omega), List.getElem?_set_ne (by omega), List.getElem?_set_ne (by omega), List.getElem?_append_left y2]
set_option maxRecDepth 10000 in
theorem rest_piece (hn : 6 ≤ m) {h3 : AHeap} {k no v : Nat} {t : Str} (a : RS h3 (pgCells k no v) t) (hk : k = 3) (hx : pread s = (pbody k t).map fun b => ⟨k, no, v, b⟩) :
    OkR Tryz.prog (C m) cfg0.inl KK 61 6 (cutOf c67) ⟨[(2, .ptr 0 0 0), (3, .ptr 1 0 0), (4, .ptr 2 0 0)], h3, dfR⟩ (ReadQ m s) := by
  refine cutS (by decide) rfl ?_
  conv => whnf
  refine ldI a.p ?_
  obtain ⟨r4, h4, eB, sB⟩ := (by rw [hk]; exact piece_rd (n := m) (by omega) a.r : ∃ r h, C m 119 [.ptr 2 0 0, i64 (k : Nat)] h3 = some (r, h) ∧ StepR (ppiece t) (PieceR h3 2) (fun h => Keep h3 h [2]) r h)
  have l3 := a.r.lt
  conv => whnf
  cases hp : ppiece t with
  | none =>
    rw [hp] at sB
    obtain ⟨rfl, k4⟩ := sB
    refine clP eB ?_
    exact read_fails (by rw [hx]; simp only [pbody, if_neg (show ¬(k = 1 ∨ k = 2) by omega), if_pos hk, hp, Option.map_none]) rfl rfl (k4.get a.p (by simp)) rfl (k4.get a.i (by simp))
  | some x =>
    obtain ⟨x, u⟩ := x
    rw [hp] at sB
    obtain ⟨rfl, r4, k4⟩ := sB
    have l4 := k4.1
    have e0 := k4.get a.p (by simp)
    have eI := k4.get a.i (by simp)
    have l0 := lt_of_get e0
    have l1 := lt_of_get eI
    refine clI eB ?_
    conv => whnf
    refine stI (xs := [i64 x.1, .str x.2]) (get_last _ _) (cells_of (by simp only [List.all_cons, List.all_nil,  Bool.and_true]; rfl)) (by rfl) (by rfl) (by rfl) ?_
    have fin : ∀ hf : AHeap, hf[0]? = some (.cells 0 (some 25) [i64 k, i64 no, i64 v, i64 0, i64 0, .bool false, .lst 0 [] true, i64 x.1, .str x.2, .lst 0 [] true] 0) → hf[1]? = some (.cells 0 (some 4) [.bool true] 0) → ∀ Lt : LT, lk Lt 2 = some (.ptr 0 0 0) → lk Lt 3 = some (.ptr 1 0 0) → ReadQ m s .ret ⟨Lt, hf, dfR⟩ := fun hf hP hI Lt h2 h3 => by
      exact read_good (x := ⟨k, no, v, .pc x⟩) (q := ⟨k, no, v, 0, 0, false, ⟨0, true⟩, [], x.1, x.2, ⟨0, true⟩, []⟩) h2 h3 hP rfl hI (allM_page frz_nil frz_nil) (by rw [hx]; simp only [pbody, if_neg (show ¬(k = 1 ∨ k = 2) by omega), if_pos hk, hp, Option.map_some]) ⟨rfl, rfl, rfl, ⟨rfl, rfl, rfl, rfl, rfl, rfl, rfl⟩, fun h => (h rfl).elim, fun h => (h rfl).elim⟩
    have n0 : (h4.length : Nat) ≠ 0 := by omega
    have n1 : (h4.length : Nat) ≠ 1 := by omega
    have eX := get_set_last h4 (AB.cells 0 (some 174) [i64 0, .str []] 0) (AB.cells 0 (some 174) (putAt [i64 0, .str []] 0 [i64 x.1, .str x.2]) 0)
    have eP := gs (w := AB.cells 0 (some 174) (putAt [i64 0, .str []] 0 [i64 x.1, .str x.2]) 0) (get_app (x := AB.cells 0 (some 174) [i64 0, .str []] 0) e0) n0
    have eJ := gs (w := AB.cells 0 (some 174) (putAt [i64 0, .str []] 0 [i64 x.1, .str x.2]) 0) (get_app (x := AB.cells 0 (some 174) [i64 0, .str []] 0) eI) n1
    conv => whnf
    refine ldI eX ?_
    conv => whnf
    refine ldI eX ?_
    conv => whnf
    refine stI eP (by rfl) (by rfl) (by rfl) (by rfl) ?_
    conv => whnf
    refine ⟨?_, ?_⟩
    · repeat' (conv => whnf); first | exact ldI (gs eX n0.symm) rfl | refine ⟨?_, ?_⟩
    conv => whnf
    refine stI (ge eP) (by rfl) (by rfl) (by rfl) (by rfl) ?_
    conv => whnf
    refine ldI (ge (ge eP)) ?_
    conv => whnf
    refine stI (xs := [i64 k, i64 no, i64 v, i64 0, i64 0, .bool false, .lst 0 [] true, i64 x.1, .str x.2, .lst 0 [] true]) (ge (ge eP)) (pg_cells rfl rfl) (by rfl) (by rfl) (by rfl) ?_
    conv => whnf
    refine stI (gs (gs (gs eJ (by decide)) (by decide)) (by decide)) (by rfl) (by rfl) (by rfl) (by rfl) ?_
    exact fin _ (gs (ge (ge (ge eP))) (by decide)) (ge (gs (gs (gs eJ (by decide)) (by decide)) (by decide))) _ rfl rfl
set_option maxRecDepth 10000 in
theorem rest_list (hn : 6 ≤ m) {h3 : AHeap} {k no v : Nat} {t : Str} (a : RS h3 (pgCells k no v) t) (hk : ¬(k = 1 ∨ k = 2)) (hk3 : k ≠ 3) (hx : pread s = (pbody k t).map fun b => ⟨k, no, v, b⟩) :
    OkR Tryz.prog (C m) cfg0.inl KK 61 6 (cutOf c67) ⟨[(2, .ptr 0 0 0), (3, .ptr 1 0 0), (4, .ptr 2 0 0)], h3, dfR⟩ (ReadQ m s) := by
  refine cutS (by decide) rfl ?_
  conv => whnf
  refine ldI a.p ?_
  obtain ⟨r4, h4, eB, sB⟩ := list_rd (n := m) (by omega) a.r (k : Int) (by omega) (by omega) (by omega)
  have l3 := a.r.lt
  conv => whnf
  cases hp : plist t with
  | none =>
    rw [hp] at sB
    obtain ⟨rfl, k4⟩ := sB
    refine clP eB ?_
    exact read_fails (by rw [hx]; simp only [pbody, if_neg hk, if_neg hk3, hp, Option.map_none]) rfl rfl (k4.get a.p (by simp)) rfl (k4.get a.i (by simp))
  | some x =>
    obtain ⟨x, u⟩ := x
    rw [hp] at sB
    obtain ⟨Y, LL, ts, G, I, rfl, hts, r4, lv, k4, gG, gI⟩ := sB
    have l4 := k4.1
    have g1 := lv.buf.one
    have e0 := k4.get a.p (by simp)
    have eI := k4.get a.i (by simp)
    have l0 := lt_of_get e0
    have l1 := lt_of_get eI
    refine clI eB ?_
    conv => whnf
    refine stI (xs := [i64 x.1, LL]) (get_last _ _) (cells_of (by simp only [List.all_cons, List.all_nil, g1.2, Bool.and_true]; rfl)) (by rfl) (by rfl) (by rfl) ?_
    have fin : ∀ hf : AHeap, (∀ y, h3.length ≤ y → y < h4.length → hf[y]? = h4[y]?) → hf[0]? = some (.cells 0 (some 25) [i64 k, i64 no, i64 v, i64 0, i64 0, .bool false, .lst 0 [] true, i64 x.1, .str [], LL] 0) → hf[1]? = some (.cells 0 (some 4) [.bool true] 0) → ∀ Lt : LT, lk Lt 2 = some (.ptr 0 0 0) → lk Lt 3 = some (.ptr 1 0 0) → ReadQ m s .ret ⟨Lt, hf, dfR⟩ := fun hf hE hP hI Lt h2 h3 => by
      obtain ⟨sh, fs, f1, f2, f3⟩ := frz_list (lv.stays' gG gI hE) 59
      rw [← hts] at f3
      exact read_good (x := ⟨k, no, v, .ls x⟩) (q := ⟨k, no, v, 0, 0, false, ⟨0, true⟩, [], x.1, [], sh, fs⟩) h2 h3 hP rfl hI (allM_page frz_nil f1) (by rw [hx]; simp only [pbody, if_neg hk, if_neg hk3, hp, Option.map_some]) ⟨rfl, rfl, rfl, ⟨rfl, rfl, rfl, rfl, rfl, rfl, f3⟩, fun h => (h rfl).elim, f2⟩
    have n0 : (h4.length : Nat) ≠ 0 := by omega
    have n1 : (h4.length : Nat) ≠ 1 := by omega
    have eX := get_set_last h4 (AB.cells 0 (some 176) [i64 0, .lst 0 [] true] 0) (AB.cells 0 (some 176) (putAt [i64 0, .lst 0 [] true] 0 [i64 x.1, LL]) 0)
    have eP := gs (w := AB.cells 0 (some 176) (putAt [i64 0, .lst 0 [] true] 0 [i64 x.1, LL]) 0) (get_app (x := AB.cells 0 (some 176) [i64 0, .lst 0 [] true] 0) e0) n0
    have eJ := gs (w := AB.cells 0 (some 176) (putAt [i64 0, .lst 0 [] true] 0 [i64 x.1, LL]) 0) (get_app (x := AB.cells 0 (some 176) [i64 0, .lst 0 [] true] 0) eI) n1
    conv => whnf
    refine ldI eX ?_
    conv => whnf
    refine ldI eX ?_
    conv => whnf
    refine stI eP (by rfl) (by rfl) (by rfl) (by rfl) ?_
    conv => whnf
    refine ⟨?_, ?_⟩
    · repeat' (conv => whnf); first | exact ldI (gs eX n0.symm) rfl | refine ⟨?_, ?_⟩
    conv => whnf
    refine stI (ge eP) g1.1 (by rfl) (by rfl) (by rfl) ?_
    conv => whnf
    refine ldI (ge (ge eP)) ?_
    conv => whnf
    refine stI (xs := [i64 k, i64 no, i64 v, i64 0, i64 0, .bool false, .lst 0 [] true, i64 x.1, .str [], LL]) (ge (ge eP)) (pg_cells rfl g1.2) (by rfl) (by rfl) (by rfl) ?_
    conv => whnf
    refine stI (gs (gs (gs eJ (by decide)) (by decide)) (by decide)) (by rfl) (by rfl) (by rfl) (by rfl) ?_
    refine fin _ (fun y y1 y2 => ?_) (gs (ge (ge (ge eP))) (by decide)) (ge (gs (gs (gs eJ (by decide)) (by decide)) (by decide))) _ rfl rfl
    rw [List.getElem?_set_ne (by omega), List.getElem?_set_ne (by omega), List.getElem?_set_ne (by omega), List.getElem?_set_ne (by omega), List.getElem?_set_ne (by omega), List.getElem?_append_left y2]
theorem okR_sub {P : Program} {call : CallF} {inl : FuncId → Bool} {k n d : Nat} {rc : RC} {Q : Ex → LS → Prop} {s t : LS} (hs : LS.sub t s) (hw : OkR P call inl k n d rc t Q) : OkR P call inl k n d rc s Q := by
  intro c hc tm H
  obtain ⟨e1, e2, e3⟩ := hs
  have := hw c hc tm (HasL.sub e1 H)
  rw [← e2, ← e3] at this
  exact this
set_option maxRecDepth 10000 in
theorem read_eq (hn : 6 ≤ m) (hl : s.length = 512) : ∃ r, (∀ h, C (m + 1) 67 [.str s] h = some (r, h)) ∧ ReadS s r := by
  refine fun_pureX F67 rfl rfl rfl rfl ?_
  conv => whnf
  refine ⟨rfl, .fn 118 [.ptr 0 0 0, .ptr 1 0 0], rfl, ?_⟩
  conv => whnf
  refine ss_hi (s := s) (c := 508) (by omega) ?_
  have a0 : RS [AB.cells 0 (some 25) zeroP 0, AB.cells 0 (some 4) [.bool false] 0, AB.cells 0 (some tRdr) [.str (s.take 508), i64 ((1 : Nat) : Int)] 0] zeroP ((s.take 508).drop 1) := ⟨rfl, rfl, s.take 508, 1, rfl, by rw [List.length_take]; omega, by rw [List.length_take]; omega, rfl⟩
  conv => whnf
  refine rnumC (n := m) (hp := [AB.cells 0 (some 25) zeroP 0, AB.cells 0 (some 4) [.bool false] 0, AB.cells 0 (some tRdr) [.str (s.take 508), i64 ((1 : Nat) : Int)] 0]) (by omega) a0.r 1 (by omega) (fun h1 qh1 rh1 kh1 => ?_) (fun q => ?_)
  rotate_left
  · exact read_fails (by simp only [pread, pnum, if_neg (Nat.not_le.2 q), Option.bind_none]) rfl rfl a0.p rfl a0.i
  have b1 := a0.next kh1 rh1
  have a1 := b1.set (cs' := putAt zeroP (0 + 0) [i64 (unnum (((s.take 508).drop 1).take 1))])
  conv => whnf
  refine stI b1.p (by rfl) (by rfl) (by rfl) (by rfl) ?_
  conv => whnf
  refine rnumC (n := m) (hp := _) (by omega) a1.r 4 (by omega) (fun h2 qh2 rh2 kh2 => ?_) (fun q => ?_)
  rotate_left
  · exact read_fails (by simp only [pread, pnum, if_pos qh1, Option.bind_some, if_neg (Nat.not_le.2 q), Option.bind_none]) rfl rfl a1.p rfl a1.i
  have b2 := a1.next kh2 rh2
  have a2 := b2.set (cs' := putAt (putAt zeroP (0 + 0) [i64 (unnum (((s.take 508).drop 1).take 1))]) (0 + 1) [i64 (unnum ((((s.take 508).drop 1).drop 1).take 4))])
  conv => whnf
  refine stI b2.p (by rfl) (by rfl) (by rfl) (by rfl) ?_
  conv => whnf
  refine rnumC (n := m) (hp := _) (by omega) a2.r 6 (by omega) (fun h3 qh3 rh3 kh3 => ?_) (fun q => ?_)
  rotate_left
  · exact read_fails (by simp only [pread, pnum, if_pos qh1, if_pos qh2, Option.bind_some, if_neg (Nat.not_le.2 q), Option.bind_none]) rfl rfl a2.p rfl a2.i
  have b3 := a2.next kh3 rh3
  have a3 := b3.set (cs' := pgCells (unnum (((s.take 508).drop 1).take 1)) (unnum ((((s.take 508).drop 1).drop 1).take 4)) (unnum (((((s.take 508).drop 1).drop 1).drop 4).take 6)))
  have hx : pread s = (pbody (unnum (((s.take 508).drop 1).take 1)) (((((s.take 508).drop 1).drop 1).drop 4).drop 6)).map fun b => ⟨unnum (((s.take 508).drop 1).take 1), unnum ((((s.take 508).drop 1).drop 1).take 4), unnum (((((s.take 508).drop 1).drop 1).drop 4).take 6), b⟩ := by
    simp only [pread, pnum, if_pos qh1, if_pos qh2, if_pos qh3, Option.bind_some]
  have key : OkR Tryz.prog (C m) cfg0.inl KK 61 6 (cutOf c67) ⟨[(2, .ptr 0 0 0), (3, .ptr 1 0 0), (4, .ptr 2 0 0)], h3.set 0 (.cells 0 (some 25) (pgCells (unnum (((s.take 508).drop 1).take 1)) (unnum ((((s.take 508).drop 1).drop 1).take 4)) (unnum (((((s.take 508).drop 1).drop 1).drop 4).take 6))) 0), dfR⟩ (ReadQ m s) := by
    by_cases hk : unnum (((s.take 508).drop 1).take 1) = 1 ∨ unnum (((s.take 508).drop 1).take 1) = 2
    · exact rest_node hn a3 hk hx
    · by_cases hk3 : unnum (((s.take 508).drop 1).take 1) = 3
      · exact rest_piece hn a3 hk3 hx
      · exact rest_list hn a3 hk hk3 hx
  conv => whnf
  refine stI b3.p (by rfl) (by rfl) (by rfl) (by rfl) ?_
  refine okR_sub ?_ key
  exact ⟨⟨rfl, rfl, rfl⟩, rfl, rfl⟩
end
end Go.Proofs
/- Contracts: heads, blocks compared. -/
set_option linter.unusedVariables false
set_option linter.unusedSimpArgs false
namespace Go.Proofs
open Go Go.Abs
def Z512 : List AV := match c68 with
  | .seq (.ops (⟨_, _, .op (.alloc _ z)⟩ :: _)) _ => z
  | _ => []
theorem Z_len : Z512.length = 512 := by kernel_rfl
theorem part_all {cs : List AV} {n : Nat} (h : cs.length = n) : partR true n cs 0 = some (.agg cs) := by
  unfold partR
  rw [if_pos rfl, if_pos (by omega), List.drop_zero, List.take_of_length_le (by omega)]
section
variable {n : Nat} {h : AHeap}
set_option maxRecDepth 20000 in
theorem blockOf_eq (hn : 1 ≤ n) (s : Str) (hl : s.length = 512) : C n 68 [.str s] h = some (.ret (.agg (s.map u8)), h) := by
  obtain ⟨m, rfl⟩ : ∃ m, n = m + 1 := ⟨n - 1, by omega⟩
  refine fun_pure F68 rfl rfl rfl rfl ?_
  have d1 : ([AB.cells 0 (some 136) Z512 0, AB.cells 0 (some 136) Z512 0] : AHeap)[1]? = some (.cells 0 (some 136) Z512 0) := rfl
  conv => whnf
  refine ⟨_, _, _, d1, ⟨by rw [Z_len]; decide, by decide⟩, ?_⟩
  refine slI (v := .sl 1 1 0 0 512) rfl ?_
  conv => whnf
  have ec : cpyR [AB.cells 0 (some 136) Z512 0, AB.cells 0 (some 136) Z512 0] 1 (.sl 1 1 0 0 512) (.str s) = some (.int .i64 512, some [AB.cells 0 (some 136) Z512 0, AB.cells 0 (some 136) (s.map u8) 0]) := by
    unfold cpyR
    simp only [slLen, lenA, hl, Nat.min_self]
    have hf : firstA [AB.cells 0 (some 136) Z512 0, AB.cells 0 (some 136) Z512 0] 1 512 (.str s) = some (s.map u8) := by
      have := first_str [AB.cells 0 (some 136) Z512 0, AB.cells 0 (some 136) Z512 0] s
      rwa [hl] at this
    rw [hf]
    simp only
    rw [if_neg (by decide)]
    rw [d1]
    simp only
    rw [if_pos ⟨trivial, trivial, Nat.le_refl _, by rw [List.length_map, hl, Z_len]; decide, u8_scal _⟩]
    have : putAt Z512 0 (s.map u8) = s.map u8 := by
      unfold putAt
      rw [List.take_zero, List.nil_append, List.drop_of_length_le (by rw [Z_len, List.length_map, hl]; decide), List.append_nil]
    rw [this]; rfl
  refine ⟨_, ec, ?_⟩
  conv => whnf
  have e2 : ([AB.cells 0 (some 136) Z512 0, AB.cells 0 (some 136) (s.map u8) 0] : AHeap)[1]? = some (.cells 0 (some 136) (s.map u8) 0) := rfl
  have e1 : ([AB.cells 0 (some 136) Z512 0, AB.cells 0 (some 136) (s.map u8) 0] : AHeap)[0]? = some (.cells 0 (some 136) Z512 0) := rfl
  have hm : (s.map u8).length = 512 := by rw [List.length_map]; exact hl
  have hput : putAt Z512 0 (s.map u8) = s.map u8 := by
    unfold putAt
    rw [List.take_zero, List.nil_append, List.drop_of_length_le (by rw [Z_len, hm]; decide), List.append_nil]
  refine ldI e2 ?_
  refine wpartI (part_all hm) ?_
  conv => whnf
  refine stI (xs := s.map u8) e1 (cells_of (u8_scal _)) hm (by rw [hm, Z_len]; rfl) (by rfl) ?_
  refine ⟨rfl, [.agg (s.map u8)], ?_, ?_⟩
  · have := load_agg (h := ([AB.cells 0 (some 136) Z512 0, AB.cells 0 (some 136) (s.map u8) 0] : AHeap).set 0 (.cells 0 (some 136) (putAt Z512 0 (s.map u8)) 0)) (t := 136) (N := 512) (b := 0) (ver := 0) (el := some 136) (cs := s.map u8) (f := 0) (by kernel_rfl) hm (by rw [hput]; rfl)
    show (match loadA Tryz.prog (([AB.cells 0 (some 136) Z512 0, AB.cells 0 (some 136) (s.map u8) 0] : AHeap).set 0 (.cells 0 (some 136) (putAt Z512 0 (s.map u8)) 0)) 136 (.ptr 0 0 0) with | some v => some [v] | none => none) = _
    rw [this]
  · exact frzOk_agg (n := 63) (fun x hx => by obtain ⟨c, _, rfl⟩ := List.mem_map.1 hx; exact frzOk_int) _
theorem eq_block (a b : Str) (ha : a.length = 512) (hb : b.length = 512) : eqA Tryz.prog 20 136 (.agg (a.map u8)) (.agg (b.map u8)) = some (decide (a = b)) := by
  have e0 : Tryz.prog.underlying 136 = some (.array 512 5) := by kernel_rfl
  obtain ⟨d, e1, e2⟩ : ∃ d, ti Tryz.prog 5 = some d ∧ (isAggD d.desc = false ∧ d.size = 1) := by
    have : (ti Tryz.prog 5).map (fun d => (isAggD d.desc, d.size)) = some (false, 1) := by kernel_rfl
    obtain ⟨d, h1, h2⟩ := Option.map_eq_some_iff.1 this
    simp only [Prod.mk.injEq] at h2
    exact ⟨d, h1, h2⟩
  unfold eqA
  simp only [e0, e1]
  unfold itemsF
  rw [if_pos ⟨e2.1, e2.2, by rw [List.length_map, ha], by rw [List.length_map, hb]⟩]
  simp only
  have e2 : ∀ (x y : UInt8), eqA Tryz.prog 19 5 (.int .u8 x.toNat) (.int .u8 y.toNat) = some (((x.toNat : Nat) : Int) == y.toNat) := fun x y => by kernel_rfl
  exact allEq_u8 (fun x y => by rw [e2, eq_u8]) a b (by rw [ha, hb])
/-- The numbers of a head. -/
def headOf (s : Str) : AV := .tup [i64 (unnum ((s.drop 1).take 1)), i64 (unnum (((s.drop 1).drop 1).take 4)), i64 (unnum ((((s.drop 1).drop 1).drop 4).take 6)), i64 0]
theorem head_good (hn : 4 ≤ n) (s : Str) (hb : headOk s = true) : C n 18 [.str s] h = some (.ret (headOf s), h) := by
  obtain ⟨m, rfl⟩ : ∃ m, n = m + 1 := ⟨n - 1, by omega⟩
  unfold headOk at hb
  simp only [Bool.and_eq_true, decide_eq_true_eq] at hb
  obtain ⟨hl, b0, b1, b2⟩ := hb
  refine fun_pure F18 rfl rfl rfl rfl ?_
  have e0 : s.getD 0 0 = s[0]'(by omega) := by simp [hl]
  have e1 : s.getD 1 0 = s[1]'(by omega) := by simp [hl]
  rw [e0] at b0
  rw [e1] at b2
  have r0 : RDs [AB.cells 0 (some tRdr) [.str s, i64 ((1 : Nat) : Int)] 0] 0 (s.drop 1) := ⟨s, 1, rfl, by omega, by omega, rfl⟩
  conv => whnf
  refine brq (fun a => absurd a (by omega)) (fun _ => ?_)
  conv => whnf
  refine strI (b := s[0]'(by omega)) (by omega) (List.getElem?_eq_getElem (by omega)) ?_
  conv => whnf
  refine brq (fun a => absurd ((u8_eq85 _).2 b0) a) (fun _ => ?_)
  conv => whnf
  refine ss_hi (c := 508) (by omega) ?_
  conv => whnf
  refine clI (ended_eq (n := m) (by omega) (s.take 508) (by rw [List.length_take]; omega)) ?_
  conv => whnf
  refine br (fun a => absurd b1 (by simpa using a)) (fun _ => ?_)
  conv => whnf
  refine strI (b := s[1]'(by omega)) (by omega) (List.getElem?_eq_getElem (by omega)) ?_
  conv => whnf
  refine zI (z := ((s[1]'(by omega)).toNat : Int)) (by have := (s[1]'(by omega)).toNat_lt; exact wrap_i64 (by omega) (by omega)) ?_
  conv => whnf
  refine clI (within_eq (by omega) _ _ _) ?_
  conv => whnf
  refine brn (fun a => by rw [b2] at a; cases a) (fun _ => ?_)
  conv => whnf
  refine rnumC (n := m) (hp := [AB.cells 0 (some tRdr) [.str s, i64 ((1 : Nat) : Int)] 0]) (by omega) r0 1 (by omega) (fun h1 q1 r1 k1 => ?_) (fun q => ?_)
  rotate_left
  · exfalso; rw [List.length_drop] at q; omega
  conv => whnf
  refine rnumC (n := m) (hp := h1) (by omega) r1 4 (by omega) (fun h2 q2 r2 k2 => ?_) (fun q => ?_)
  rotate_left
  · exfalso; simp only [List.length_drop] at q; omega
  conv => whnf
  refine rnumC (n := m) (hp := h2) (by omega) r2 6 (by omega) (fun h3 q3 r3 k3 => ?_) (fun q => ?_)
  rotate_left
  · exfalso; simp only [List.length_drop] at q; omega
  conv => whnf
  exact ⟨rfl, _, rfl, rfl⟩
end
end Go.Proofs
/- What is read is short. -/
set_option linter.unusedVariables false
set_option linter.unusedSimpArgs false
namespace Go.Proofs
open Go Go.Abs
theorem ptext_len {k : Nat} {s a t : Str} (h : ptext k s = some (a, t)) : a.length ≤ s.length ∧ t.length ≤ s.length := by
  unfold ptext at h
  split at h
  · cases h; simp only [List.length_take, List.length_drop]; omega
  · cases h
theorem pnum_len {w v : Nat} {s t : Str} (h : pnum w s = some (v, t)) : t.length ≤ s.length ∧ v < 256 ^ w := by
  unfold pnum at h
  split at h
  · rename_i hl
    cases h
    exact ⟨by rw [List.length_drop]; omega, unnum_lt w _ (by rw [List.length_take]; omega)⟩
  · cases h
theorem psum_len {d : Dg} {s t : Str} (h : psum s = some (d, t)) : t.length ≤ s.length := by
  unfold psum at h
  split at h
  · cases h; rw [List.length_drop]; omega
  · cases h
theorem bind_some' {α β : Type} {o : Option α} {f : α → Option β} {b : β} (h : o.bind f = some b) : ∃ a, o = some a ∧ f a = some b := Option.bind_eq_some_iff.1 h
theorem map_some' {α β : Type} {o : Option α} {f : α → β} {b : β} (h : o.map f = some b) : ∃ a, o = some a ∧ f a = b := Option.map_eq_some_iff.1 h
theorem pcont2_len {key : Str} {long : Nat} {s t : Str} {e : Entry} (h : pcont2 key long s = some (e, t)) : e.key = key ∧ e.val.length ≤ s.length ∧ t.length ≤ s.length := by
  unfold pcont2 at h
  split at h
  · obtain ⟨⟨a, s1⟩, h1, h⟩ := bind_some' h
    obtain ⟨⟨b, s2⟩, h2, h⟩ := bind_some' h
    obtain ⟨⟨d, s3⟩, h3, h⟩ := map_some' h
    cases h
    have := pnum_len h1; have := pnum_len h2; have := psum_len h3
    exact ⟨rfl, Nat.zero_le _, by simp only at *; omega⟩
  · split at h
    · obtain ⟨⟨a, s1⟩, h1, h⟩ := bind_some' h
      obtain ⟨⟨b, s2⟩, h2, h⟩ := bind_some' h
      obtain ⟨⟨d, s3⟩, h3, h⟩ := map_some' h
      cases h
      have := pnum_len h1; have := pnum_len h2; have := psum_len h3
      exact ⟨rfl, Nat.zero_le _, by simp only at *; omega⟩
    · obtain ⟨⟨a, s1⟩, h1, h⟩ := map_some' h
      cases h
      have := ptext_len h1
      exact ⟨rfl, this.1, this.2⟩
theorem pcont_len {key : Str} {lv : Int} {s t : Str} {e : Entry} (h : pcont key lv s = some (e, t)) : e.key = key ∧ e.val.length ≤ s.length ∧ t.length ≤ s.length := by
  unfold pcont at h
  split at h
  · obtain ⟨⟨a, s1⟩, h1, h⟩ := bind_some' h
    have := pnum_len h1
    have := pcont2_len h
    simp only at *
    exact ⟨this.1, by omega, by omega⟩
  · exact pcont2_len h
theorem pents_len {pre : Str} {lv : Int} : ∀ {k i : Nat} {s t : Str} {es : List Entry}, pents pre lv k i s = some (es, t) → es.length = k ∧ ∀ e ∈ es, e.key.length ≤ pre.length + s.length ∧ e.val.length ≤ s.length
  | 0, i, s, t, es, h => by simp [pents] at h; obtain ⟨rfl, rfl⟩ := h; simp
  | k + 1, i, s, t, es, h => by
    simp only [pents] at h
    obtain ⟨⟨e, s1⟩, h1, h⟩ := bind_some' h
    obtain ⟨⟨es', s2⟩, h2, h⟩ := map_some' h
    cases h
    have ih := pents_len h2
    unfold pent at h1
    obtain ⟨⟨a, u1⟩, g1, h1⟩ := bind_some' h1
    obtain ⟨⟨b, u2⟩, g2, h1⟩ := bind_some' h1
    have l1 := pnum_len g1
    have l2 := ptext_len g2
    have l3 := pcont_len h1
    have lk : (preK pre lv i).length ≤ pre.length := by unfold preK; split <;> simp
    simp only at *
    refine ⟨by simp [ih.1], fun x hx => ?_⟩
    rcases List.mem_cons.1 hx with rfl | hx
    · rw [l3.1, List.length_append]
      omega
    · have := ih.2 x hx
      omega
theorem pnode_len {s t : Str} {x : NodeP} (h : pnode s = some (x, t)) : x.es.length < 65536 ∧ ∀ e ∈ x.es, e.key.length ≤ 2 * s.length ∧ e.val.length ≤ s.length := by
  unfold pnode at h
  obtain ⟨⟨a1, s1⟩, h1, h⟩ := bind_some' h
  obtain ⟨⟨a2, s2⟩, h2, h⟩ := bind_some' h
  obtain ⟨⟨a3, s3⟩, h3, h⟩ := bind_some' h
  obtain ⟨⟨a4, s4⟩, h4, h⟩ := bind_some' h
  obtain ⟨⟨a5, s5⟩, h5, h⟩ := bind_some' h
  obtain ⟨⟨a6, s6⟩, h6, h⟩ := bind_some' h
  obtain ⟨⟨a7, s7⟩, h7, h⟩ := bind_some' h
  obtain ⟨⟨es, s8⟩, h8, h⟩ := map_some' h
  cases h
  have l1 := pnum_len h1
  have l2 := pnum_len h2
  have l3 := pnum_len h3
  have l4 := pnum_len h4
  have l5 := pnum_len h5
  have l6 := ptext_len h6
  have l7 := ptext_len h7
  have l8 := pents_len h8
  simp only at *
  refine ⟨by rw [l8.1]; exact l5.2, fun e he => ?_⟩
  have := l8.2 e he
  omega
theorem ppages_len : ∀ {k : Nat} {s t : Str} {ps : List Nat}, ppages k s = some (ps, t) → ps.length = k
  | 0, s, t, es, h => by simp [ppages] at h; obtain ⟨rfl, rfl⟩ := h; rfl
  | k + 1, s, t, es, h => by
    simp only [ppages] at h
    obtain ⟨⟨e, s1⟩, h1, h⟩ := bind_some' h
    obtain ⟨⟨es', s2⟩, h2, h⟩ := map_some' h
    cases h
    simp [ppages_len h2]
theorem pfreeds_len : ∀ {k : Nat} {s t : Str} {l : List (Nat × List Nat)}, pfreeds k s = some (l, t) → l.length = k ∧ ∀ x ∈ l, x.2.length < 65536
  | 0, s, t, es, h => by simp [pfreeds] at h; obtain ⟨rfl, rfl⟩ := h; simp
  | k + 1, s, t, es, h => by
    simp only [pfreeds] at h
    obtain ⟨⟨a1, s1⟩, h1, h⟩ := bind_some' h
    obtain ⟨⟨a2, s2⟩, h2, h⟩ := bind_some' h
    obtain ⟨⟨a3, s3⟩, h3, h⟩ := bind_some' h
    obtain ⟨⟨es', s4⟩, h4, h⟩ := map_some' h
    cases h
    have l2 := pnum_len h2
    have l3 := ppages_len h3
    have ih := pfreeds_len h4
    simp only at *
    refine ⟨by simp [ih.1], fun x hx => ?_⟩
    rcases List.mem_cons.1 hx with rfl | hx
    · simp only; rw [l3]; exact l2.2
    · exact ih.2 x hx
theorem FsAre.ok : ∀ {fs : List Freed} {l : List (Nat × List Nat)}, FsAre fs l → (∀ x ∈ l, x.2.length < 65536) → ∀ f ∈ fs, f.Ok ∧ f.pages.length < 9223372036854775808
  | _, _, .nil, _, f, hf => by cases hf
  | _, _, .cons (t := t) h r, hl, f, hf => by
    rcases List.mem_cons.1 hf with rfl | hf
    · have := hl t (List.mem_cons_self ..)
      refine ⟨h.2.2, ?_⟩
      rw [h.2.1, List.length_map]; omega
    · exact r.ok (fun x hx => hl x (List.mem_cons_of_mem _ hx)) f hf
theorem BlkIs.ok {q : Page} {x : Blk} {s : Str} (hs : s.length = 512) (hx : pread s = some x) (hq : BlkIs q x) : q.Ok := by
  unfold pread at hx
  obtain ⟨⟨a1, s1⟩, h1, h⟩ := bind_some' hx
  obtain ⟨⟨a2, s2⟩, h2, h⟩ := bind_some' h
  obtain ⟨⟨a3, s3⟩, h3, h⟩ := bind_some' h
  obtain ⟨bd, h4, h⟩ := map_some' h
  cases h
  have l0 : ((s.take 508).drop 1).length ≤ 508 := by rw [List.length_drop, List.length_take]; omega
  have l1 := pnum_len h1
  have l2 := pnum_len h2
  have l3 := pnum_len h3
  obtain ⟨_, _, _, hb, esz, fsz⟩ := hq
  simp only at *
  unfold pbody at h4
  split at h4
  · obtain ⟨⟨y, t⟩, g, h⟩ := map_some' h4
    cases h
    have := pnode_len g
    obtain ⟨b1, b2, b3, b4, b5, b6, b7⟩ := hb
    refine ⟨esz, fsz, by rw [b4]; exact Nat.lt_trans this.1 (by decide), by rw [b7]; decide, by rw [b6]; decide, fun e he => ?_, fun f hf => ?_⟩
    · rw [b4] at he
      have := this.2 e he
      exact ⟨by omega, by omega⟩
    · rw [b7] at hf; cases hf
  · split at h4
    · obtain ⟨⟨y, t⟩, g, h⟩ := map_some' h4
      cases h
      obtain ⟨b1, b2, b3, b4, b5, b6, b7⟩ := hb
      unfold ppiece at g
      obtain ⟨⟨c1, t1⟩, g1, g⟩ := bind_some' g
      obtain ⟨⟨c2, t2⟩, g2, g⟩ := bind_some' g
      obtain ⟨⟨c3, t3⟩, g3, g⟩ := map_some' g
      cases g
      have m1 := pnum_len g1
      have m2 := pnum_len g2
      have m3 := ptext_len g3
      simp only at *
      refine ⟨esz, fsz, by rw [b4]; decide, by rw [b7]; decide, by rw [b6]; omega, fun e he => ?_, fun f hf => ?_⟩
      · rw [b4] at he; cases he
      · rw [b7] at hf; cases hf
    · obtain ⟨⟨y, t⟩, g, h⟩ := map_some' h4
      cases h
      obtain ⟨b1, b2, b3, b4, b5, b6, b7⟩ := hb
      unfold plist at g
      obtain ⟨⟨c1, t1⟩, g1, g⟩ := bind_some' g
      obtain ⟨⟨c2, t2⟩, g2, g⟩ := bind_some' g
      obtain ⟨⟨c3, t3⟩, g3, g⟩ := map_some' g
      cases g
      have m2 := pnum_len g2
      have m3 := pfreeds_len g3
      have hlen := b7.length_eq
      simp only at *
      refine ⟨esz, fsz, by rw [b4]; decide, by rw [hlen, m3.1]; exact Nat.lt_trans m2.2 (by decide), by rw [b6]; decide, fun e he => ?_, b7.ok m3.2⟩
      rw [b4] at he; cases he
theorem entry_frz' {n : Nat} (e : Entry) : FrzOk (n + 2) e.av := frzOk_agg (cells_frz e)
theorem freed_frz' {n : Nat} (f : Freed) : FrzOk (n + 3) f.av := frzOk_agg fun x hx => by
  simp only [Freed.cells, List.mem_cons, List.not_mem_nil, or_false] at hx
  rcases hx with rfl | rfl
  · exact frzOk_int
  · exact frzOk_lst fun y hy => by obtain ⟨k, _, rfl⟩ := List.mem_map.1 hy; exact frzOk_int
theorem page_frz' {n : Nat} (q : Page) : FrzOk (n + 5) q.av := frzOk_agg fun x hx => by
  simp only [Page.cells, List.mem_cons, List.not_mem_nil, or_false] at hx
  rcases hx with rfl | rfl | rfl | rfl | rfl | rfl | rfl | rfl | rfl | rfl
  · exact frzOk_int
  · exact frzOk_int
  · exact frzOk_int
  · exact frzOk_int
  · exact frzOk_int
  · exact frzOk_bool
  · exact frzOk_lst fun y hy => by obtain ⟨k, _, rfl⟩ := List.mem_map.1 hy; exact entry_frz' k
  · exact frzOk_int
  · exact frzOk_str
  · exact frzOk_lst fun y hy => by obtain ⟨k, _, rfl⟩ := List.mem_map.1 hy; exact freed_frz' k
end Go.Proofs
/- What was written is read again: numbers, texts, entries. -/
set_option linter.unusedVariables false
set_option linter.unusedSimpArgs false
namespace Go.Proofs
open Go Go.Abs
theorem unnum_from : ∀ (s : Str) (a : Nat), s.foldl (fun n b => n * 256 + b.toNat) a = a * 256 ^ s.length + unnum s
  | [], a => by simp [unnum]
  | c :: s, a => by
    have h1 := unnum_from s (a * 256 + c.toNat)
    have h2 := unnum_from s (0 * 256 + c.toNat)
    show s.foldl (fun n b => n * 256 + b.toNat) (a * 256 + c.toNat) = _
    have h3 : unnum (c :: s) = s.foldl (fun n b => n * 256 + b.toNat) (0 * 256 + c.toNat) := rfl
    rw [h1, h3, h2, List.length_cons, Nat.pow_succ]
    rw [Nat.add_mul, Nat.zero_mul, Nat.zero_add, Nat.mul_assoc, Nat.mul_comm 256, Nat.add_assoc]
theorem unnum_cons (c : UInt8) (s : Str) : unnum (c :: s) = c.toNat * 256 ^ s.length + unnum s := by
  have h : unnum (c :: s) = s.foldl (fun n b => n * 256 + b.toNat) (0 * 256 + c.toNat) := rfl
  rw [h, unnum_from, Nat.zero_mul, Nat.zero_add]
theorem unnum_num (k : Nat) : ∀ w, unnum (num k w) = k % 256 ^ w
  | 0 => by simp [num, unnum, Nat.mod_one]
  | w + 1 => by
    show unnum (UInt8.ofNat (k / 256 ^ w) :: num k w) = _
    rw [unnum_cons, unnum_num k w, num_len, UInt8.toNat_ofNat']
    show k / 256 ^ w % 256 * 256 ^ w + k % 256 ^ w = k % (256 ^ w * 256)
    rw [Nat.mod_mul, Nat.mul_comm, Nat.add_comm]
theorem pnum_num {k w : Nat} (h : k < 256 ^ w) (t : Str) : pnum w (num k w ++ t) = some (k, t) := by
  unfold pnum
  rw [if_pos (by rw [List.length_append, num_len]; omega), List.take_left' (num_len k w), List.drop_left' (num_len k w), unnum_num, Nat.mod_eq_of_lt h]
theorem ptext_app {k : Nat} (s t : Str) (h : s.length = k) : ptext k (s ++ t) = some (s, t) := by
  unfold ptext
  rw [if_pos (by rw [List.length_append]; omega), List.take_left' h, List.drop_left' h]
theorem psum_app (d : Dg) (t : Str) : psum (d.bytes ++ t) = some (d, t) := by
  unfold psum
  rw [if_pos (by rw [List.length_append, d.bytes_len]; omega), List.take_left' d.bytes_len, List.drop_left' d.bytes_len]
  rfl
theorem form_cases {e : Entry} (h : formOf e ≠ 0) : e.key.length ≤ 48 ∧ ((e.over = 0 ∧ e.len = 0 ∧ e.child = 0 ∧ e.count = 0 ∧ e.sum = Dg.zero ∧ e.val.length ≤ 64) ∨ (e.val = [] ∧ e.child = 0 ∧ e.count = 0 ∧ (2 ≤ e.over ∧ e.over ≤ 4095) ∧ (65 ≤ e.len ∧ e.len ≤ 4000)) ∨
    (e.val = [] ∧ e.over = 0 ∧ e.len = 0 ∧ (2 ≤ e.child ∧ e.child ≤ 4095) ∧ (1 ≤ e.count ∧ e.count ≤ 2147483647))) := by
  unfold formOf at h
  split at h
  · exact (h rfl).elim
  · rename_i hk
    have hk' : (e.key.length : Int) ≤ 48 := by
      have : within e.key.length 1 48 = true := by simpa using hk
      exact (within_iff.1 this).2
    refine ⟨by omega, ?_⟩
    split at h
    · rename_i hs
      simp [isShort] at hs
      left
      obtain ⟨⟨⟨⟨⟨a, b⟩, c⟩, d⟩, f⟩, g⟩ := hs
      exact ⟨a, b, c, d, f, g⟩
    · split at h
      · exact (h rfl).elim
      · rename_i hv
        have hv' : e.val = [] := by simpa using hv
        split at h
        · rename_i hl
          simp [isLong, numbered, within] at hl
          right; left
          obtain ⟨⟨⟨a, b⟩, c, d⟩, f, g⟩ := hl
          exact ⟨hv', a, b, ⟨c, d⟩, f, g⟩
        · split at h
          · rename_i hn
            simp [isNest, numbered, within] at hn
            right; right
            obtain ⟨⟨⟨a, b⟩, c, d⟩, f, g⟩ := hn
            exact ⟨hv', a, b, ⟨c, d⟩, f, g⟩
          · exact (h rfl).elim
theorem branch_cases {e : Entry} (h : branches e = true) : e.key.length ≤ 48 ∧ e.val = [] ∧ e.over = 0 ∧ e.len = 0 ∧ (2 ≤ e.child ∧ e.child ≤ 4095) ∧ (1 ≤ e.count ∧ e.count ≤ 2147483647) := by
  simp [branches, numbered, within] at h
  obtain ⟨⟨⟨⟨⟨a, b⟩, c⟩, d⟩, f, g⟩, i, j⟩ := h
  exact ⟨a, b, c, d, ⟨f, g⟩, i, j⟩
theorem pcont_rest {e : Entry} {lv : Int} (h0 : 0 ≤ lv) (hf : if lv = 0 then formOf e ≠ 0 else branches e = true) (t : Str) : pcont e.key lv (restB e lv ++ t) = some (e, t) := by
  obtain ⟨key, val, over, len, child, count, sum⟩ := e
  by_cases hl : lv = 0
  · rw [if_pos hl] at hf
    subst hl
    have hc := (form_cases hf).2
    simp only at hc
    unfold pcont restB
    rw [if_pos rfl, if_neg (by decide)]
    simp only
    rcases hc with ⟨rfl, rfl, rfl, rfl, rfl, hv⟩ | ⟨rfl, rfl, rfl, ho, hn⟩ | ⟨rfl, rfl, rfl, ho, hn⟩
    · rw [if_neg (by decide), if_neg (by decide), List.append_assoc, pnum_num (Nat.lt_of_le_of_lt hv (by decide))]
      simp only [Option.bind_some]
      unfold pcont2
      rw [if_neg (by omega), if_neg (by omega), ptext_app _ _ rfl]
      rfl
    · rw [if_pos (by omega)]
      simp only [List.append_assoc]
      rw [pnum_num (by decide)]
      simp only [Option.bind_some]
      unfold pcont2
      have e1 : over.toNat < 256 ^ 4 := Nat.lt_of_lt_of_le (show over.toNat < 4096 by omega) (by decide)
      have e2 : len.toNat < 256 ^ 2 := Nat.lt_of_lt_of_le (show len.toNat < 4096 by omega) (by decide)
      rw [if_pos rfl, pnum_num e1]
      simp only [Option.bind_some]
      rw [pnum_num e2]
      simp only [Option.bind_some]
      rw [psum_app]
      simp only [Option.map_some]
      rw [show ((over.toNat : Nat) : Int) = over by omega, show ((len.toNat : Nat) : Int) = len by omega]
    · rw [if_neg (by decide), if_pos (by omega)]
      simp only [List.append_assoc]
      rw [pnum_num (by decide)]
      simp only [Option.bind_some]
      unfold pcont2
      have e1 : child.toNat < 256 ^ 4 := Nat.lt_of_lt_of_le (show child.toNat < 4096 by omega) (by decide)
      have e2 : count.toNat < 256 ^ 4 := Nat.lt_of_lt_of_le (show count.toNat < 2147483648 by omega) (by decide)
      rw [if_neg (by decide), if_pos rfl, pnum_num e1]
      simp only [Option.bind_some]
      rw [pnum_num e2]
      simp only [Option.bind_some]
      rw [psum_app]
      simp only [Option.map_some]
      rw [show ((child.toNat : Nat) : Int) = child by omega, show ((count.toNat : Nat) : Int) = count by omega]
  · rw [if_neg hl] at hf
    obtain ⟨_, rfl, rfl, rfl, ho, hn⟩ := branch_cases hf
    simp only at ho hn
    unfold pcont restB
    rw [if_neg hl, if_pos (by omega)]
    simp only [List.append_assoc]
    unfold pcont2
    have e1 : child.toNat < 256 ^ 4 := Nat.lt_of_lt_of_le (show child.toNat < 4096 by omega) (by decide)
    have e2 : count.toNat < 256 ^ 4 := Nat.lt_of_lt_of_le (show count.toNat < 2147483648 by omega) (by decide)
    rw [if_neg (by decide), if_pos rfl, pnum_num e1]
    simp only [Option.bind_some]
    rw [pnum_num e2]
    simp only [Option.bind_some]
    rw [psum_app]
    simp only [Option.map_some]
    rw [show ((child.toNat : Nat) : Int) = child by omega, show ((count.toNat : Nat) : Int) = count by omega]
theorem key_len {e : Entry} {lv : Int} (hf : if lv = 0 then formOf e ≠ 0 else branches e = true) : e.key.length ≤ 48 := by
  split at hf
  · exact (form_cases hf).1
  · exact (branch_cases hf).1
theorem preK_cut {l : List Entry} {lv : Int} (h0 : 0 ≤ lv) {i : Nat} (hi : i < l.length) : preK (shared l lv) lv i ++ l[i].key.drop (cutAt l lv i) = l[i].key := by
  unfold preK cutAt
  by_cases h : i = 0 ∧ 0 < lv
  · rw [if_pos h, if_neg (by omega)]; rfl
  · rw [if_neg h, if_pos (by omega)]
    have hm : l[i] ∈ tailE l lv := by
      unfold tailE
      by_cases hl : 0 < lv
      · rw [if_pos hl]
        have : (l.drop 1)[i - 1]? = some l[i] := by rw [List.getElem?_drop, show 1 + (i - 1) = i by omega]; exact List.getElem?_eq_getElem hi
        exact List.mem_of_getElem? this
      · rw [if_neg hl]; exact List.getElem_mem hi
    obtain ⟨r, hr⟩ := shared_prefix l lv _ hm
    conv => rhs; rw [← hr]
    rw [← hr, List.drop_left]
/-- The entries from one on. -/
def ebF (l : List Entry) (lv : Int) : Nat → Nat → Str
  | 0, _ => []
  | k + 1, i => entB (cutAt l lv i) (l.getD i default) lv ++ ebF l lv k (i + 1)
theorem entsB_from (l : List Entry) (lv : Int) : ∀ (k i : Nat), i + k ≤ l.length → entsB l lv (i + k) = entsB l lv i ++ ebF l lv k i
  | 0, i, _ => by simp [ebF]
  | k + 1, i, h => by
    rw [show i + (k + 1) = (i + 1) + k by omega, entsB_from l lv k (i + 1) (by omega), entsB_succ l lv (by omega), ebF, List.append_assoc, getD_at (show i < l.length by omega)]
theorem pents_enc {l : List Entry} {lv : Int} (hv : valid l lv = true) (t : Str) : ∀ (k i : Nat), i + k = l.length → pents (shared l lv) lv k i (ebF l lv k i ++ t) = some (l.drop i, t)
  | 0, i, h => by
    simp only [pents, ebF, List.nil_append]
    rw [List.drop_of_length_le (by omega)]
  | k + 1, i, h => by
    have hi : i < l.length := by omega
    have hf := (valid_form hv hi).1
    have h0 := (valid_iff.1 hv).1.1
    have hk := key_len hf
    simp only [pents, ebF]
    rw [← getD_at hi, List.append_assoc]
    have e1 : pent (shared l lv) lv i (entB (cutAt l lv i) l[i] lv ++ (ebF l lv k (i + 1) ++ t)) = some (l[i], ebF l lv k (i + 1) ++ t) := by
      unfold pent entB
      simp only [List.append_assoc]
      rw [pnum_num (Nat.lt_of_le_of_lt (show l[i].key.length - cutAt l lv i ≤ 48 by omega) (by decide))]
      simp only [Option.bind_some]
      rw [ptext_app _ _ (by rw [List.length_drop])]
      simp only [Option.bind_some]
      rw [preK_cut h0 hi]
      exact pcont_rest h0 hf _
    rw [e1]
    simp only [Option.bind_some]
    rw [pents_enc hv t k (i + 1) (by omega)]
    simp only [Option.map_some]
    rw [List.drop_eq_getElem_cons hi]
theorem pnode_enc {l : List Entry} {tree lv : Int} {top : Bool} (ht : 0 ≤ tree ∧ tree ≤ 255) (hf : fits l lv = true) (t : Str) : pnode (nodeB tree lv top l 12 ++ t) = some (⟨tree.toNat, lv.toNat, top, l⟩, t) := by
  obtain ⟨_, hv, hlen⟩ := nodeB_len (tree := tree) (top := top) (base := 12) hf
  obtain ⟨⟨q1, q2⟩, _⟩ := valid_iff.1 hv
  have hs := shared_len hv
  unfold pnode nodeB
  simp only [List.append_assoc]
  rw [pnum_num (Nat.lt_of_le_of_lt (show tree.toNat ≤ 255 by omega) (by decide))]
  simp only [Option.bind_some]
  rw [pnum_num (Nat.lt_of_le_of_lt (show lv.toNat ≤ 20 by omega) (by decide))]
  simp only [Option.bind_some]
  rw [pnum_num (by cases top <;> decide)]
  simp only [Option.bind_some]
  rw [pnum_num (Nat.lt_of_le_of_lt hs (by decide))]
  simp only [Option.bind_some]
  rw [pnum_num (Nat.lt_of_le_of_lt hlen (by decide))]
  simp only [Option.bind_some]
  rw [ptext_app _ _ rfl]
  simp only [Option.bind_some]
  rw [ptext_app _ _ (by rw [offsB_len])]
  simp only [Option.bind_some]
  have e := entsB_from l lv l.length 0 (by omega)
  rw [Nat.zero_add] at e
  have e0 : entsB l lv 0 = [] := rfl
  rw [e, e0, List.nil_append, show ((lv.toNat : Nat) : Int) = lv by omega, pents_enc hv t l.length 0 (by omega)]
  simp only [Option.map_some, List.drop_zero]
  cases top <;> rfl
theorem ppiece_enc {next : Int} {data : Str} (hn : 0 ≤ next ∧ next ≤ 4095) (hd : data.length ≤ 490) (t : Str) : ppiece (pieceB next data ++ t) = some ((next.toNat, data), t) := by
  unfold ppiece pieceB
  simp only [List.append_assoc]
  rw [pnum_num (Nat.lt_of_le_of_lt (show next.toNat ≤ 4095 by omega) (by decide))]
  simp only [Option.bind_some]
  rw [pnum_num (Nat.lt_of_le_of_lt hd (by decide))]
  simp only [Option.bind_some]
  rw [ptext_app _ _ rfl]
  rfl
theorem ppages_enc (t : Str) : ∀ {l : List Int}, (∀ x ∈ l, 2 ≤ x ∧ x ≤ 4095) → ppages l.length (pagesB l ++ t) = some (l.map Int.toNat, t)
  | [], _ => rfl
  | x :: l, h => by
    have hx := h x (List.mem_cons_self ..)
    show ppages (l.length + 1) ((num x.toNat 4 ++ pagesB l) ++ t) = _
    simp only [ppages, List.append_assoc]
    rw [pnum_num (Nat.lt_of_le_of_lt (show x.toNat ≤ 4095 by omega) (by decide))]
    simp only [Option.bind_some]
    rw [ppages_enc t fun y hy => h y (List.mem_cons_of_mem _ hy)]
    rfl
def coreF (f : Freed) : Nat × List Nat := (f.ver.toNat, f.pages.map Int.toNat)
theorem pfreeds_enc (t : Str) : ∀ {l : List Freed}, (∀ f ∈ l, (0 ≤ f.ver ∧ f.ver ≤ 1099511627776) ∧ f.pages.length ≤ 4094 ∧ ∀ x ∈ f.pages, 2 ≤ x ∧ x ≤ 4095) → pfreeds l.length (freedsB l ++ t) = some (l.map coreF, t)
  | [], _ => rfl
  | f :: l, h => by
    obtain ⟨hv, hp, hx⟩ := h f (List.mem_cons_self ..)
    show pfreeds (l.length + 1) ((freedB f ++ freedsB l) ++ t) = _
    unfold freedB
    simp only [pfreeds, List.append_assoc]
    rw [pnum_num (Nat.lt_of_le_of_lt (show f.ver.toNat ≤ 1099511627776 by omega) (by decide))]
    simp only [Option.bind_some]
    rw [pnum_num (Nat.lt_of_le_of_lt hp (by decide))]
    simp only [Option.bind_some]
    rw [ppages_enc _ hx]
    simp only [Option.bind_some]
    rw [pfreeds_enc t fun y hy => h y (List.mem_cons_of_mem _ hy)]
    rfl
theorem plist_enc {next : Int} {l : List Freed} (hn : 0 ≤ next ∧ next ≤ 4095) (hok : freedOk l = true) (hlen : l.length ≤ 490) (t : Str) : plist (listB next l ++ t) = some ((next.toNat, l.map coreF), t) := by
  unfold plist listB
  simp only [List.append_assoc]
  rw [pnum_num (Nat.lt_of_le_of_lt (show next.toNat ≤ 4095 by omega) (by decide))]
  simp only [Option.bind_some]
  rw [pnum_num (Nat.lt_of_le_of_lt hlen (by decide))]
  simp only [Option.bind_some]
  rw [pfreeds_enc t fun f hf => by
    obtain ⟨i, hi, rfl⟩ := List.getElem_of_mem hf
    obtain ⟨h1, _, _, h4⟩ := freedOk_at hok hi
    refine ⟨h1, pgs_few h4, fun x hx => ?_⟩
    obtain ⟨j, hj, rfl⟩ := List.getElem_of_mem hx
    exact (pgsOk_at h4 hj).1]
  rfl
def bdOf (p : Page) : Bdy := if p.kind = 3 then .pc (p.next.toNat, p.data) else if p.kind = 4 then .ls (p.next.toNat, p.freed.map coreF) else .nd ⟨p.tree.toNat, p.level.toNat, p.top, p.entries⟩
theorem listed_len (l : List Freed) : 6 + 8 * (l.length : Int) ≤ listed l := by
  induction l with
  | nil => simp [listed]
  | cons f r ih => simp only [listed, List.map_cons, List.sum_cons, List.length_cons] at ih ⊢; omega
/-- A page that was written is read again. -/
theorem pread_enc {p : Page} (hc : p.check = true) : pread p.enc = some ⟨p.kind.toNat, p.no.toNat, p.ver.toNat, bdOf p⟩ := by
  obtain ⟨hno, hver, hk⟩ := check_iff.1 hc
  have e0 : (p.enc.take 508).drop 1 = num p.kind.toNat 1 ++ (num p.no.toNat 4 ++ (num p.ver.toNat 6 ++ (p.bodyB ++ zeros (508 - p.used.length)))) := by
    have : p.enc.take 508 = p.full := by
      unfold Page.enc
      rw [List.take_append_of_le_length (by rw [full_len hc]; decide), List.take_of_length_le (by rw [full_len hc]; decide)]
    rw [this]
    unfold Page.full Page.used Page.headB
    simp only [List.cons_append, List.drop_succ_cons, List.drop_zero, List.append_assoc]
  have hkind : p.kind.toNat ≤ 4 := by omega
  unfold pread
  rw [e0, pnum_num (Nat.lt_of_le_of_lt hkind (by decide))]
  simp only [Option.bind_some]
  rw [pnum_num (Nat.lt_of_le_of_lt (show p.no.toNat ≤ 4095 by omega) (by decide))]
  simp only [Option.bind_some]
  rw [pnum_num (Nat.lt_of_le_of_lt (show p.ver.toNat ≤ 1099511627776 by omega) (by decide))]
  simp only [Option.bind_some]
  have e1 : pbody p.kind.toNat (p.bodyB ++ zeros (508 - p.used.length)) = some (bdOf p) := by
    unfold pbody Page.bodyB bdOf
    rcases hk with ⟨h1, ht, _, hf, _⟩ | ⟨h1, _, hl, hd, _⟩ | ⟨h1, _, hl, _, hok, hs⟩
    · rw [if_pos (by omega), if_neg (by omega), if_neg (by omega), pnode_enc ht hf, if_neg (by omega), if_neg (by omega)]
      rfl
    · rw [if_neg (by omega), if_pos (by omega), if_pos h1, ppiece_enc (linked_nn hl) (by omega), if_pos h1]
      rfl
    · have := listed_len p.freed
      rw [if_neg (by omega), if_neg (by omega), if_neg (by omega), if_pos h1, plist_enc (linked_nn hl) hok (by omega), if_neg (by omega), if_pos h1]
      rfl
  rw [e1]
  rfl
end Go.Proofs
