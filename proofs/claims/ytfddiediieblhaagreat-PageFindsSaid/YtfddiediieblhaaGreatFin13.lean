/- Texts put together: En, Eo, Er, Et, Eu, Ev, Yc, Yd, Tg, Dd, Da, Db, Sd, S0. -/
import Derived.Test.YtfddiediieblhaaGreatFin12
import Derived.Test.YtfddiediieblhaaGreatFin7
import Derived.Test.YtfddiediieblhaaGreatFin11
import Derived.Test.YtfddiediieblhaaGreatFin10
import Derived.Test.YtfddiediieblhaaGreatFin9
import Derived.Test.YtfddiediieblhaaGreatFin6
/- Contracts: the reference's reader: the entries of a node. -/
set_option linter.unusedVariables false
set_option linter.unusedSimpArgs false
namespace Go.Proofs
open Go Go.Abs
abbrev tPg : Nat := 25
/-- The memory of the walk through read. -/
structure PSt (h : AHeap) (cs : List AV) (t : RT) : Prop where
  a : h[0]? = some (.cells 0 (some tPg) zeroP 0)
  r : RRd h 1 t
  p : h[2]? = some (.cells 0 (some tPg) cs 0)
theorem PSt.next {h h' : AHeap} {cs : List AV} {t t' : RT} (s : PSt h cs t) (k : Keep h h' [1]) (r : RRd h' 1 t') : PSt h' cs t' :=
  ⟨k.get s.a (by simp), r, k.get s.p (by simp)⟩
theorem PSt.set {h : AHeap} {cs cs' : List AV} {t : RT} (s : PSt h cs t) : PSt (h.set 2 (.cells 0 (some tPg) cs' 0)) cs' t := by
  refine ⟨?_, ?_, ?_⟩
  · rw [List.getElem?_set_ne (by omega)]; exact s.a
  · unfold RRd; rw [List.getElem?_set_ne (by omega)]; exact s.r
  · rw [List.getElem?_set_self (lt_of_get s.p)]
theorem PSt.stays {h h' : AHeap} {cs : List AV} {t : RT} {F : List Nat} (s : PSt h cs t) (k : Keep h h' F) (hF : ∀ z ∈ F, 3 ≤ z) : PSt h' cs t :=
  ⟨k.get s.a (fun q => by have := hF _ q; omega), k.get s.r (fun q => by have := hF _ q; omega), k.get s.p (fun q => by have := hF _ q; omega)⟩
def ndCells (k no v tree lv : Nat) (top : Bool) (L : AV) : List AV := [i64 k, i64 no, i64 v, i64 tree, i64 lv, .bool top, L, i64 0, .str [], .lst 0 [] true]
set_option maxRecDepth 10000 in
theorem rents_loop {m : Nat} (hm : 3 ≤ m) {h0 : AHeap} {k no v tree lv : Nat} {top : Bool} {t0 : RT} (s0 : PSt h0 (ndCells k no v tree lv top (.lst 0 [] true)) t0) (hl : t0.1.length < 1099511627776) (cnt : Nat) (hc : cnt < 65536) (pre : Str) (hpl : pre.length < 1099511627776) {Q : Ex → LS → Prop} {st : LS}
    (hs : LS.sub ⟨[(2, .ptr 0 0 0), (3, .ptr 1 0 0), (4, .ptr 2 0 0), (6, i64 cnt), (7, .str pre), (8, i64 0)], h0, []⟩ st)
    (hE : ∀ h L G, PSt h (ndCells k no v tree lv top L) (rents pre lv cnt 0 t0).2 → GBuf tEn 22 h 2 L ((rents pre lv cnt 0 t0).1.map Entry.cells) G → (∀ z ∈ G, z = 2 ∨ 3 ≤ z) → ∀ Lt, subL [(2, .ptr 0 0 0), (4, .ptr 2 0 0)] Lt → Q (.exit 1) ⟨Lt, h, []⟩) :
    OkR Tryz.prog (C m) cfg0.inl KK 135 8 (.loop (c69.lp 0)) st Q := by
  refine loopI (by decide) rfl (α := Nat × List Entry × RT × List Nat × AV × AHeap) (fun y => ⟨[(2, .ptr 0 0 0), (3, .ptr 1 0 0), (4, .ptr 2 0 0), (6, i64 cnt), (7, .str pre), (8, i64 y.1)], y.2.2.2.2.2, []⟩)
    (fun y => y.1 ≤ cnt ∧ PSt y.2.2.2.2.2 (ndCells k no v tree lv top y.2.2.2.2.1) y.2.2.1 ∧ GBuf tEn 22 y.2.2.2.2.2 2 y.2.2.2.2.1 (y.2.1.map Entry.cells) y.2.2.2.1 ∧ (∀ z ∈ y.2.2.2.1, z = 2 ∨ 3 ≤ z) ∧ y.2.1.length = y.1 ∧ rents pre lv cnt 0 t0 = (y.2.1 ++ (rents pre lv (cnt - y.1) y.1 y.2.2.1).1, (rents pre lv (cnt - y.1) y.1 y.2.2.1).2) ∧ y.2.2.1.1.length < 1099511627776)
    (fun y => cnt - y.1) (0, [], t0, [2], .lst 0 [] true, h0) hs ⟨Nat.zero_le _, s0, ⟨by simp, .inl ⟨rfl, rfl, rfl⟩⟩, fun z hz => .inl (by simpa using hz), rfl, by simp, hl⟩ (by show cnt - 0 < KK; simp only [KK]; omega) ?_
  rintro ⟨j, es, t, G, L, h⟩ ⟨g1, g2, g3, g4, g5, g6, g7⟩
  simp only at g1 g2 g3 g4 g5 g6 g7
  have exitW : ∀ Lt : LT, rents pre lv (cnt - j) j t = ([], t) → subL [(2, .ptr 0 0 0), (4, .ptr 2 0 0)] Lt → Q (.exit 1) ⟨Lt, h, []⟩ := fun Lt hr hL => by
    rw [hr] at g6
    simp only [List.append_nil] at g6
    exact hE h L G (by rw [g6]; exact g2) (by rw [g6]; exact g3) g4 Lt hL
  have hrr : h[1]? = some (.cells 0 (some tRef) [.str t.1, .bool t.2] 0) := g2.r
  conv => whnf
  refine brd (fun a => ?_) (fun a => ?_)
  · have hj : j < cnt := by simp only at a; omega
    obtain ⟨d, hd⟩ : ∃ d, cnt - j = d + 1 := ⟨cnt - j - 1, by omega⟩
    have hd' : cnt - (j + 1) = d := by omega
    conv => whnf
    refine ldI hrr ?_
    conv => whnf
    refine brn (fun c => ?_) (fun c => ?_)
    · have step : rents pre lv (d + 1) j t = if t.2 = true then ([], t) else ((rent pre lv (decide (j = 0)) t).1 :: (rents pre lv d (j + 1) (rent pre lv (decide (j = 0)) t).2).1, (rents pre lv d (j + 1) (rent pre lv (decide (j = 0)) t).2).2) := rfl
      rw [hd, step, if_neg (by rw [c]; decide)] at g6
      obtain ⟨r', h1, e1, er, r1, k1⟩ := rent_eq (n := m) (by omega) g2.r g7 pre hpl (lv : Int) (by omega) (decide (j = 0))
      subst er
      have hfst : ((j : Int) == 0) = decide (j = 0) := by rw [Bool.eq_iff_iff, beq_iff_eq, decide_eq_true_eq]; omega
      have hlen := (rent_len pre lv (decide (j = 0)) t).2.2
      generalize hX : rent pre lv (decide (j = 0)) t = X at *
      have e1' : C m 122 [.ptr 1 0 0, .str pre, i64 lv, .bool ((j : Int) == 0)] h = some (.ret (.agg X.1.cells), h1) := by rw [hfst]; exact e1
      have s1 := g2.next k1 r1
      have b1 : GBuf tEn 22 h1 2 L (es.map Entry.cells) G := g3.stays fun x hx hne => by
        have := g4 x hx
        exact k1.2 x (g3.lt (lt_of_get g2.p) x hx) (by simp; omega)
      obtain ⟨w, oh, ea, hp2, G', ehp2, p1, p2, p3, p4, xs, p5, p6⟩ := gbuf_app (x := .lst 22 [.agg X.1.cells] true) b1 (lt_of_get s1.p) rfl (first_agg _ rfl rfl) ⟨rfl, rfl⟩ (by simp [g5]; omega)
      subst p6
      have f1 := p1.trans s1.p
      conv => whnf
      refine ldI g2.p ?_
      conv => whnf
      refine ldI g2.p ?_
      conv => whnf
      refine clI e1' ?_
      conv => whnf
      refine ⟨?_, ?_⟩
      · repeat' (conv => whnf); first | exact ldI (s1.p) rfl | refine ⟨?_, ?_⟩
      conv => whnf
      refine ⟨rfl, ?_⟩
      refine ⟨_, ea, ?_⟩
      have nxt : ∀ L' : LT, subL [(2, .ptr 0 0 0), (3, .ptr 1 0 0), (4, .ptr 2 0 0), (6, i64 cnt), (7, .str pre), (8, i64 ((j + 1 : Nat) : Int))] L' → ∃ y : Nat × List Entry × RT × List Nat × AV × AHeap, (y.1 ≤ cnt ∧ PSt y.2.2.2.2.2 (ndCells k no v tree lv top y.2.2.2.2.1) y.2.2.1 ∧ GBuf tEn 22 y.2.2.2.2.2 2 y.2.2.2.2.1 (y.2.1.map Entry.cells) y.2.2.2.1 ∧ (∀ z ∈ y.2.2.2.1, z = 2 ∨ 3 ≤ z) ∧ y.2.1.length = y.1 ∧ rents pre lv cnt 0 t0 = (y.2.1 ++ (rents pre lv (cnt - y.1) y.1 y.2.2.1).1, (rents pre lv (cnt - y.1) y.1 y.2.2.1).2) ∧ y.2.2.1.1.length < 1099511627776) ∧ cnt - y.1 < cnt - j ∧ LS.sub ⟨[(2, .ptr 0 0 0), (3, .ptr 1 0 0), (4, .ptr 2 0 0), (6, i64 cnt), (7, .str pre), (8, i64 y.1)], y.2.2.2.2.2, []⟩ ⟨L', hp2.set 2 (.cells 0 (some tPg) (putAt (ndCells k no v tree lv top L) 6 [w]) 0), []⟩ := fun L' hL => by
        have s2 : PSt hp2 (ndCells k no v tree lv top L) X.2 := by
          refine ⟨p3.get s1.a (fun q => ?_), p3.get s1.r (fun q => ?_), f1⟩
          · have := g4 _ q; omega
          · have := g4 _ q; omega
        refine ⟨(j + 1, es ++ [X.1], X.2, G', w, _), ⟨hj, s2.set (cs' := ndCells k no v tree lv top w), ?_, fun z hz => ?_, by simp [g5], ?_, by simp only; omega⟩, by simp only; omega, hL, rfl, rfl⟩
        · simp only [List.map_append, List.map_cons, List.map_nil]
          exact p2.stays fun y hy hn => by rw [List.getElem?_set_ne (Ne.symm hn)]
        · rcases p4 z hz with q | q
          · exact g4 z q
          · exact .inr (by have := lt_of_get s1.p; omega)
        · simp only
          rw [g6, hd']
          simp
      subst ehp2
      cases oh with
      | none =>
        conv => whnf
        refine ⟨?_, ?_⟩
        · repeat' (conv => whnf); first | exact ldI (f1) rfl | refine ⟨?_, ?_⟩
        conv => whnf
        refine stI f1 p5 (by rfl) (by rfl) (by rfl) ?_
        conv => whnf
        refine zI (z := ((j + 1 : Nat) : Int)) (by rw [wrap_i64 (by omega) (by omega)]; rfl) ?_
        exact nxt _ ⟨rfl, rfl, rfl, rfl, rfl, rfl⟩
      | some h9 =>
        conv => whnf
        refine ⟨?_, ?_⟩
        · repeat' (conv => whnf); first | exact ldI (f1) rfl | refine ⟨?_, ?_⟩
        conv => whnf
        refine stI f1 p5 (by rfl) (by rfl) (by rfl) ?_
        conv => whnf
        refine zI (z := ((j + 1 : Nat) : Int)) (by rw [wrap_i64 (by omega) (by omega)]; rfl) ?_
        exact nxt _ ⟨rfl, rfl, rfl, rfl, rfl, rfl⟩
    · refine exitW _ ?_ ⟨rfl, rfl⟩
      rw [hd]
      show (if t.2 = true then ([], t) else _) = _
      rw [if_pos c]
  · conv => whnf
    refine exitW _ ?_ ⟨rfl, rfl⟩
    have : cnt - j = 0 := by simp only at a; omega
    rw [this]
    rfl
end Go.Proofs
/- Contracts: the reference's reader: the numbers of a list of freed pages. -/
set_option linter.unusedVariables false
set_option linter.unusedSimpArgs false
namespace Go.Proofs
open Go Go.Abs
set_option maxRecDepth 10000 in
theorem rrpages_loop {m : Nat} (hm : 2 ≤ m) {hp : AHeap} {t0 : RT} (r : RRd hp 1 t0) (hl : t0.1.length < 1099511627776) {X : Nat} (hX : 3 ≤ X) {ver : Int} (x : PG hp X ver [] [X]) (k : Nat) (hk : k < 65536) (v2 v4 v9 v10 : AV) {Q : Ex → LS → Prop} {st : LS}
    (hs : LS.sub ⟨[(2, v2), (3, .ptr 1 0 0), (4, v4), (9, v9), (10, v10), (11, .ptr X 0 0), (12, i64 k), (13, i64 0)], hp, []⟩ st)
    (hE : ∀ G h, RRd h 1 (rpages k t0).2 → PG h X ver (rpages k t0).1 G → Keep hp h [1, X] → (∀ z ∈ G, z = X ∨ hp.length ≤ z) → ∀ L, subL [(2, v2), (3, .ptr 1 0 0), (4, v4), (9, v9), (10, v10), (11, .ptr X 0 0)] L → Q (.exit 5) ⟨L, h, []⟩) :
    OkR Tryz.prog (C m) cfg0.inl KK 135 8 (.loop (c69.lp 2)) st Q := by
  have hXl : X < hp.length := by obtain ⟨L, q2, _⟩ := x.ex; exact lt_of_get q2
  refine loopI (by decide) rfl (α := Nat × List Nat × RT × List Nat × AHeap) (fun y => ⟨[(2, v2), (3, .ptr 1 0 0), (4, v4), (9, v9), (10, v10), (11, .ptr X 0 0), (12, i64 k), (13, i64 y.1)], y.2.2.2.2, []⟩)
    (fun y => y.1 ≤ k ∧ PG y.2.2.2.2 X ver y.2.1 y.2.2.2.1 ∧ RRd y.2.2.2.2 1 y.2.2.1 ∧ Keep hp y.2.2.2.2 [1, X] ∧ (∀ z ∈ y.2.2.2.1, z = X ∨ hp.length ≤ z) ∧ y.2.1.length = y.1 ∧ rpages k t0 = (y.2.1 ++ (rpages (k - y.1) y.2.2.1).1, (rpages (k - y.1) y.2.2.1).2) ∧ y.2.2.1.1.length < 1099511627776)
    (fun y => k - y.1) (0, [], t0, [X], hp) hs ⟨Nat.zero_le _, x, r, Keep.refl _ _, fun z hz => .inl (by simpa using hz), rfl, by simp, hl⟩ (by show k - 0 < KK; simp only [KK]; omega) ?_
  rintro ⟨j, ps, t, G1, h1⟩ ⟨g1, g2, g3, g4, g5, g6, g7, g8⟩
  simp only at g1 g2 g3 g4 g5 g6 g7 g8
  have bG1 : 1 ∉ G1 := fun q => by
    rcases g5 _ q with q | q
    · omega
    · omega
  have exitW : ∀ Lt : LT, rpages (k - j) t = ([], t) → subL [(2, v2), (3, .ptr 1 0 0), (4, v4), (9, v9), (10, v10), (11, .ptr X 0 0)] Lt → Q (.exit 5) ⟨Lt, h1, []⟩ := fun Lt hr hL => by
    rw [hr] at g7
    simp only [List.append_nil] at g7
    exact hE G1 h1 (by rw [g7]; exact g3) (by rw [g7]; exact g2) g4 g5 Lt hL
  have hrr : h1[1]? = some (.cells 0 (some tRef) [.str t.1, .bool t.2] 0) := g3
  conv => whnf
  refine brd (fun a => ?_) (fun a => ?_)
  · have hj : j < k := by simp only at a; omega
    obtain ⟨d, hd⟩ : ∃ d, k - j = d + 1 := ⟨k - j - 1, by omega⟩
    have hd' : k - (j + 1) = d := by omega
    conv => whnf
    refine ldI hrr ?_
    conv => whnf
    refine brn (fun c => ?_) (fun c => ?_)
    · have step : rpages (d + 1) t = if t.2 = true then ([], t) else ((rnum 4 t).1 :: (rpages d (rnum 4 t).2).1, (rpages d (rnum 4 t).2).2) := rfl
      rw [hd, step, if_neg (by rw [c]; decide)] at g7
      obtain ⟨h3, e3, r3, k3⟩ := rnum_eq (n := m) (by omega) g3 g8 4 (by omega)
      have hlen := rnum_len 4 t
      generalize hZ : rnum 4 t = Z at *
      obtain ⟨L, x1, x2⟩ := g2.ex
      have x3 := k3.get x1 (by simp; omega)
      have b3 : GBuf 3 1 h3 X L (row1 ps) G1 := x2.stays fun y hy hn => k3.2 y (x2.lt (lt_of_get x1) y hy) (by simp; rintro rfl; exact bG1 hy)
      have k03 : Keep hp h3 [1, X] := g4.trans k3 (fun z hz => .inl (by simp at hz; simp [hz]))
      have hlen2 : (row1 ps).length = j := by simp [row1, g6]
      obtain ⟨v, oh, ea, hp2, G', ehp2, p1, p2, p3, p4, xs, p5, p6⟩ := gbuf_app (x := .lst 1 [i64 Z.1] true) b3 (lt_of_get x3) rfl (first_one _ _ rfl) ⟨rfl, rfl⟩ (by rw [hlen2]; omega)
      subst p6
      have f3 := p1.trans x3
      have next : ∀ (L' : LT), subL [(2, v2), (3, .ptr 1 0 0), (4, v4), (9, v9), (10, v10), (11, .ptr X 0 0), (12, i64 k), (13, i64 ((j + 1 : Nat) : Int))] L' → ∃ y : Nat × List Nat × RT × List Nat × AHeap, (y.1 ≤ k ∧ PG y.2.2.2.2 X ver y.2.1 y.2.2.2.1 ∧ RRd y.2.2.2.2 1 y.2.2.1 ∧ Keep hp y.2.2.2.2 [1, X] ∧ (∀ z ∈ y.2.2.2.1, z = X ∨ hp.length ≤ z) ∧ y.2.1.length = y.1 ∧ rpages k t0 = (y.2.1 ++ (rpages (k - y.1) y.2.2.1).1, (rpages (k - y.1) y.2.2.1).2) ∧ y.2.2.1.1.length < 1099511627776) ∧ k - y.1 < k - j ∧ LS.sub ⟨[(2, v2), (3, .ptr 1 0 0), (4, v4), (9, v9), (10, v10), (11, .ptr X 0 0), (12, i64 k), (13, i64 y.1)], y.2.2.2.2, []⟩ ⟨L', hp2.set X (.cells 0 (some 165) (putAt [i64 ver, L] 1 [v]) 0), []⟩ := fun L' hL => by
        have eX : (hp2.set X (.cells 0 (some 165) (putAt [i64 ver, L] 1 [v]) 0))[X]? = some (.cells 0 (some 165) [i64 ver, v] 0) := by rw [List.getElem?_set_self (lt_of_get f3)]; rfl
        have kS : Keep h3 (hp2.set X (.cells 0 (some 165) (putAt [i64 ver, L] 1 [v]) 0)) G1 := p3.set' (.inl b3.mem)
        refine ⟨(j + 1, ps ++ [Z.1], Z.2, G', _), ⟨hj, ⟨v, eX, ?_⟩, r3.stays kS bG1, ?_, fun z hz => ?_, by simp [g6], ?_, by simp only; omega⟩, by simp only; omega, hL, rfl, rfl⟩
        · have : row1 (ps ++ [Z.1]) = row1 ps ++ [[i64 Z.1]] := by simp [row1]
          rw [this]
          exact p2.stays fun y hy hn => by rw [List.getElem?_set_ne (Ne.symm hn)]
        · exact k03.trans kS (fun z hz => by
            rcases g5 z hz with q | q
            · exact .inl (by simp [q])
            · exact .inr q)
        · rcases p4 z hz with q | q
          · exact g5 z q
          · exact .inr (by have := k03.1; omega)
        · simp only
          rw [g7, hd']
          simp
      conv => whnf
      refine ldI x1 ?_
      conv => whnf
      refine clI e3 ?_
      conv => whnf
      refine ⟨?_, ?_⟩
      · repeat' (conv => whnf); first | exact ldI (x3) rfl | refine ⟨?_, ?_⟩
      conv => whnf
      refine ⟨rfl, ?_⟩
      refine ⟨_, ea, ?_⟩
      subst ehp2
      cases oh with
      | none =>
        conv => whnf
        refine stI f3 p5 (by rfl) (by rfl) (by rfl) ?_
        conv => whnf
        refine zI (z := ((j + 1 : Nat) : Int)) (by rw [wrap_i64 (by omega) (by omega)]; rfl) ?_
        exact next _ ⟨rfl, rfl, rfl, rfl, rfl, rfl, rfl, rfl⟩
      | some h2 =>
        conv => whnf
        refine stI f3 p5 (by rfl) (by rfl) (by rfl) ?_
        conv => whnf
        refine zI (z := ((j + 1 : Nat) : Int)) (by rw [wrap_i64 (by omega) (by omega)]; rfl) ?_
        exact next _ ⟨rfl, rfl, rfl, rfl, rfl, rfl, rfl, rfl⟩
    · refine exitW _ ?_ ⟨rfl, rfl, rfl, rfl, rfl, rfl⟩
      rw [hd]
      show (if t.2 = true then ([], t) else _) = _
      rw [if_pos c]
  · conv => whnf
    refine exitW _ ?_ ⟨rfl, rfl, rfl, rfl, rfl, rfl⟩
    have : k - j = 0 := by simp only at a; omega
    rw [this]
    rfl
end Go.Proofs
/- Contracts: the reference's reader: the list of freed pages. -/
set_option linter.unusedVariables false
set_option linter.unusedSimpArgs false
namespace Go.Proofs
open Go Go.Abs
def lsCells (k no v next : Nat) (LL : AV) : List AV := [i64 k, i64 no, i64 v, i64 0, i64 0, .bool false, .lst 0 [] true, i64 next, .str [], LL]
theorem rpages_rest : ∀ (k : Nat) (t : RT), (rpages k t).2.1.length ≤ t.1.length
  | 0, t => Nat.le_refl _
  | k + 1, t => by
    unfold rpages
    split
    · exact Nat.le_refl _
    · exact Nat.le_trans (rpages_rest k _) (rnum_len 4 t)
abbrev FY : Type := Nat × List FT × RT × List Nat × List Nat × AV × AHeap
def FInv (kk no v next k : Nat) (t0 : RT) (y : FY) : Prop :=
  y.1 ≤ k ∧ PSt y.2.2.2.2.2.2 (lsCells kk no v next y.2.2.2.2.2.1) y.2.2.1 ∧ LV y.2.2.2.2.2.2 2 y.2.2.2.2.2.1 y.2.1 y.2.2.2.1 y.2.2.2.2.1 ∧ (∀ z ∈ y.2.2.2.1, z = 2 ∨ 3 ≤ z) ∧ (∀ z ∈ y.2.2.2.2.1, 3 ≤ z ∧ z ∉ y.2.2.2.1 ∧ z < y.2.2.2.2.2.2.length) ∧ y.2.1.length = y.1 ∧ rfreeds k t0 = (y.2.1.map ofF ++ (rfreeds (k - y.1) y.2.2.1).1, (rfreeds (k - y.1) y.2.2.1).2) ∧ y.2.2.1.1.length < 1099511627776
set_option maxRecDepth 10000 in
theorem rrfreeds_loop {m : Nat} (hm : 2 ≤ m) {h0 : AHeap} {kk no v next : Nat} {t0 : RT} (s0 : PSt h0 (lsCells kk no v next (.lst 0 [] true)) t0) (hl : t0.1.length < 1099511627776) (k : Nat) (hk : k < 65536) {Q : Ex → LS → Prop} {st : LS}
    (hs : LS.sub ⟨[(2, .ptr 0 0 0), (3, .ptr 1 0 0), (4, .ptr 2 0 0), (9, i64 k), (10, i64 0)], h0, []⟩ st)
    (hE : ∀ ts G I LL h, (rfreeds k t0).1 = ts.map ofF → PSt h (lsCells kk no v next LL) (rfreeds k t0).2 → LV h 2 LL ts G I → (∀ z ∈ G, z = 2 ∨ 3 ≤ z) → (∀ z ∈ I, 3 ≤ z ∧ z < h.length) → ∀ Lt, subL [(2, .ptr 0 0 0), (4, .ptr 2 0 0)] Lt → Q (.exit 3) ⟨Lt, h, []⟩) :
    OkR Tryz.prog (C m) cfg0.inl KK 135 8 (.loop (c69.lp 1)) st Q := by
  refine loopI (by decide) rfl (α := FY) (fun y => ⟨[(2, .ptr 0 0 0), (3, .ptr 1 0 0), (4, .ptr 2 0 0), (9, i64 k), (10, i64 y.1)], y.2.2.2.2.2.2, []⟩)
    (FInv kk no v next k t0) (fun y => k - y.1) (0, [], t0, [2], [], .lst 0 [] true, h0) hs ⟨Nat.zero_le _, s0, ⟨⟨by simp, .inl ⟨rfl, rfl, rfl⟩⟩, by simp⟩, fun z hz => .inl (by simpa using hz), by simp, rfl, by simp, hl⟩ (by show k - 0 < KK; simp only [KK]; omega) ?_
  rintro ⟨j, ts, t, G1, I1, LL, h1⟩ ⟨g1, g2, g3, g6, g7, g8, g9, g10⟩
  simp only at g1 g2 g3 g6 g7 g8 g9 g10
  have bG1 : 1 ∉ G1 := fun q => by
    rcases g6 _ q with q | q
    · omega
    · omega
  have bI1 : 1 ∉ I1 := fun q => by have := (g7 _ q).1; omega
  have exitW : ∀ Lt : LT, rfreeds (k - j) t = ([], t) → subL [(2, .ptr 0 0 0), (4, .ptr 2 0 0)] Lt → Q (.exit 3) ⟨Lt, h1, []⟩ := fun Lt hr hL => by
    rw [hr] at g9
    simp only [List.append_nil] at g9
    exact hE ts G1 I1 LL h1 (by rw [g9]) (by rw [g9]; exact g2) g3 g6 (fun z hz => ⟨(g7 z hz).1, (g7 z hz).2.2⟩) Lt hL
  have hrr : h1[1]? = some (.cells 0 (some tRef) [.str t.1, .bool t.2] 0) := g2.r
  conv => whnf
  refine brd (fun a => ?_) (fun a => ?_)
  · have hj : j < k := by simp only at a; omega
    obtain ⟨d, hd⟩ : ∃ d, k - j = d + 1 := ⟨k - j - 1, by omega⟩
    have hd' : k - (j + 1) = d := by omega
    conv => whnf
    refine ldI hrr ?_
    conv => whnf
    refine brn (fun c => ?_) (fun c => ?_)
    · have step : rfreeds (d + 1) t = if t.2 = true then ([], t) else ((rfreed t).1 :: (rfreeds d (rfreed t).2).1, (rfreeds d (rfreed t).2).2) := rfl
      rw [hd, step, if_neg (by rw [c]; decide)] at g9
      have l3 : 3 ≤ h1.length := by have := lt_of_get g2.p; omega
      obtain ⟨h2, e2, r2, k2⟩ := rnum_eq (n := m) (by omega) g2.r g10 6 (by omega)
      have n2 := rnum_len 6 t
      have s2 := g2.next k2 r2
      have hX3 : 3 ≤ h2.length := by have := k2.1; omega
      have es2 : (h2 ++ [AB.cells 0 (some 165) [i64 0, .lst 0 [] true] 0]).set h2.length (AB.cells 0 (some 165) [i64 (rnum 6 t).1, .lst 0 [] true] 0) = h2 ++ [AB.cells 0 (some 165) [i64 (rnum 6 t).1, .lst 0 [] true] 0] := by simp
      have kx : Keep h2 ((h2 ++ [AB.cells 0 (some 165) [i64 0, .lst 0 [] true] 0]).set h2.length (AB.cells 0 (some 165) [i64 (rnum 6 t).1, .lst 0 [] true] 0)) [] := by rw [es2]; exact Keep.app _ _ _
      have x3 : ((h2 ++ [AB.cells 0 (some 165) [i64 0, .lst 0 [] true] 0]).set h2.length (AB.cells 0 (some 165) [i64 (rnum 6 t).1, .lst 0 [] true] 0))[h2.length]? = some (AB.cells 0 (some 165) [i64 (rnum 6 t).1, .lst 0 [] true] 0) := by rw [es2]; exact get_last _ _
      have s3 := s2.stays kx (by simp)
      obtain ⟨h4, e4, r4, k4⟩ := rnum_eq (n := m) (by omega) s3.r (by omega) 2 (by omega)
      have n4 := rnum_len 2 (rnum 6 t).2
      have lz := rnum_lt 2 (rnum 6 t).2
      have x4 := k4.get x3 (by simp; omega)
      have k14 : Keep h1 h4 [1] := (k2.trans kx (by simp)).trans k4 (fun z hz => .inl hz)
      have e0 : rfreed t = (((rnum 6 t).1, (rpages (rnum 2 (rnum 6 t).2).1 (rnum 2 (rnum 6 t).2).2).1), (rpages (rnum 2 (rnum 6 t).2).1 (rnum 2 (rnum 6 t).2).2).2) := rfl
      conv => whnf
      refine clI e2 ?_
      conv => whnf
      refine stI (get_last _ _) (by rfl) (by rfl) (by rfl) (by rfl) ?_
      conv => whnf
      refine clI e4 ?_
      conv => whnf
      refine rrpages_loop (hp := h4) hm r4 (by omega) (X := h2.length) hX3 (ver := ((rnum 6 t).1 : Nat)) ⟨_, x4, ⟨by simp [row1], .inl ⟨rfl, rfl, rfl⟩⟩⟩ _ lz (.ptr 0 0 0) (.ptr 2 0 0) (i64 k) (i64 j) ⟨⟨rfl, rfl, rfl, rfl, rfl, rfl, rfl, rfl⟩, rfl, rfl⟩ (fun G5 h5 r5 x5 k5 g5' L5 hL5 => ?_)
      have k15 : Keep h1 h5 [1] := k14.trans k5 (fun z hz => by
        simp at hz
        rcases hz with rfl | rfl
        · exact .inl (by simp)
        · exact .inr k2.1)
      have y5 := k15.get g2.p (by simp)
      have lG1 := g3.buf.lt (lt_of_get g2.p)
      have l5 : LV h5 2 LL ts G1 I1 := g3.stays (fun x hx _ => k15.2 x (lG1 x hx) (by simp; rintro rfl; exact bG1 hx)) (fun x hx => k15.2 x (g7 x hx).2.2 (by simp; rintro rfl; exact bI1 hx))
      have lG5 := x5.lt
      obtain ⟨L, x5a, x5b⟩ := x5.ex
      have hi := x5b.inr
      have hsc := hi.scal
      have gG5 : ∀ z ∈ G5, h1.length ≤ z := fun z hz => by
        have := k2.1
        have := k14.1
        rcases g5' z hz with q | q
        · omega
        · omega
      have s5 := g2.next k15 r5
      have nr := rpages_rest (rnum 2 (rnum 6 t).2).1 (rnum 2 (rnum 6 t).2).2
      obtain ⟨w, oh, ea, hp2, G', ehp2, p1, p2, p3, p4, xs, p5, p6⟩ := gbuf_app (x := .lst 2 [.agg [i64 (rnum 6 t).1, L]] true) l5.buf (lt_of_get y5) rfl (first_agg _ rfl (two_cells hsc)) ⟨rfl, two_scal hsc⟩ (by simp only [List.length_map]; omega)
      subst p6
      have f5 := p1.trans y5
      have nxt : ∀ (L' : LT), subL [(2, .ptr 0 0 0), (3, .ptr 1 0 0), (4, .ptr 2 0 0), (9, i64 k), (10, i64 ((j + 1 : Nat) : Int))] L' → ∃ y : FY, FInv kk no v next k t0 y ∧ k - y.1 < k - j ∧ LS.sub ⟨[(2, .ptr 0 0 0), (3, .ptr 1 0 0), (4, .ptr 2 0 0), (9, i64 k), (10, i64 y.1)], y.2.2.2.2.2.2, []⟩ ⟨L', hp2.set 2 (.cells 0 (some tPg) (putAt (lsCells kk no v next LL) 9 [w]) 0), []⟩ := fun L' hL => by
        have kS : Keep h5 (hp2.set 2 (.cells 0 (some tPg) (putAt (lsCells kk no v next LL) 9 [w]) 0)) G1 := p3.set' (.inl l5.buf.mem)
        have s6 : PSt hp2 (lsCells kk no v next LL) (rpages (rnum 2 (rnum 6 t).2).1 (rnum 2 (rnum 6 t).2).2).2 :=
          ⟨p3.get s5.a (fun q => by have := g6 _ q; omega), p3.get s5.r bG1, f5⟩
        have n5 : ∀ z ∈ G5, z ∉ G1 := fun z hz q => by have := gG5 z hz; have := lG1 z q; omega
        have sI : ∀ x ∈ I1, (hp2.set 2 (.cells 0 (some tPg) (putAt (lsCells kk no v next LL) 9 [w]) 0))[x]? = h5[x]? := fun x hx => kS.2 x (by have := (g7 x hx).2.2; have := k15.1; omega) (g7 x hx).2.1
        have s5' : ∀ x ∈ G5, (hp2.set 2 (.cells 0 (some tPg) (putAt (lsCells kk no v next LL) 9 [w]) 0))[x]? = h5[x]? := fun x hx => kS.2 x (lG5 x hx) (n5 x hx)
        have hl2 := k15.1
        have hl3 := kS.1
        refine ⟨(j + 1, ts ++ [((rnum 6 t).1, (rpages (rnum 2 (rnum 6 t).2).1 (rnum 2 (rnum 6 t).2).2).1, L)], (rpages (rnum 2 (rnum 6 t).2).1 (rnum 2 (rnum 6 t).2).2).2, G', I1 ++ G5, w, _), ⟨hj, s6.set (cs' := lsCells kk no v next w), ⟨?_, fun u hu => ?_⟩, fun z hz => ?_, fun z hz => ?_, by simp [g8], ?_, by simp only; omega⟩, by simp only; omega, hL, rfl, rfl⟩
        · rw [List.map_append]
          exact p2.stays fun y hy hn => by rw [List.getElem?_set_ne (Ne.symm hn)]
        · rcases List.mem_append.1 hu with hu | hu
          · exact (l5.inr u hu).stays sI fun x hx => List.mem_append.2 (.inl hx)
          · simp at hu
            subst hu
            exact hi.stays s5' fun x hx => List.mem_append.2 (.inr hx)
        · rcases p4 z hz with q | q
          · exact g6 z q
          · exact .inr (by omega)
        · rcases List.mem_append.1 hz with q | q
          · obtain ⟨a1, a2, a3⟩ := g7 z q
            refine ⟨a1, fun q2 => ?_, by simp only [List.length_set] at hl3 ⊢; omega⟩
            rcases p4 z q2 with q3 | q3
            · exact a2 q3
            · omega
          · have a1 := gG5 z q
            have a2 := lG5 z q
            refine ⟨by omega, fun q2 => ?_, by simp only [List.length_set] at hl3 ⊢; omega⟩
            rcases p4 z q2 with q3 | q3
            · exact n5 z q q3
            · omega
        · simp only
          rw [g9, hd', e0]
          simp [ofF]
      conv => whnf
      refine cutI (by decide) rfl (t := ⟨[(2, .ptr 0 0 0), (3, .ptr 1 0 0), (4, .ptr 2 0 0), (9, i64 k), (10, i64 j), (11, .ptr h2.length 0 0)], h5, []⟩) ⟨hL5, rfl, rfl⟩ ?_
      subst ehp2
      rcases hi with ⟨rfl, e⟩ | ⟨eb, ver', frz', rfl, i1, i2⟩
      · conv => whnf
        refine ldI y5 ?_
        conv => whnf
        refine ldI x5a ?_
        conv => whnf
        refine ⟨rfl, ?_⟩
        refine ⟨_, ea, ?_⟩
        cases oh with
        | none =>
          conv => whnf
          refine stI f5 p5 (by rfl) (by rfl) (by rfl) ?_
          refine cutI (by decide) rfl (t := ⟨[(2, .ptr 0 0 0), (3, .ptr 1 0 0), (4, .ptr 2 0 0), (9, i64 k), (10, i64 j)], _, []⟩) ⟨⟨rfl, rfl, rfl, rfl, rfl⟩, rfl, rfl⟩ ?_
          conv => whnf
          refine zI (z := ((j + 1 : Nat) : Int)) (by rw [wrap_i64 (by omega) (by omega)]; rfl) ?_
          exact nxt _ ⟨rfl, rfl, rfl, rfl, rfl⟩
        | some h9 =>
          conv => whnf
          refine stI f5 p5 (by rfl) (by rfl) (by rfl) ?_
          refine cutI (by decide) rfl (t := ⟨[(2, .ptr 0 0 0), (3, .ptr 1 0 0), (4, .ptr 2 0 0), (9, i64 k), (10, i64 j)], _, []⟩) ⟨⟨rfl, rfl, rfl, rfl, rfl⟩, rfl, rfl⟩ ?_
          conv => whnf
          refine zI (z := ((j + 1 : Nat) : Int)) (by rw [wrap_i64 (by omega) (by omega)]; rfl) ?_
          exact nxt _ ⟨rfl, rfl, rfl, rfl, rfl⟩
      · conv => whnf
        refine ldI y5 ?_
        conv => whnf
        refine ldI x5a ?_
        conv => whnf
        refine ⟨rfl, ?_⟩
        refine ⟨_, ea, ?_⟩
        cases oh with
        | none =>
          conv => whnf
          refine stI f5 p5 (by rfl) (by rfl) (by rfl) ?_
          refine cutI (by decide) rfl (t := ⟨[(2, .ptr 0 0 0), (3, .ptr 1 0 0), (4, .ptr 2 0 0), (9, i64 k), (10, i64 j)], _, []⟩) ⟨⟨rfl, rfl, rfl, rfl, rfl⟩, rfl, rfl⟩ ?_
          conv => whnf
          refine zI (z := ((j + 1 : Nat) : Int)) (by rw [wrap_i64 (by omega) (by omega)]; rfl) ?_
          exact nxt _ ⟨rfl, rfl, rfl, rfl, rfl⟩
        | some h9 =>
          conv => whnf
          refine stI f5 p5 (by rfl) (by rfl) (by rfl) ?_
          refine cutI (by decide) rfl (t := ⟨[(2, .ptr 0 0 0), (3, .ptr 1 0 0), (4, .ptr 2 0 0), (9, i64 k), (10, i64 j)], _, []⟩) ⟨⟨rfl, rfl, rfl, rfl, rfl⟩, rfl, rfl⟩ ?_
          conv => whnf
          refine zI (z := ((j + 1 : Nat) : Int)) (by rw [wrap_i64 (by omega) (by omega)]; rfl) ?_
          exact nxt _ ⟨rfl, rfl, rfl, rfl, rfl⟩
    · refine exitW _ ?_ ⟨rfl, rfl⟩
      rw [hd]
      show (if t.2 = true then ([], t) else _) = _
      rw [if_pos c]
  · conv => whnf
    refine exitW _ ?_ ⟨rfl, rfl⟩
    have : k - j = 0 := by simp only at a; omega
    rw [this]
    rfl
end Go.Proofs
/- What the reference reads of a block, in plain Lean. -/
set_option linter.unusedVariables false
set_option linter.unusedSimpArgs false
namespace Go.Proofs
open Go Go.Abs
def hA (t : RT) := rnum 1 t
def hB (t : RT) := rnum 4 (hA t).2
def hC (t : RT) := rnum 6 (hB t).2
def nA (t : RT) := rnum 1 t
def nB (t : RT) := rnum 1 (nA t).2
def nC (t : RT) := rnum 1 (nB t).2
def nD (t : RT) := rnum 1 (nC t).2
def nE (t : RT) := rnum 2 (nD t).2
def nF (t : RT) := rtake (nD t).1 (nE t).2
def nG (t : RT) := rtake (2 * (nE t).1) (nF t).2
def nR (t : RT) := rents (nF t).1 ((nB t).1 : Nat) (nE t).1 0 (nG t).2
theorem nG_def (t : RT) : nG t = rtake (2 * (nE t).1) (nF t).2 := by unfold nG; rfl
theorem nR_def (t : RT) : nR t = rents (nF t).1 ((nB t).1 : Nat) (nE t).1 0 (nG t).2 := by unfold nR; rfl
def pA (t : RT) := rnum 4 t
def pB (t : RT) := rnum 2 (pA t).2
def pC (t : RT) := rtake (pB t).1 (pB t).2
def lC (t : RT) := rfreeds (pB t).1 (pB t).2
theorem pC_def (t : RT) : pC t = rtake (pB t).1 (pB t).2 := by unfold pC; rfl
theorem lC_def (t : RT) : lC t = rfreeds (pB t).1 (pB t).2 := by unfold lC; rfl
def T0 (s : Str) : RT := ((s.take 508).drop 1, false)
def T3 (s : Str) : RT := (hC (T0 s)).2
theorem T0_len {s : Str} (hl : s.length = 512) : (T0 s).1.length = 507 := by unfold T0; simp; omega
theorem T3_len {s : Str} (hl : s.length = 512) : (T3 s).1.length ≤ 507 := by
  have h1 := rnum_len 1 (T0 s)
  have h2 := rnum_len 4 (hA (T0 s)).2
  have h3 := rnum_len 6 (hB (T0 s)).2
  have := T0_len hl
  exact Nat.le_trans h3 (Nat.le_trans h2 (Nat.le_trans h1 (by omega)))
theorem nE_len (t : RT) : (nE t).2.1.length ≤ t.1.length := Nat.le_trans (rnum_len 2 (nD t).2) (Nat.le_trans (rnum_len 1 (nC t).2) (Nat.le_trans (rnum_len 1 (nB t).2) (Nat.le_trans (rnum_len 1 (nA t).2) (rnum_len 1 t))))
theorem nF_len (t : RT) : (nF t).1.length ≤ t.1.length ∧ (nF t).2.1.length ≤ t.1.length :=
  ⟨Nat.le_trans (rtake_len (nD t).1 (nE t).2).1 (nE_len t), Nat.le_trans (rtake_len (nD t).1 (nE t).2).2.1 (nE_len t)⟩
theorem nG_len (t : RT) : (nG t).2.1.length ≤ t.1.length := by
  have h1 := (rtake_len (2 * (nE t).1) (nF t).2).2.1
  have h2 := (nF_len t).2
  unfold nG
  exact Nat.le_trans h1 h2
theorem pC_len (t : RT) : (pC t).1.length ≤ t.1.length := Nat.le_trans (rtake_len (pB t).1 (pB t).2).1 (Nat.le_trans (rnum_len 2 (pA t).2) (rnum_len 4 t))
theorem nR_len {t : RT} {M : Nat} (h : t.1.length ≤ M) : (nR t).1.length < 65536 ∧ ∀ e ∈ (nR t).1, e.key.length ≤ M + M ∧ e.val.length ≤ M := by
  have l1 := rents_len (pre := (nF t).1) (lv := ((nB t).1 : Nat)) (M := M) (nE t).1 0 (nG t).2 (Nat.le_trans (nG_len t) h)
  have l2 : (nE t).1 < 65536 := rnum_lt 2 (nD t).2
  have l3 := (nF_len t).1
  refine ⟨Nat.lt_of_le_of_lt l1.1 l2, fun e he => ?_⟩
  have := l1.2 e he
  exact ⟨by omega, this.2⟩
theorem lC_len (t : RT) : (lC t).1.length < 65536 ∧ ∀ x ∈ (lC t).1, x.2.length < 65536 := by
  have l1 := rfreeds_len (pB t).1 (pB t).2
  have l2 : (pB t).1 < 65536 := rnum_lt 2 (pA t).2
  exact ⟨Nat.lt_of_le_of_lt l1.1 l2, l1.2⟩
theorem pB_len {t : RT} : (pB t).2.1.length ≤ t.1.length := Nat.le_trans (rnum_len 2 (pA t).2) (rnum_len 4 t)
/-- What a page is that was read. -/
def RdS (s : Str) (q : Page) : Prop := q.Ok ∧ ∀ x, pread s = some x → (x.kind = 1 ∨ x.kind = 2 ∨ x.kind = 3 ∨ x.kind = 4) → BlkIs q x
theorem head_of {s : Str} {x : Blk} (h : pread s = some x) : x.kind = (hA (T0 s)).1 ∧ x.no = (hB (T0 s)).1 ∧ x.ver = (hC (T0 s)).1 ∧ ∃ s3, T3 s = (s3, false) ∧ pbody x.kind s3 = some x.bd := by
  unfold pread at h
  obtain ⟨⟨a, s1⟩, h1, h⟩ := bind_some' h
  obtain ⟨⟨b, s2⟩, h2, h⟩ := bind_some' h
  obtain ⟨⟨c, s3⟩, h3, h⟩ := bind_some' h
  obtain ⟨bd, h4, h⟩ := map_some' h
  simp only at h2 h3 h4
  have e1 : hA (T0 s) = (a, s1, false) := rnum_of h1
  have e2 : hB (T0 s) = (b, s2, false) := by unfold hB; rw [e1]; exact rnum_of h2
  have e3 : hC (T0 s) = (c, s3, false) := by unfold hC; rw [e2]; exact rnum_of h3
  rw [e1, e2, e3, ← h]
  exact ⟨rfl, rfl, rfl, s3, by unfold T3; rw [e3], h4⟩
theorem node_of {s u : Str} {x : NodeP} (h : pnode s = some (x, u)) : x.tree = (nA (s, false)).1 ∧ x.lv = (nB (s, false)).1 ∧ x.top = ((nC (s, false)).1 == 1) ∧ x.es = (nR (s, false)).1 := by
  unfold pnode at h
  obtain ⟨⟨a, s1⟩, h1, h⟩ := bind_some' h
  obtain ⟨⟨b, s2⟩, h2, h⟩ := bind_some' h
  obtain ⟨⟨c, s3⟩, h3, h⟩ := bind_some' h
  obtain ⟨⟨d, s4⟩, h4, h⟩ := bind_some' h
  obtain ⟨⟨e, s5⟩, h5, h⟩ := bind_some' h
  obtain ⟨⟨f, s6⟩, h6, h⟩ := bind_some' h
  obtain ⟨⟨g, s7⟩, h7, h⟩ := bind_some' h
  obtain ⟨⟨r, s8⟩, h8, h⟩ := map_some' h
  simp only at h2 h3 h4 h5 h6 h7 h8
  have e1 : nA (s, false) = (a, s1, false) := rnum_of h1
  have e2 : nB (s, false) = (b, s2, false) := by unfold nB; rw [e1]; exact rnum_of h2
  have e3 : nC (s, false) = (c, s3, false) := by unfold nC; rw [e2]; exact rnum_of h3
  have e4 : nD (s, false) = (d, s4, false) := by unfold nD; rw [e3]; exact rnum_of h4
  have e5 : nE (s, false) = (e, s5, false) := by unfold nE; rw [e4]; exact rnum_of h5
  have e6 : nF (s, false) = (f, s6, false) := by unfold nF; rw [e4, e5]; exact rtake_of h6
  have e7 : nG (s, false) = (g, s7, false) := by unfold nG; rw [e5, e6]; exact rtake_of h7
  have e8 : nR (s, false) = (r, s8, false) := by unfold nR; rw [e2, e5, e6, e7]; exact rents_of (by simp only; omega) h8
  cases h
  rw [e1, e2, e3, e8]
  exact ⟨rfl, rfl, rfl, rfl⟩
theorem piece_of {s u : Str} {x : Nat × Str} (h : ppiece s = some (x, u)) : x.1 = (pA (s, false)).1 ∧ x.2 = (pC (s, false)).1 := by
  unfold ppiece at h
  obtain ⟨⟨a, s1⟩, h1, h⟩ := bind_some' h
  obtain ⟨⟨b, s2⟩, h2, h⟩ := bind_some' h
  obtain ⟨⟨c, s3⟩, h3, h⟩ := map_some' h
  simp only at h2 h3
  have e1 : pA (s, false) = (a, s1, false) := rnum_of h1
  have e2 : pB (s, false) = (b, s2, false) := by unfold pB; rw [e1]; exact rnum_of h2
  have e3 : pC (s, false) = (c, s3, false) := by unfold pC; rw [e2]; exact rtake_of h3
  cases h
  rw [e1, e3]
  exact ⟨rfl, rfl⟩
theorem list_of' {s u : Str} {x : Nat × List (Nat × List Nat)} (h : plist s = some (x, u)) : x.1 = (pA (s, false)).1 ∧ x.2 = (lC (s, false)).1 := by
  unfold plist at h
  obtain ⟨⟨a, s1⟩, h1, h⟩ := bind_some' h
  obtain ⟨⟨b, s2⟩, h2, h⟩ := bind_some' h
  obtain ⟨⟨c, s3⟩, h3, h⟩ := map_some' h
  simp only at h2 h3
  have e1 : pA (s, false) = (a, s1, false) := rnum_of h1
  have e2 : pB (s, false) = (b, s2, false) := by unfold pB; rw [e1]; exact rnum_of h2
  have e3 : lC (s, false) = (c, s3, false) := by unfold lC; rw [e2]; exact rfreeds_of h3
  cases h
  rw [e1, e3]
  exact ⟨rfl, rfl⟩
theorem bd_node {s s3 : Str} {x : Blk} (hx : pread s = some x) (hk : x.kind = 1 ∨ x.kind = 2) (e3 : T3 s = (s3, false)) (hb : pbody x.kind s3 = some x.bd) : ∃ y, x.bd = .nd y ∧ y.tree = (nA (T3 s)).1 ∧ y.lv = (nB (T3 s)).1 ∧ y.top = ((nC (T3 s)).1 == 1) ∧ y.es = (nR (T3 s)).1 := by
  unfold pbody at hb
  rw [if_pos hk] at hb
  obtain ⟨⟨y, u⟩, hn, hb⟩ := map_some' hb
  rw [e3]
  exact ⟨y, hb.symm, node_of hn⟩
theorem bd_piece {s s3 : Str} {x : Blk} (hx : pread s = some x) (hk : x.kind = 3) (e3 : T3 s = (s3, false)) (hb : pbody x.kind s3 = some x.bd) : ∃ y, x.bd = .pc y ∧ y.1 = (pA (T3 s)).1 ∧ y.2 = (pC (T3 s)).1 := by
  unfold pbody at hb
  rw [if_neg (by omega), if_pos hk] at hb
  obtain ⟨⟨y, u⟩, hn, hb⟩ := map_some' hb
  rw [e3]
  exact ⟨y, hb.symm, piece_of hn⟩
theorem bd_list {s s3 : Str} {x : Blk} (hx : pread s = some x) (hk : x.kind = 4) (e3 : T3 s = (s3, false)) (hb : pbody x.kind s3 = some x.bd) : ∃ y, x.bd = .ls y ∧ y.1 = (pA (T3 s)).1 ∧ y.2 = (lC (T3 s)).1 := by
  unfold pbody at hb
  rw [if_neg (by omega), if_neg (by omega)] at hb
  obtain ⟨⟨y, u⟩, hn, hb⟩ := map_some' hb
  rw [e3]
  exact ⟨y, hb.symm, list_of' hn⟩
theorem rd_node {s : Str} (hl : s.length = 512) {q : Page} (hk : (hA (T0 s)).1 = 1 ∨ (hA (T0 s)).1 = 2) (q1 : q.kind = (hA (T0 s)).1) (q2 : q.no = (hB (T0 s)).1) (q3 : q.ver = (hC (T0 s)).1) (q4 : q.tree = (nA (T3 s)).1) (q5 : q.level = (nB (T3 s)).1) (q6 : q.top = ((nC (T3 s)).1 == 1)) (q7 : q.entries = (nR (T3 s)).1) (q8 : q.next = 0) (q9 : q.data = []) (q10 : q.freed = []) (hsz : q.entries ≠ [] → q.esh.sz = 22) : RdS s q := by
  have lR := nR_len (T3_len hl)
  rw [← q7] at lR
  refine ⟨⟨hsz, fun h => (h q10).elim, by omega, by rw [q10]; decide, by rw [q9]; decide, fun e he => ?_, fun f hf => ?_⟩, fun x hx _ => ?_⟩
  · have := lR.2 e he
    exact ⟨by omega, by omega⟩
  · rw [q10] at hf; cases hf
  · obtain ⟨a1, a2, a3, s3, e3, hb⟩ := head_of hx
    obtain ⟨y, b0, b1, b2, b3, b4⟩ := bd_node hx (by rw [a1]; exact hk) e3 hb
    refine ⟨by rw [q1, a1], by rw [q2, a2], by rw [q3, a3], ?_, hsz, fun h => (h q10).elim⟩
    rw [b0]
    exact ⟨by rw [q4, b1], by rw [q5, b2], by rw [q6, b3], by rw [q7, b4], q8, q9, q10⟩
theorem rd_piece {s : Str} (hl : s.length = 512) {q : Page} (hk : (hA (T0 s)).1 = 3) (q1 : q.kind = (hA (T0 s)).1) (q2 : q.no = (hB (T0 s)).1) (q3 : q.ver = (hC (T0 s)).1) (q4 : q.tree = 0) (q5 : q.level = 0) (q6 : q.top = false) (q7 : q.entries = []) (q8 : q.next = (pA (T3 s)).1) (q9 : q.data = (pC (T3 s)).1) (q10 : q.freed = []) : RdS s q := by
  have l1 := pC_len (T3 s)
  have l2 := T3_len hl
  rw [← q9] at l1
  refine ⟨⟨fun h => (h q7).elim, fun h => (h q10).elim, by rw [q7]; decide, by rw [q10]; decide, by omega, fun e he => ?_, fun f hf => ?_⟩, fun x hx _ => ?_⟩
  · rw [q7] at he; cases he
  · rw [q10] at hf; cases hf
  · obtain ⟨a1, a2, a3, s3, e3, hb⟩ := head_of hx
    obtain ⟨y, b0, b1, b2⟩ := bd_piece hx (by rw [a1]; exact hk) e3 hb
    refine ⟨by rw [q1, a1], by rw [q2, a2], by rw [q3, a3], ?_, fun h => (h q7).elim, fun h => (h q10).elim⟩
    rw [b0]
    exact ⟨q4, q5, q6, q7, by rw [q8, b1], by rw [q9, b2], q10⟩
theorem rd_list {s : Str} (hl : s.length = 512) {q : Page} (hk : (hA (T0 s)).1 = 4) (q1 : q.kind = (hA (T0 s)).1) (q2 : q.no = (hB (T0 s)).1) (q3 : q.ver = (hC (T0 s)).1) (q4 : q.tree = 0) (q5 : q.level = 0) (q6 : q.top = false) (q7 : q.entries = []) (q8 : q.next = (pA (T3 s)).1) (q9 : q.data = []) (hsz : q.freed ≠ [] → q.fsh.sz = 2) (hf : FsAre q.freed (lC (T3 s)).1) : RdS s q := by
  have lF := lC_len (T3 s)
  have le := hf.length_eq
  refine ⟨⟨fun h => (h q7).elim, hsz, by rw [q7]; decide, by omega, by rw [q9]; decide, fun e he => ?_, hf.ok lF.2⟩, fun x hx _ => ?_⟩
  · rw [q7] at he; cases he
  · obtain ⟨a1, a2, a3, s3, e3, hb⟩ := head_of hx
    obtain ⟨y, b0, b1, b2⟩ := bd_list hx (by rw [a1]; exact hk) e3 hb
    refine ⟨by rw [q1, a1], by rw [q2, a2], by rw [q3, a3], ?_, fun h => (h q7).elim, hsz⟩
    rw [b0]
    exact ⟨q4, q5, q6, q7, by rw [q8, b1], q9, by rw [b2]; exact hf⟩
theorem rd_other {s : Str} {q : Page} (hk : ¬((hA (T0 s)).1 = 1 ∨ (hA (T0 s)).1 = 2)) (h3 : (hA (T0 s)).1 ≠ 3) (h4 : (hA (T0 s)).1 ≠ 4) (q7 : q.entries = []) (q9 : q.data = []) (q10 : q.freed = []) : RdS s q := by
  refine ⟨⟨fun h => (h q7).elim, fun h => (h q10).elim, by rw [q7]; decide, by rw [q10]; decide, by rw [q9]; decide, fun e he => ?_, fun f hf => ?_⟩, fun x hx hk' => ?_⟩
  · rw [q7] at he; cases he
  · rw [q10] at hf; cases hf
  · have := (head_of hx).1
    omega
end Go.Proofs
/- Contracts: the reference's read. -/
set_option linter.unusedVariables false
set_option linter.unusedSimpArgs false
namespace Go.Proofs
open Go Go.Abs
theorem allM_page3 {h : AHeap} {a b c d e g : Int} {f : Bool} {t : Str} {L M L' M' : AV} (h1 : Abs.frz h 63 L = some M) (h2 : Abs.frz h 63 L' = some M') :
    allM (Abs.frz h 63) [i64 a, i64 b, i64 c, i64 d, i64 e, .bool f, L, i64 g, .str t, L'] = some [i64 a, i64 b, i64 c, i64 d, i64 e, .bool f, M, i64 g, .str t, M'] := by
  have fi : ∀ k : Int, Abs.frz h 63 (i64 k) = some (i64 k) := fun _ => rfl
  have fb : Abs.frz h 63 (.bool f) = some (.bool f) := rfl
  have fs : Abs.frz h 63 (.str t) = some (.str t) := rfl
  simp only [allM, fi, fb, fs, h1, h2]
theorem frz_nil3 {h : AHeap} : Abs.frz h 63 (.lst 0 [] true) = some (.lst 0 [] true) := rfl
abbrev RdQ (m : Nat) (s : Str) : Ex → LS → Prop := EndQ Tryz.prog (C m) cfg0.inl [.cell 2 tPg] (fun r h => ∃ r', OutR r' r h ∧ ∃ q : Page, r' = .ret q.av ∧ RdS s q)
theorem rd_end {m : Nat} {s : Str} {L : LT} {h : AHeap} {cs : List AV} {q : Page} (h2 : lk L 2 = some (.ptr 0 0 0)) (hP : h[0]? = some (.cells 0 (some tPg) cs 0)) (hc : cs.length = 10) (hf : allM (Abs.frz h 63) cs = some q.cells) (hS : RdS s q) : RdQ m s .ret ⟨L, h, []⟩ := by
  refine ⟨[.agg cs], cell_res h2 (N := 10) (by kernel_rfl) hc hP, .ret q.av, ⟨q.av, ?_, rfl⟩, q, rfl, hS⟩
  show Abs.frz h 64 (.agg cs) = some q.av
  unfold Abs.frz
  simp only [hf]
  rfl
def pcCells (k no v next : Nat) (d : Str) : List AV := [i64 k, i64 no, i64 v, i64 0, i64 0, .bool false, .lst 0 [] true, i64 next, .str d, .lst 0 [] true]
section
variable {m : Nat} {s : Str} {h : AHeap} {L : AV} {G I : List Nat} {k no v tr lv next : Nat} {top : Bool} {es : List Entry} {d : Str} {t : RT} {Lt : LT}
theorem fin_node (st : PSt h (ndCells k no v tr lv top L) t) (g : GBuf tEn 22 h 2 L (es.map Entry.cells) G) (hG : ∀ z ∈ G, z = 2 ∨ 3 ≤ z) (hS : ∀ sh : Sh, (es ≠ [] → sh.sz = 22) → RdS s ⟨k, no, v, tr, lv, top, sh, es, 0, [], ⟨0, true⟩, []⟩) (h2 : lk Lt 2 = some (.ptr 0 0 0)) :
    RdQ m s .ret ⟨Lt, h.set 0 (.cells 0 (some tPg) (ndCells k no v tr lv top L) 0), []⟩ := by
  obtain ⟨sh, f1, f2⟩ := frz_ents (h := h.set 0 (.cells 0 (some tPg) (ndCells k no v tr lv top L) 0)) (g.stays fun y hy hn => by
    have := hG y hy
    rw [List.getElem?_set_ne (by omega)]) 61
  exact rd_end (cs := ndCells k no v tr lv top L) (q := ⟨k, no, v, tr, lv, top, sh, es, 0, [], ⟨0, true⟩, []⟩) h2 (by rw [List.getElem?_set_self (lt_of_get st.a)]) rfl (allM_page3 f1 frz_nil3) (hS sh f2)
theorem fin_piece (st : PSt h (pcCells k no v next d) t) (hS : RdS s ⟨k, no, v, 0, 0, false, ⟨0, true⟩, [], next, d, ⟨0, true⟩, []⟩) (h2 : lk Lt 2 = some (.ptr 0 0 0)) :
    RdQ m s .ret ⟨Lt, h.set 0 (.cells 0 (some tPg) (pcCells k no v next d) 0), []⟩ :=
  rd_end (cs := pcCells k no v next d) (q := ⟨k, no, v, 0, 0, false, ⟨0, true⟩, [], next, d, ⟨0, true⟩, []⟩) h2 (by rw [List.getElem?_set_self (lt_of_get st.a)]) rfl (allM_page3 frz_nil3 frz_nil3) hS
theorem fin_list {ts : List FT} (st : PSt h (lsCells k no v next L) t) (lv : LV h 2 L ts G I) (hG : ∀ z ∈ G, z = 2 ∨ 3 ≤ z) (hI : ∀ z ∈ I, 3 ≤ z ∧ z < h.length) (hS : ∀ (sh : Sh) (fs : List Freed), (fs ≠ [] → sh.sz = 2) → FsAre fs (ts.map ofF) → RdS s ⟨k, no, v, 0, 0, false, ⟨0, true⟩, [], next, [], sh, fs⟩) (h2 : lk Lt 2 = some (.ptr 0 0 0)) :
    RdQ m s .ret ⟨Lt, h.set 0 (.cells 0 (some tPg) (lsCells k no v next L) 0), []⟩ := by
  obtain ⟨sh, fs, f1, f2, f3⟩ := frz_list (h := h.set 0 (.cells 0 (some tPg) (lsCells k no v next L) 0)) (lv.stays (fun y hy hn => by
    have := hG y hy
    rw [List.getElem?_set_ne (by omega)]) (fun y hy => by
    have := hI y hy
    rw [List.getElem?_set_ne (by omega)])) 60
  exact rd_end (cs := lsCells k no v next L) (q := ⟨k, no, v, 0, 0, false, ⟨0, true⟩, [], next, [], sh, fs⟩) h2 (by rw [List.getElem?_set_self (lt_of_get st.a)]) rfl (allM_page3 frz_nil3 f1) (hS sh fs f2 f3)
theorem rd_node' {sh : Sh} (hl : s.length = 512) (hk : k = 1 ∨ k = 2) (h1 : k = (hA (T0 s)).1) (h2 : no = (hB (T0 s)).1) (h3 : v = (hC (T0 s)).1) (h4 : tr = (nA (T3 s)).1) (h5 : lv = (nB (T3 s)).1) (h6 : top = ((nC (T3 s)).1 == 1)) (h7 : es = (nR (T3 s)).1) (hsz : es ≠ [] → sh.sz = 22) : RdS s ⟨k, no, v, tr, lv, top, sh, es, 0, [], ⟨0, true⟩, []⟩ :=
  rd_node hl (by rw [← h1]; exact hk) (by rw [← h1]) (by rw [← h2]) (by rw [← h3]) (by rw [← h4]) (by rw [← h5]) (by rw [← h6]) (by rw [← h7]) rfl rfl rfl hsz
theorem rd_piece' (hl : s.length = 512) (hk : k = 3) (h1 : k = (hA (T0 s)).1) (h2 : no = (hB (T0 s)).1) (h3 : v = (hC (T0 s)).1) (h4 : next = (pA (T3 s)).1) (h5 : d = (pC (T3 s)).1) : RdS s ⟨k, no, v, 0, 0, false, ⟨0, true⟩, [], next, d, ⟨0, true⟩, []⟩ :=
  rd_piece hl (by rw [← h1]; exact hk) (by rw [← h1]) (by rw [← h2]) (by rw [← h3]) rfl rfl rfl rfl (by rw [← h4]) (by rw [← h5]) rfl
theorem rd_list' {sh : Sh} {fs : List Freed} {w : List (Nat × List Nat)} (hl : s.length = 512) (hk : k = 4) (h1 : k = (hA (T0 s)).1) (h2 : no = (hB (T0 s)).1) (h3 : v = (hC (T0 s)).1) (h4 : next = (pA (T3 s)).1) (hsz : fs ≠ [] → sh.sz = 2) (hw : (lC (T3 s)).1 = w) (hf : FsAre fs w) : RdS s ⟨k, no, v, 0, 0, false, ⟨0, true⟩, [], next, [], sh, fs⟩ :=
  rd_list hl (by rw [← h1]; exact hk) (by rw [← h1]) (by rw [← h2]) (by rw [← h3]) rfl rfl rfl rfl (by rw [← h4]) rfl hsz (by rw [hw]; exact hf)
theorem rd_other' (hk : ¬(k = 1 ∨ k = 2)) (hk3 : k ≠ 3) (hk4 : k ≠ 4) (h1 : k = (hA (T0 s)).1) : RdS s ⟨k, no, v, 0, 0, false, ⟨0, true⟩, [], (0 : Nat), [], ⟨0, true⟩, []⟩ :=
  rd_other (by rw [← h1]; exact hk) (by rw [← h1]; exact hk3) (by rw [← h1]; exact hk4) rfl rfl rfl
end
section
variable {m : Nat} {s : Str}
set_option maxRecDepth 10000 in
theorem refRead_1 (hn : 3 ≤ m) (hl : s.length = 512) (hk1 : (hA (T0 s)).1 = 1) : ∃ r, (∀ h, C (m + 1) 69 [.str s] h = some (r, h)) ∧ ∃ q : Page, r = .ret q.av ∧ RdS s q := by
  have hk : (hA (T0 s)).1 = 1 ∨ (hA (T0 s)).1 = 2 := .inl hk1
  have l0 := T0_len hl
  have e1 : C m 120 [.ptr 1 0 0, i64 (1 : Nat)] [.cells 0 (some tPg) zeroP 0, rcell (T0 s)] = some (.ret (i64 (hA (T0 s)).1), [.cells 0 (some tPg) zeroP 0, rcell (hA (T0 s)).2]) := rnum_set (n := m) (t := T0 s) (by omega) (show RRd [.cells 0 (some tPg) zeroP 0, rcell (T0 s)] 1 (T0 s) from rfl) (by omega) 1 (by omega)
  have l1 : (hA (T0 s)).2.1.length ≤ (T0 s).1.length := rnum_len 1 _
  have e2 : C m 120 [.ptr 1 0 0, i64 (4 : Nat)] [.cells 0 (some tPg) zeroP 0, rcell (hA (T0 s)).2] = some (.ret (i64 (hB (T0 s)).1), [.cells 0 (some tPg) zeroP 0, rcell (hB (T0 s)).2]) := rnum_set (n := m) (t := (hA (T0 s)).2) (by omega) (show RRd [.cells 0 (some tPg) zeroP 0, rcell (hA (T0 s)).2] 1 (hA (T0 s)).2 from rfl) (by omega) 4 (by omega)
  have l2 : (hB (T0 s)).2.1.length ≤ (hA (T0 s)).2.1.length := rnum_len 4 _
  have e3 : C m 120 [.ptr 1 0 0, i64 (6 : Nat)] [.cells 0 (some tPg) zeroP 0, rcell (hB (T0 s)).2] = some (.ret (i64 (hC (T0 s)).1), [.cells 0 (some tPg) zeroP 0, rcell (T3 s)]) := rnum_set (n := m) (t := (hB (T0 s)).2) (by omega) (show RRd [.cells 0 (some tPg) zeroP 0, rcell (hB (T0 s)).2] 1 (hB (T0 s)).2 from rfl) (by omega) 6 (by omega)
  have l3 := T3_len hl
  refine fun_pureX F69 rfl rfl rfl rfl ?_
  conv => whnf
  refine ss_lh (s := s) (c := 1) (d := 508) (by omega) (by omega) ?_
  conv => whnf
  refine clI e1 ?_
  conv => whnf
  refine clI e2 ?_
  conv => whnf
  refine clI e3 ?_
  conv => whnf
  refine stI (xs := pgCells (hA (T0 s)).1 (hB (T0 s)).1 (hC (T0 s)).1) (by rfl) (by rfl) (by rfl) (by rfl) (by rfl) ?_
  conv => whnf
  refine ldI (by rfl) ?_
  conv => whnf
  have s3 : PSt [.cells 0 (some tPg) zeroP 0, rcell (T3 s), .cells 0 (some tPg) (pgCells (hA (T0 s)).1 (hB (T0 s)).1 (hC (T0 s)).1) 0] (pgCells (hA (T0 s)).1 (hB (T0 s)).1 (hC (T0 s)).1) (T3 s) := ⟨rfl, rfl, rfl⟩
  refine bre (fun _ => ?_) (fun q => absurd (by rw [hk1]; rfl) q)
  obtain ⟨h4, e4, r4, k4⟩ := rnum_eq (n := m) (by omega) s3.r (by omega) 1 (by omega)
  have z4 := s3.next k4 r4
  have s4 := z4.set (cs' := ndCells (hA (T0 s)).1 (hB (T0 s)).1 (hC (T0 s)).1 (nA (T3 s)).1 0 false (.lst 0 [] true))
  have n4 : (nA (T3 s)).2.1.length ≤ 507 := Nat.le_trans (rnum_len 1 (T3 s)) l3
  obtain ⟨h5, e5, r5, k5⟩ := rnum_eq (n := m) (t := (nA (T3 s)).2) (by omega) s4.r (by omega) 1 (by omega)
  have z5 := s4.next k5 r5
  have s5 := z5.set (cs' := ndCells (hA (T0 s)).1 (hB (T0 s)).1 (hC (T0 s)).1 (nA (T3 s)).1 (nB (T3 s)).1 false (.lst 0 [] true))
  have n5 : (nB (T3 s)).2.1.length ≤ 507 := Nat.le_trans (rnum_len 1 (nA (T3 s)).2) n4
  obtain ⟨h6, e6, r6, k6⟩ := rnum_eq (n := m) (t := (nB (T3 s)).2) (by omega) s5.r (by omega) 1 (by omega)
  have z6 := s5.next k6 r6
  have s6 := z6.set (cs' := ndCells (hA (T0 s)).1 (hB (T0 s)).1 (hC (T0 s)).1 (nA (T3 s)).1 (nB (T3 s)).1 ((nC (T3 s)).1 == 1) (.lst 0 [] true))
  have n6 : (nC (T3 s)).2.1.length ≤ 507 := Nat.le_trans (rnum_len 1 (nB (T3 s)).2) n5
  obtain ⟨h7, e7, r7, k7⟩ := rnum_eq (n := m) (t := (nC (T3 s)).2) (by omega) s6.r (by omega) 1 (by omega)
  have s7 := s6.next k7 r7
  have n7 : (nD (T3 s)).2.1.length ≤ 507 := Nat.le_trans (rnum_len 1 (nC (T3 s)).2) n6
  obtain ⟨h8, e8, r8, k8⟩ := rnum_eq (n := m) (t := (nD (T3 s)).2) (by omega) s7.r (by omega) 2 (by omega)
  have s8 := s7.next k8 r8
  have n8 : (nE (T3 s)).2.1.length ≤ 507 := Nat.le_trans (rnum_len 2 (nD (T3 s)).2) n7
  have bD : (nD (T3 s)).1 < 256 := rnum_lt 1 (nC (T3 s)).2
  have bE : (nE (T3 s)).1 < 65536 := rnum_lt 2 (nD (T3 s)).2
  obtain ⟨h9, e9, r9, k9⟩ := rtake_eq (n := m) (t := (nE (T3 s)).2) (by omega) s8.r (by omega) (nD (T3 s)).1 (by omega)
  have s9 := s8.next k9 r9
  have n9 := nF_len (T3 s)
  obtain ⟨hx, ex, rx, kx⟩ := rtake_eq (n := m) (t := (nF (T3 s)).2) (by omega) s9.r (by omega) (2 * (nE (T3 s)).1) (by omega)
  rw [← nG_def] at ex rx
  have sx := s9.next kx rx
  have nx := nG_len (T3 s)
  conv => whnf
  refine clI e4 ?_
  conv => whnf
  refine stI z4.p (by rfl) (by rfl) (by rfl) (by rfl) ?_
  conv => whnf
  refine clI e5 ?_
  conv => whnf
  refine stI z5.p (by rfl) (by rfl) (by rfl) (by rfl) ?_
  conv => whnf
  refine clI e6 ?_
  conv => whnf
  refine stI z6.p (xs := [.bool ((nC (T3 s)).1 == 1)]) (by rw [← beq_one]; rfl) (by rfl) (by rfl) (by rfl) ?_
  conv => whnf
  refine clI e7 ?_
  conv => whnf
  refine clI e8 ?_
  conv => whnf
  refine clI e9 ?_
  conv => whnf
  refine zI (z := ((2 * (nE (T3 s)).1 : Nat) : Int)) (by show IntKind.i64.wrap (2 * ((nE (T3 s)).1 : Int)) = _; rw [wrap_i64 (by omega) (by omega)]; omega) ?_
  conv => whnf
  refine clI ex ?_
  conv => whnf
  refine rents_loop (by omega) sx (by omega) (nE (T3 s)).1 bE (nF (T3 s)).1 (by omega) ⟨⟨rfl, rfl, rfl, rfl, rfl, rfl⟩, rfl, rfl⟩ (fun h L G st g hG Lt hL => ?_)
  rw [← nR_def] at st g
  have one := g.one
  conv => whnf
  refine cutI (by decide) rfl (t := ⟨[(2, .ptr 0 0 0), (4, .ptr 2 0 0)], h, []⟩) ⟨hL, rfl, rfl⟩ ?_
  conv => whnf
  refine ldI (st).p ?_
  conv => whnf
  refine stI (st).a (xs := (ndCells (hA (T0 s)).1 (hB (T0 s)).1 (hC (T0 s)).1 (nA (T3 s)).1 (nB (T3 s)).1 ((nC (T3 s)).1 == 1) L)) (pg_cells one.2 rfl) (by rfl) (by rfl) (by rfl) ?_
  exact fin_node st g hG (fun sh hz => rd_node' hl hk rfl rfl rfl rfl rfl rfl rfl hz) rfl
set_option maxRecDepth 10000 in
theorem refRead_2 (hn : 3 ≤ m) (hl : s.length = 512) (hk2 : (hA (T0 s)).1 = 2) : ∃ r, (∀ h, C (m + 1) 69 [.str s] h = some (r, h)) ∧ ∃ q : Page, r = .ret q.av ∧ RdS s q := by
  have hk : (hA (T0 s)).1 = 1 ∨ (hA (T0 s)).1 = 2 := .inr hk2
  have l0 := T0_len hl
  have e1 : C m 120 [.ptr 1 0 0, i64 (1 : Nat)] [.cells 0 (some tPg) zeroP 0, rcell (T0 s)] = some (.ret (i64 (hA (T0 s)).1), [.cells 0 (some tPg) zeroP 0, rcell (hA (T0 s)).2]) := rnum_set (n := m) (t := T0 s) (by omega) (show RRd [.cells 0 (some tPg) zeroP 0, rcell (T0 s)] 1 (T0 s) from rfl) (by omega) 1 (by omega)
  have l1 : (hA (T0 s)).2.1.length ≤ (T0 s).1.length := rnum_len 1 _
  have e2 : C m 120 [.ptr 1 0 0, i64 (4 : Nat)] [.cells 0 (some tPg) zeroP 0, rcell (hA (T0 s)).2] = some (.ret (i64 (hB (T0 s)).1), [.cells 0 (some tPg) zeroP 0, rcell (hB (T0 s)).2]) := rnum_set (n := m) (t := (hA (T0 s)).2) (by omega) (show RRd [.cells 0 (some tPg) zeroP 0, rcell (hA (T0 s)).2] 1 (hA (T0 s)).2 from rfl) (by omega) 4 (by omega)
  have l2 : (hB (T0 s)).2.1.length ≤ (hA (T0 s)).2.1.length := rnum_len 4 _
  have e3 : C m 120 [.ptr 1 0 0, i64 (6 : Nat)] [.cells 0 (some tPg) zeroP 0, rcell (hB (T0 s)).2] = some (.ret (i64 (hC (T0 s)).1), [.cells 0 (some tPg) zeroP 0, rcell (T3 s)]) := rnum_set (n := m) (t := (hB (T0 s)).2) (by omega) (show RRd [.cells 0 (some tPg) zeroP 0, rcell (hB (T0 s)).2] 1 (hB (T0 s)).2 from rfl) (by omega) 6 (by omega)
  have l3 := T3_len hl
  refine fun_pureX F69 rfl rfl rfl rfl ?_
  conv => whnf
  refine ss_lh (s := s) (c := 1) (d := 508) (by omega) (by omega) ?_
  conv => whnf
  refine clI e1 ?_
  conv => whnf
  refine clI e2 ?_
  conv => whnf
  refine clI e3 ?_
  conv => whnf
  refine stI (xs := pgCells (hA (T0 s)).1 (hB (T0 s)).1 (hC (T0 s)).1) (by rfl) (by rfl) (by rfl) (by rfl) (by rfl) ?_
  conv => whnf
  refine ldI (by rfl) ?_
  conv => whnf
  have s3 : PSt [.cells 0 (some tPg) zeroP 0, rcell (T3 s), .cells 0 (some tPg) (pgCells (hA (T0 s)).1 (hB (T0 s)).1 (hC (T0 s)).1) 0] (pgCells (hA (T0 s)).1 (hB (T0 s)).1 (hC (T0 s)).1) (T3 s) := ⟨rfl, rfl, rfl⟩
  refine bre (fun q => absurd q (by omega)) (fun _ => ?_)
  conv => whnf
  refine bre (fun _ => ?_) (fun q => absurd (by rw [hk2]; rfl) q)
  obtain ⟨h4, e4, r4, k4⟩ := rnum_eq (n := m) (by omega) s3.r (by omega) 1 (by omega)
  have z4 := s3.next k4 r4
  have s4 := z4.set (cs' := ndCells (hA (T0 s)).1 (hB (T0 s)).1 (hC (T0 s)).1 (nA (T3 s)).1 0 false (.lst 0 [] true))
  have n4 : (nA (T3 s)).2.1.length ≤ 507 := Nat.le_trans (rnum_len 1 (T3 s)) l3
  obtain ⟨h5, e5, r5, k5⟩ := rnum_eq (n := m) (t := (nA (T3 s)).2) (by omega) s4.r (by omega) 1 (by omega)
  have z5 := s4.next k5 r5
  have s5 := z5.set (cs' := ndCells (hA (T0 s)).1 (hB (T0 s)).1 (hC (T0 s)).1 (nA (T3 s)).1 (nB (T3 s)).1 false (.lst 0 [] true))
  have n5 : (nB (T3 s)).2.1.length ≤ 507 := Nat.le_trans (rnum_len 1 (nA (T3 s)).2) n4
  obtain ⟨h6, e6, r6, k6⟩ := rnum_eq (n := m) (t := (nB (T3 s)).2) (by omega) s5.r (by omega) 1 (by omega)
  have z6 := s5.next k6 r6
  have s6 := z6.set (cs' := ndCells (hA (T0 s)).1 (hB (T0 s)).1 (hC (T0 s)).1 (nA (T3 s)).1 (nB (T3 s)).1 ((nC (T3 s)).1 == 1) (.lst 0 [] true))
  have n6 : (nC (T3 s)).2.1.length ≤ 507 := Nat.le_trans (rnum_len 1 (nB (T3 s)).2) n5
  obtain ⟨h7, e7, r7, k7⟩ := rnum_eq (n := m) (t := (nC (T3 s)).2) (by omega) s6.r (by omega) 1 (by omega)
  have s7 := s6.next k7 r7
  have n7 : (nD (T3 s)).2.1.length ≤ 507 := Nat.le_trans (rnum_len 1 (nC (T3 s)).2) n6
  obtain ⟨h8, e8, r8, k8⟩ := rnum_eq (n := m) (t := (nD (T3 s)).2) (by omega) s7.r (by omega) 2 (by omega)
  have s8 := s7.next k8 r8
  have n8 : (nE (T3 s)).2.1.length ≤ 507 := Nat.le_trans (rnum_len 2 (nD (T3 s)).2) n7
  have bD : (nD (T3 s)).1 < 256 := rnum_lt 1 (nC (T3 s)).2
  have bE : (nE (T3 s)).1 < 65536 := rnum_lt 2 (nD (T3 s)).2
  obtain ⟨h9, e9, r9, k9⟩ := rtake_eq (n := m) (t := (nE (T3 s)).2) (by omega) s8.r (by omega) (nD (T3 s)).1 (by omega)
  have s9 := s8.next k9 r9
  have n9 := nF_len (T3 s)
  obtain ⟨hx, ex, rx, kx⟩ := rtake_eq (n := m) (t := (nF (T3 s)).2) (by omega) s9.r (by omega) (2 * (nE (T3 s)).1) (by omega)
  rw [← nG_def] at ex rx
  have sx := s9.next kx rx
  have nx := nG_len (T3 s)
  conv => whnf
  refine clI e4 ?_
  conv => whnf
  refine stI z4.p (by rfl) (by rfl) (by rfl) (by rfl) ?_
  conv => whnf
  refine clI e5 ?_
  conv => whnf
  refine stI z5.p (by rfl) (by rfl) (by rfl) (by rfl) ?_
  conv => whnf
  refine clI e6 ?_
  conv => whnf
  refine stI z6.p (xs := [.bool ((nC (T3 s)).1 == 1)]) (by rw [← beq_one]; rfl) (by rfl) (by rfl) (by rfl) ?_
  conv => whnf
  refine clI e7 ?_
  conv => whnf
  refine clI e8 ?_
  conv => whnf
  refine clI e9 ?_
  conv => whnf
  refine zI (z := ((2 * (nE (T3 s)).1 : Nat) : Int)) (by show IntKind.i64.wrap (2 * ((nE (T3 s)).1 : Int)) = _; rw [wrap_i64 (by omega) (by omega)]; omega) ?_
  conv => whnf
  refine clI ex ?_
  conv => whnf
  refine rents_loop (by omega) sx (by omega) (nE (T3 s)).1 bE (nF (T3 s)).1 (by omega) ⟨⟨rfl, rfl, rfl, rfl, rfl, rfl⟩, rfl, rfl⟩ (fun h L G st g hG Lt hL => ?_)
  rw [← nR_def] at st g
  have one := g.one
  conv => whnf
  refine cutI (by decide) rfl (t := ⟨[(2, .ptr 0 0 0), (4, .ptr 2 0 0)], h, []⟩) ⟨hL, rfl, rfl⟩ ?_
  conv => whnf
  refine ldI (st).p ?_
  conv => whnf
  refine stI (st).a (xs := (ndCells (hA (T0 s)).1 (hB (T0 s)).1 (hC (T0 s)).1 (nA (T3 s)).1 (nB (T3 s)).1 ((nC (T3 s)).1 == 1) L)) (pg_cells one.2 rfl) (by rfl) (by rfl) (by rfl) ?_
  exact fin_node st g hG (fun sh hz => rd_node' hl hk rfl rfl rfl rfl rfl rfl rfl hz) rfl
set_option maxRecDepth 10000 in
theorem refRead_3 (hn : 3 ≤ m) (hl : s.length = 512) (hk : (hA (T0 s)).1 = 3) : ∃ r, (∀ h, C (m + 1) 69 [.str s] h = some (r, h)) ∧ ∃ q : Page, r = .ret q.av ∧ RdS s q := by
  have l0 := T0_len hl
  have e1 : C m 120 [.ptr 1 0 0, i64 (1 : Nat)] [.cells 0 (some tPg) zeroP 0, rcell (T0 s)] = some (.ret (i64 (hA (T0 s)).1), [.cells 0 (some tPg) zeroP 0, rcell (hA (T0 s)).2]) := rnum_set (n := m) (t := T0 s) (by omega) (show RRd [.cells 0 (some tPg) zeroP 0, rcell (T0 s)] 1 (T0 s) from rfl) (by omega) 1 (by omega)
  have l1 : (hA (T0 s)).2.1.length ≤ (T0 s).1.length := rnum_len 1 _
  have e2 : C m 120 [.ptr 1 0 0, i64 (4 : Nat)] [.cells 0 (some tPg) zeroP 0, rcell (hA (T0 s)).2] = some (.ret (i64 (hB (T0 s)).1), [.cells 0 (some tPg) zeroP 0, rcell (hB (T0 s)).2]) := rnum_set (n := m) (t := (hA (T0 s)).2) (by omega) (show RRd [.cells 0 (some tPg) zeroP 0, rcell (hA (T0 s)).2] 1 (hA (T0 s)).2 from rfl) (by omega) 4 (by omega)
  have l2 : (hB (T0 s)).2.1.length ≤ (hA (T0 s)).2.1.length := rnum_len 4 _
  have e3 : C m 120 [.ptr 1 0 0, i64 (6 : Nat)] [.cells 0 (some tPg) zeroP 0, rcell (hB (T0 s)).2] = some (.ret (i64 (hC (T0 s)).1), [.cells 0 (some tPg) zeroP 0, rcell (T3 s)]) := rnum_set (n := m) (t := (hB (T0 s)).2) (by omega) (show RRd [.cells 0 (some tPg) zeroP 0, rcell (hB (T0 s)).2] 1 (hB (T0 s)).2 from rfl) (by omega) 6 (by omega)
  have l3 := T3_len hl
  refine fun_pureX F69 rfl rfl rfl rfl ?_
  conv => whnf
  refine ss_lh (s := s) (c := 1) (d := 508) (by omega) (by omega) ?_
  conv => whnf
  refine clI e1 ?_
  conv => whnf
  refine clI e2 ?_
  conv => whnf
  refine clI e3 ?_
  conv => whnf
  refine stI (xs := pgCells (hA (T0 s)).1 (hB (T0 s)).1 (hC (T0 s)).1) (by rfl) (by rfl) (by rfl) (by rfl) (by rfl) ?_
  conv => whnf
  refine ldI (by rfl) ?_
  conv => whnf
  have s3 : PSt [.cells 0 (some tPg) zeroP 0, rcell (T3 s), .cells 0 (some tPg) (pgCells (hA (T0 s)).1 (hB (T0 s)).1 (hC (T0 s)).1) 0] (pgCells (hA (T0 s)).1 (hB (T0 s)).1 (hC (T0 s)).1) (T3 s) := ⟨rfl, rfl, rfl⟩
  refine bre (fun q => absurd q (by omega)) (fun _ => ?_)
  conv => whnf
  refine bre (fun q => absurd q (by omega)) (fun _ => ?_)
  conv => whnf
  refine bre (fun _ => ?_) (fun q => absurd (by rw [hk]; rfl) q)
  obtain ⟨h4, e4, r4, k4⟩ := rnum_eq (n := m) (by omega) s3.r (by omega) 4 (by omega)
  have z4 := s3.next k4 r4
  have s4 := z4.set (cs' := pcCells (hA (T0 s)).1 (hB (T0 s)).1 (hC (T0 s)).1 (pA (T3 s)).1 [])
  have n4 : (pA (T3 s)).2.1.length ≤ 507 := Nat.le_trans (rnum_len 4 (T3 s)) l3
  obtain ⟨h5, e5, r5, k5⟩ := rnum_eq (n := m) (t := (pA (T3 s)).2) (by omega) s4.r (by omega) 2 (by omega)
  have s5 := s4.next k5 r5
  have n5 : (pB (T3 s)).2.1.length ≤ 507 := Nat.le_trans (rnum_len 2 (pA (T3 s)).2) n4
  have bB : (pB (T3 s)).1 < 65536 := rnum_lt 2 (pA (T3 s)).2
  obtain ⟨h6, e6, r6, k6⟩ := rtake_eq (n := m) (t := (pB (T3 s)).2) (by omega) s5.r (by omega) (pB (T3 s)).1 (by omega)
  rw [← pC_def] at e6 r6
  have z6 := s5.next k6 r6
  have s6 := z6.set (cs' := pcCells (hA (T0 s)).1 (hB (T0 s)).1 (hC (T0 s)).1 (pA (T3 s)).1 (pC (T3 s)).1)
  conv => whnf
  refine clI e4 ?_
  conv => whnf
  refine stI z4.p (by rfl) (by rfl) (by rfl) (by rfl) ?_
  conv => whnf
  refine clI e5 ?_
  conv => whnf
  refine clI e6 ?_
  conv => whnf
  refine stI z6.p (by rfl) (by rfl) (by rfl) (by rfl) ?_
  conv => whnf
  refine cutI (by decide) rfl (t := ⟨[(2, .ptr 0 0 0), (4, .ptr 2 0 0)], _, []⟩) ⟨⟨rfl, rfl⟩, rfl, rfl⟩ ?_
  conv => whnf
  refine ldI (s6).p ?_
  conv => whnf
  refine stI (s6).a (xs := (pcCells (hA (T0 s)).1 (hB (T0 s)).1 (hC (T0 s)).1 (pA (T3 s)).1 (pC (T3 s)).1)) (by rfl) (by rfl) (by rfl) (by rfl) ?_
  exact fin_piece s6 (rd_piece' hl hk rfl rfl rfl rfl rfl) rfl
set_option maxRecDepth 10000 in
theorem refRead_4 (hn : 3 ≤ m) (hl : s.length = 512) (hk : (hA (T0 s)).1 = 4) : ∃ r, (∀ h, C (m + 1) 69 [.str s] h = some (r, h)) ∧ ∃ q : Page, r = .ret q.av ∧ RdS s q := by
  have l0 := T0_len hl
  have e1 : C m 120 [.ptr 1 0 0, i64 (1 : Nat)] [.cells 0 (some tPg) zeroP 0, rcell (T0 s)] = some (.ret (i64 (hA (T0 s)).1), [.cells 0 (some tPg) zeroP 0, rcell (hA (T0 s)).2]) := rnum_set (n := m) (t := T0 s) (by omega) (show RRd [.cells 0 (some tPg) zeroP 0, rcell (T0 s)] 1 (T0 s) from rfl) (by omega) 1 (by omega)
  have l1 : (hA (T0 s)).2.1.length ≤ (T0 s).1.length := rnum_len 1 _
  have e2 : C m 120 [.ptr 1 0 0, i64 (4 : Nat)] [.cells 0 (some tPg) zeroP 0, rcell (hA (T0 s)).2] = some (.ret (i64 (hB (T0 s)).1), [.cells 0 (some tPg) zeroP 0, rcell (hB (T0 s)).2]) := rnum_set (n := m) (t := (hA (T0 s)).2) (by omega) (show RRd [.cells 0 (some tPg) zeroP 0, rcell (hA (T0 s)).2] 1 (hA (T0 s)).2 from rfl) (by omega) 4 (by omega)
  have l2 : (hB (T0 s)).2.1.length ≤ (hA (T0 s)).2.1.length := rnum_len 4 _
  have e3 : C m 120 [.ptr 1 0 0, i64 (6 : Nat)] [.cells 0 (some tPg) zeroP 0, rcell (hB (T0 s)).2] = some (.ret (i64 (hC (T0 s)).1), [.cells 0 (some tPg) zeroP 0, rcell (T3 s)]) := rnum_set (n := m) (t := (hB (T0 s)).2) (by omega) (show RRd [.cells 0 (some tPg) zeroP 0, rcell (hB (T0 s)).2] 1 (hB (T0 s)).2 from rfl) (by omega) 6 (by omega)
  have l3 := T3_len hl
  refine fun_pureX F69 rfl rfl rfl rfl ?_
  conv => whnf
  refine ss_lh (s := s) (c := 1) (d := 508) (by omega) (by omega) ?_
  conv => whnf
  refine clI e1 ?_
  conv => whnf
  refine clI e2 ?_
  conv => whnf
  refine clI e3 ?_
  conv => whnf
  refine stI (xs := pgCells (hA (T0 s)).1 (hB (T0 s)).1 (hC (T0 s)).1) (by rfl) (by rfl) (by rfl) (by rfl) (by rfl) ?_
  conv => whnf
  refine ldI (by rfl) ?_
  conv => whnf
  have s3 : PSt [.cells 0 (some tPg) zeroP 0, rcell (T3 s), .cells 0 (some tPg) (pgCells (hA (T0 s)).1 (hB (T0 s)).1 (hC (T0 s)).1) 0] (pgCells (hA (T0 s)).1 (hB (T0 s)).1 (hC (T0 s)).1) (T3 s) := ⟨rfl, rfl, rfl⟩
  refine bre (fun q => absurd q (by omega)) (fun _ => ?_)
  conv => whnf
  refine bre (fun q => absurd q (by omega)) (fun _ => ?_)
  conv => whnf
  refine bre (fun q => absurd q (by omega)) (fun _ => ?_)
  conv => whnf
  refine bre (fun _ => ?_) (fun q => absurd (by rw [hk]; rfl) q)
  obtain ⟨h4, e4, r4, k4⟩ := rnum_eq (n := m) (by omega) s3.r (by omega) 4 (by omega)
  have z4 := s3.next k4 r4
  have s4 := z4.set (cs' := lsCells (hA (T0 s)).1 (hB (T0 s)).1 (hC (T0 s)).1 (pA (T3 s)).1 (.lst 0 [] true))
  have n4 : (pA (T3 s)).2.1.length ≤ 507 := Nat.le_trans (rnum_len 4 (T3 s)) l3
  obtain ⟨h5, e5, r5, k5⟩ := rnum_eq (n := m) (t := (pA (T3 s)).2) (by omega) s4.r (by omega) 2 (by omega)
  have s5 := s4.next k5 r5
  have n5 : (pB (T3 s)).2.1.length ≤ 507 := Nat.le_trans (rnum_len 2 (pA (T3 s)).2) n4
  have bB : (pB (T3 s)).1 < 65536 := rnum_lt 2 (pA (T3 s)).2
  conv => whnf
  refine clI e4 ?_
  conv => whnf
  refine stI z4.p (by rfl) (by rfl) (by rfl) (by rfl) ?_
  conv => whnf
  refine clI e5 ?_
  conv => whnf
  refine rrfreeds_loop (t0 := (pB (T3 s)).2) (by omega) s5 (by omega) (pB (T3 s)).1 bB ⟨⟨rfl, rfl, rfl, rfl, rfl⟩, rfl, rfl⟩ (fun ts G I LL h hts st lv hG hI Lt hL => ?_)
  rw [← lC_def] at hts
  have one := lv.buf.one
  conv => whnf
  refine cutI (by decide) rfl (t := ⟨[(2, .ptr 0 0 0), (4, .ptr 2 0 0)], h, []⟩) ⟨hL, rfl, rfl⟩ ?_
  conv => whnf
  refine ldI (st).p ?_
  conv => whnf
  refine stI (st).a (xs := (lsCells (hA (T0 s)).1 (hB (T0 s)).1 (hC (T0 s)).1 (pA (T3 s)).1 LL)) (pg_cells rfl one.2) (by rfl) (by rfl) (by rfl) ?_
  exact fin_list st lv hG hI (fun sh fs h1 h2 => rd_list' hl hk rfl rfl rfl rfl h1 hts h2) rfl
set_option maxRecDepth 10000 in
theorem refRead_0 (hn : 3 ≤ m) (hl : s.length = 512) (hk : ¬((hA (T0 s)).1 = 1 ∨ (hA (T0 s)).1 = 2)) (hk3 : (hA (T0 s)).1 ≠ 3) (hk4 : (hA (T0 s)).1 ≠ 4) : ∃ r, (∀ h, C (m + 1) 69 [.str s] h = some (r, h)) ∧ ∃ q : Page, r = .ret q.av ∧ RdS s q := by
  have l0 := T0_len hl
  have e1 : C m 120 [.ptr 1 0 0, i64 (1 : Nat)] [.cells 0 (some tPg) zeroP 0, rcell (T0 s)] = some (.ret (i64 (hA (T0 s)).1), [.cells 0 (some tPg) zeroP 0, rcell (hA (T0 s)).2]) := rnum_set (n := m) (t := T0 s) (by omega) (show RRd [.cells 0 (some tPg) zeroP 0, rcell (T0 s)] 1 (T0 s) from rfl) (by omega) 1 (by omega)
  have l1 : (hA (T0 s)).2.1.length ≤ (T0 s).1.length := rnum_len 1 _
  have e2 : C m 120 [.ptr 1 0 0, i64 (4 : Nat)] [.cells 0 (some tPg) zeroP 0, rcell (hA (T0 s)).2] = some (.ret (i64 (hB (T0 s)).1), [.cells 0 (some tPg) zeroP 0, rcell (hB (T0 s)).2]) := rnum_set (n := m) (t := (hA (T0 s)).2) (by omega) (show RRd [.cells 0 (some tPg) zeroP 0, rcell (hA (T0 s)).2] 1 (hA (T0 s)).2 from rfl) (by omega) 4 (by omega)
  have l2 : (hB (T0 s)).2.1.length ≤ (hA (T0 s)).2.1.length := rnum_len 4 _
  have e3 : C m 120 [.ptr 1 0 0, i64 (6 : Nat)] [.cells 0 (some tPg) zeroP 0, rcell (hB (T0 s)).2] = some (.ret (i64 (hC (T0 s)).1), [.cells 0 (some tPg) zeroP 0, rcell (T3 s)]) := rnum_set (n := m) (t := (hB (T0 s)).2) (by omega) (show RRd [.cells 0 (some tPg) zeroP 0, rcell (hB (T0 s)).2] 1 (hB (T0 s)).2 from rfl) (by omega) 6 (by omega)
  have l3 := T3_len hl
  refine fun_pureX F69 rfl rfl rfl rfl ?_
  conv => whnf
  refine ss_lh (s := s) (c := 1) (d := 508) (by omega) (by omega) ?_
  conv => whnf
  refine clI e1 ?_
  conv => whnf
  refine clI e2 ?_
  conv => whnf
  refine clI e3 ?_
  conv => whnf
  refine stI (xs := pgCells (hA (T0 s)).1 (hB (T0 s)).1 (hC (T0 s)).1) (by rfl) (by rfl) (by rfl) (by rfl) (by rfl) ?_
  conv => whnf
  refine ldI (by rfl) ?_
  conv => whnf
  have s3 : PSt [.cells 0 (some tPg) zeroP 0, rcell (T3 s), .cells 0 (some tPg) (pgCells (hA (T0 s)).1 (hB (T0 s)).1 (hC (T0 s)).1) 0] (pgCells (hA (T0 s)).1 (hB (T0 s)).1 (hC (T0 s)).1) (T3 s) := ⟨rfl, rfl, rfl⟩
  refine bre (fun q => absurd q (by omega)) (fun _ => ?_)
  conv => whnf
  refine bre (fun q => absurd q (by omega)) (fun _ => ?_)
  conv => whnf
  refine bre (fun q => absurd q (by omega)) (fun _ => ?_)
  conv => whnf
  refine bre (fun q => absurd q (by omega)) (fun _ => ?_)
  conv => whnf
  refine cutI (by decide) rfl (t := ⟨[(2, .ptr 0 0 0), (4, .ptr 2 0 0)], _, []⟩) ⟨⟨rfl, rfl⟩, rfl, rfl⟩ ?_
  conv => whnf
  refine ldI (s3).p ?_
  conv => whnf
  refine stI (s3).a (xs := (pcCells (hA (T0 s)).1 (hB (T0 s)).1 (hC (T0 s)).1 0 [])) (by rfl) (by rfl) (by rfl) (by rfl) ?_
  exact fin_piece (next := 0) (d := []) s3 (rd_other' hk hk3 hk4 rfl) rfl
theorem refRead_eq (hn : 3 ≤ m) (hl : s.length = 512) : ∃ q : Page, (∀ h, C (m + 1) 69 [.str s] h = some (.ret q.av, h)) ∧ RdS s q := by
  have key : ∃ r, (∀ h, C (m + 1) 69 [.str s] h = some (r, h)) ∧ ∃ q : Page, r = .ret q.av ∧ RdS s q := by
    by_cases k1 : (hA (T0 s)).1 = 1
    · exact refRead_1 hn hl k1
    · by_cases k2 : (hA (T0 s)).1 = 2
      · exact refRead_2 hn hl k2
      · by_cases k3 : (hA (T0 s)).1 = 3
        · exact refRead_3 hn hl k3
        · by_cases k4 : (hA (T0 s)).1 = 4
          · exact refRead_4 hn hl k4
          · exact refRead_0 hn hl (by omega) k3 k4
  obtain ⟨r, h1, q, rfl, h2⟩ := key
  exact ⟨q, h1, h2⟩
end
end Go.Proofs
/- Contracts: the reference's Decode. -/
set_option linter.unusedVariables false
set_option linter.unusedSimpArgs false
namespace Go.Proofs
open Go Go.Abs
theorem pcells_frz {n : Nat} (q : Page) : ∀ x ∈ q.cells, FrzOk (n + 4) x := fun x hx => by
  simp only [Page.cells, List.mem_cons, List.not_mem_nil, or_false] at hx
  rcases hx with rfl | rfl | rfl | rfl | rfl | rfl | rfl | rfl | rfl | rfl
  · exact frzOk_int
  · exact frzOk_int
  · exact frzOk_int
  · exact frzOk_int
  · exact frzOk_int
  · exact frzOk_bool
  · exact frzOk_lst fun y hy => by obtain ⟨k, _, rfl⟩ := List.mem_map.1 hy; exact entry_frz' k
  · exact frzOk_int
  · exact frzOk_str
  · exact frzOk_lst fun y hy => by obtain ⟨k, _, rfl⟩ := List.mem_map.1 hy; exact freed_frz' k
def dCells (q : Page) (k : Int) : List AV := [i64 q.kind, i64 q.no, i64 q.ver, i64 q.tree, i64 q.level, .bool q.top, .lst q.esh.sz (q.entries.map Entry.av) q.esh.c, i64 q.next, .str q.data, .lst q.fsh.sz (q.freed.map Freed.av) q.fsh.c, i64 k]
def zPage : Page := ⟨0, 0, 0, 0, 0, false, ⟨0, true⟩, [], 0, [], ⟨0, true⟩, []⟩
theorem zPage_cells : zPage.cells = zeroP := rfl
theorem decA_frz {q : Page} {k : Int} (h : AHeap) : Abs.frz h 64 (.agg (dCells q k)) = some (.agg (dCells q k)) := frzOk_agg (n := 63) (fun x hx => by
  have e : dCells q k = q.cells ++ [i64 k] := rfl
  rw [e] at hx
  rcases List.mem_append.1 hx with hx | hx
  · exact pcells_frz q x hx
  · simp at hx; subst hx; exact frzOk_int) h
theorem dec_cells (q : Page) (k : Int) : AV.cells? (.agg (dCells q k)) = some (dCells q k) := rfl
section
variable {n : Nat} {h : AHeap} {s : Str}
theorem refDecode_len (hn : 1 ≤ n) (hl : s.length ≠ 512) : C n 15 [.str s] h = some (.ret (.agg (dCells zPage 8)), h) := by
  obtain ⟨m, rfl⟩ : ∃ m, n = m + 1 := ⟨n - 1, by omega⟩
  refine fun_pure F15 rfl rfl rfl rfl ?_
  conv => whnf
  refine brq (fun _ => ?_) (fun a => absurd (by omega) hl)
  conv => whnf
  refine stI (xs := dCells zPage 8) (by rfl) (by rfl) (by rfl) (by rfl) (by rfl) ?_
  exact ⟨rfl, _, cell_res (el := some 38) (f := 0) (cs := dCells zPage 8) (N := 11) (b := 0) rfl (by kernel_rfl) rfl rfl, decA_frz _⟩
theorem refDecode_read (hn : 9 ≤ n) (hl : s.length = 512) : ∃ q : Page, RdS s q ∧ ∀ h, C n 15 [.str s] h = some (.ret (.agg (if q.check = true ∧ q.enc = s then dCells q 0 else dCells zPage 8)), h) := by
  obtain ⟨m, rfl⟩ : ∃ m, n = m + 1 := ⟨n - 1, by omega⟩
  obtain ⟨m', rfl⟩ : ∃ k, m = k + 1 := ⟨m - 1, by omega⟩
  obtain ⟨q, e1, hq⟩ := refRead_eq (m := m') (s := s) (by omega) hl
  refine ⟨q, hq, fun h => ?_⟩
  have cE : ∀ h, C (m' + 1) 13 [q.av] h = some (.ret (.agg [.str (if q.check then q.enc else []), i64 (if q.check then 0 else 2)]), h) := fun h => refEncode_eq (by omega) q hq.1
  cases hc : q.check with
  | false =>
    rw [hc] at cE
    rw [if_neg (by simp)]
    refine fun_pure F15 rfl rfl rfl rfl ?_
    conv => whnf
    refine brq (fun a => absurd (by omega) a) (fun _ => ?_)
    conv => whnf
    refine clI (e1 _) ?_
    conv => whnf
    refine stI (xs := q.cells) (by rfl) (by rfl) (by rfl) (by rfl) (by rfl) ?_
    conv => whnf
    refine ldI (by rfl) ?_
    conv => whnf
    refine clI (cE _) ?_
    conv => whnf
    refine stI (xs := [.str [], i64 2]) (by rfl) (by rfl) (by rfl) (by rfl) (by rfl) ?_
    conv => whnf
    refine ldI (by rfl) ?_
    conv => whnf
    refine stI (xs := dCells zPage 8) (by rfl) (by rfl) (by rfl) (by rfl) (by rfl) ?_
    exact ⟨rfl, _, cell_res (el := some 38) (f := 0) (cs := dCells zPage 8) (N := 11) (b := 0) rfl (by kernel_rfl) rfl rfl, decA_frz _⟩
  | true =>
    rw [hc] at cE
    refine fun_pure F15 rfl rfl rfl rfl ?_
    conv => whnf
    refine brq (fun a => absurd (by omega) a) (fun _ => ?_)
    conv => whnf
    refine clI (e1 _) ?_
    conv => whnf
    refine stI (xs := q.cells) (by rfl) (by rfl) (by rfl) (by rfl) (by rfl) ?_
    conv => whnf
    refine ldI (by rfl) ?_
    conv => whnf
    refine clI (cE _) ?_
    conv => whnf
    refine stI (xs := [.str q.enc, i64 0]) (by rfl) (by rfl) (by rfl) (by rfl) (by rfl) ?_
    conv => whnf
    refine ldI (by rfl) ?_
    conv => whnf
    refine ldI (by rfl) ?_
    conv => whnf
    refine brq (fun a => ?_) (fun a => ?_)
    · have e' : (if true = true ∧ q.enc = s then dCells q 0 else dCells zPage 8) = dCells zPage 8 := if_neg (fun c => a c.2)
      rw [e']
      conv => whnf
      refine stI (xs := dCells zPage 8) (by rfl) (by rfl) (by rfl) (by rfl) (by rfl) ?_
      exact ⟨rfl, _, cell_res (el := some 38) (f := 0) (cs := dCells zPage 8) (N := 11) (b := 0) rfl (by kernel_rfl) rfl rfl, decA_frz _⟩
    · have e' : (if true = true ∧ q.enc = s then dCells q 0 else dCells zPage 8) = dCells q 0 := if_pos ⟨rfl, a⟩
      rw [e']
      conv => whnf
      refine ldI (by rfl) ?_
      conv => whnf
      refine stI (xs := dCells q 0) (by rfl) (by rfl) (by rfl) (by rfl) (by rfl) ?_
      exact ⟨rfl, _, cell_res (el := some 38) (f := 0) (cs := dCells q 0) (N := 11) (b := 0) rfl (by kernel_rfl) rfl rfl, decA_frz _⟩
/-- A block of a page: the reference reads it. -/
theorem refDecode_yes (hn : 9 ≤ n) {p : Page} (hc : p.check = true) : ∃ q : Page, Same p q ∧ q.Ok ∧ ∀ h, C n 15 [.str p.enc] h = some (.ret (.agg (dCells q 0)), h) := by
  obtain ⟨q, hq, e⟩ := refDecode_read (s := p.enc) hn (enc_len hc)
  have hk := (check_iff.1 hc).2.2
  have hs : Same p q := same_of hc (hq.2 _ (pread_enc hc) (by simp only; omega))
  refine ⟨q, hs, hq.1, fun h => ?_⟩
  rw [e, if_pos ⟨by rw [hs.check, hc], hs.enc⟩]
theorem refDecode_no (hn : 9 ≤ n) (hno : ∀ p : Page, p.Ok → p.check = true → p.enc ≠ s) : ∀ h, C n 15 [.str s] h = some (.ret (.agg (dCells zPage 8)), h) := fun h => by
  by_cases hl : s.length = 512
  · obtain ⟨q, hq, e⟩ := refDecode_read (s := s) hn hl
    rw [e, if_neg (fun c => hno q hq.1 c.1 c.2)]
  · exact refDecode_len (by omega) hl
end
end Go.Proofs
/- Contracts: Find and EntryAt on any string, and the reference's. -/
set_option linter.unusedVariables false
set_option linter.unusedSimpArgs false
namespace Go.Proofs
open Go Go.Abs
section
variable {n : Nat} {p : Page} {s : Str}
theorem tree_bad (hn : 11 ≤ n) (hno : ∀ p : Page, p.Ok → p.check = true → p.enc ≠ s) : ∀ h, C n 80 [.str s] h = some (.ret (.tup [.agg zeroP, i64 8]), h) := by
  obtain ⟨m, rfl⟩ : ∃ m, n = m + 1 := ⟨n - 1, by omega⟩
  have e := fun h => decode_no (n := m) (by omega) hno h
  intro h
  refine fun_pure F80 rfl rfl rfl rfl ?_
  conv => whnf
  refine clI (e _) ?_
  conv => whnf
  refine stI (xs := zeroP) (by rfl) (by rfl) (by rfl) (by rfl) (by rfl) ?_
  conv => whnf
  refine stI (xs := zeroP) (by rfl) (by rfl) (by rfl) (by rfl) (by rfl) ?_
  exact ⟨rfl, _, page_res rfl rfl rfl rfl, zero_frz⟩
theorem find_bad (hn : 12 ≤ n) (hno : ∀ p : Page, p.Ok → p.check = true → p.enc ≠ s) (k : Str) : ∀ h, C n 20 [.str s, .str k] h = some (.ret (.tup [i64 0, .bool false, i64 8]), h) := by
  obtain ⟨m, rfl⟩ : ∃ m, n = m + 1 := ⟨n - 1, by omega⟩
  have e := tree_bad (n := m) (by omega) hno
  intro h
  refine fun_pure F20 rfl rfl rfl rfl ?_
  conv => whnf
  refine clI (e _) ?_
  conv => whnf
  refine stI (xs := zeroP) (by rfl) (by rfl) (by rfl) (by rfl) (by rfl) ?_
  conv => whnf
  exact ⟨rfl, _, rfl, rfl⟩
theorem entryAt_bad (hn : 12 ≤ n) (hno : ∀ p : Page, p.Ok → p.check = true → p.enc ≠ s) (i : Int) : ∀ h, C n 22 [.str s, i64 i] h = some (.ret (.tup [.agg zEnt.cells, i64 8]), h) := by
  obtain ⟨m, rfl⟩ : ∃ m, n = m + 1 := ⟨n - 1, by omega⟩
  have e := tree_bad (n := m) (by omega) hno
  intro h
  refine fun_pure F22 rfl rfl rfl rfl ?_
  conv => whnf
  refine clI (e _) ?_
  conv => whnf
  refine stI (xs := zeroP) (by rfl) (by rfl) (by rfl) (by rfl) (by rfl) ?_
  conv => whnf
  refine stI (xs := zEnt.cells) (by rfl) (by rfl) (by rfl) (by rfl) (by rfl) ?_
  exact ⟨rfl, _, ent_res rfl rfl rfl rfl, ent_frz⟩
theorem entryAt_off (hn : 12 ≤ n) (hc : p.check = true) (hk : p.kind = 1 ∨ p.kind = 2) (i : Int) (hi : i < 0 ∨ (p.entries.length : Int) ≤ i) : ∀ h, C n 22 [.str p.enc, i64 i] h = some (.ret (.tup [.agg zEnt.cells, i64 1]), h) := by
  obtain ⟨m, rfl⟩ : ∃ m, n = m + 1 := ⟨n - 1, by omega⟩
  obtain ⟨q, hs, ok, e⟩ := tree_enc (n := m) (by omega) hc hk
  intro h
  have hq : q.entries.length = p.entries.length := by rw [hs.entries]
  refine fun_pure F22 rfl rfl rfl rfl ?_
  conv => whnf
  refine clI (e _) ?_
  conv => whnf
  refine stI (xs := q.cells) (by rfl) (by rfl) (by rfl) (by rfl) (by rfl) ?_
  conv => whnf
  refine brd (fun a => ?_) (fun a => ?_)
  · conv => whnf
    refine stI (xs := zEnt.cells) (by rfl) (by rfl) (by rfl) (by rfl) (by rfl) ?_
    exact ⟨rfl, _, ent_res rfl rfl rfl rfl, ent_frz⟩
  · conv => whnf
    refine ldI (by rfl) ?_
    conv => whnf
    refine brd (fun a => ?_) (fun a => ?_)
    · conv => whnf
      refine stI (xs := zEnt.cells) (by rfl) (by rfl) (by rfl) (by rfl) (by rfl) ?_
      exact ⟨rfl, _, ent_res rfl rfl rfl rfl, ent_frz⟩
    · exfalso; rw [List.length_map] at a; omega
/-! The reference. -/
theorem refTree_ok (hn : 1 ≤ n) {b : Page} (cD : ∀ h, C n 15 [.str s] h = some (.ret (.agg (dCells b 0)), h)) (hk : b.kind = 1 ∨ b.kind = 2) : ∀ h, C (n + 1) 84 [.str s] h = some (.ret (.agg (dCells b 0)), h) := by
  intro h
  refine fun_pure F84 rfl rfl rfl rfl ?_
  conv => whnf
  refine clI (cD _) ?_
  conv => whnf
  refine stI (xs := dCells b 0) (by rfl) (by rfl) (by rfl) (by rfl) (by rfl) ?_
  conv => whnf
  refine ldI (by rfl) ?_
  conv => whnf
  refine ldI (by rfl) ?_
  conv => whnf
  refine brq (fun a => ?_) (fun a => ?_)
  · conv => whnf
    refine ldI (by rfl) ?_
    conv => whnf
    refine brq (fun c => ?_) (fun c => ?_)
    · exfalso
      change b.kind ≠ 1 at a
      change b.kind ≠ 2 at c
      omega
    · conv => whnf
      refine ldI (by rfl) ?_
      conv => whnf
      refine stI (xs := dCells b 0) (by rfl) (by rfl) (by rfl) (by rfl) (by rfl) ?_
      exact ⟨rfl, _, cell_res (el := some 38) (f := 0) (cs := dCells b 0) (N := 11) (b := 0) rfl (by kernel_rfl) rfl rfl, decA_frz _⟩
  · conv => whnf
    refine ldI (by rfl) ?_
    conv => whnf
    refine stI (xs := dCells b 0) (by rfl) (by rfl) (by rfl) (by rfl) (by rfl) ?_
    exact ⟨rfl, _, cell_res (el := some 38) (f := 0) (cs := dCells b 0) (N := 11) (b := 0) rfl (by kernel_rfl) rfl rfl, decA_frz _⟩
theorem refTree_not (hn : 1 ≤ n) {b : Page} (cD : ∀ h, C n 15 [.str s] h = some (.ret (.agg (dCells b 0)), h)) (hk : ¬(b.kind = 1 ∨ b.kind = 2)) : ∀ h, C (n + 1) 84 [.str s] h = some (.ret (.agg (dCells zPage 2)), h) := by
  intro h
  refine fun_pure F84 rfl rfl rfl rfl ?_
  conv => whnf
  refine clI (cD _) ?_
  conv => whnf
  refine stI (xs := dCells b 0) (by rfl) (by rfl) (by rfl) (by rfl) (by rfl) ?_
  conv => whnf
  refine ldI (by rfl) ?_
  conv => whnf
  refine ldI (by rfl) ?_
  conv => whnf
  refine brq (fun a => ?_) (fun a => ?_)
  · conv => whnf
    refine ldI (by rfl) ?_
    conv => whnf
    refine brq (fun c => ?_) (fun c => ?_)
    · conv => whnf
      refine stI (xs := dCells zPage 2) (by rfl) (by rfl) (by rfl) (by rfl) (by rfl) ?_
      exact ⟨rfl, _, cell_res (el := some 38) (f := 0) (cs := dCells zPage 2) (N := 11) (b := 0) rfl (by kernel_rfl) rfl rfl, decA_frz _⟩
    · exact (hk (.inr c)).elim
  · exact (hk (.inl a)).elim
theorem refTree_bad (hn : 1 ≤ n) (cD : ∀ h, C n 15 [.str s] h = some (.ret (.agg (dCells zPage 8)), h)) : ∀ h, C (n + 1) 84 [.str s] h = some (.ret (.agg (dCells zPage 8)), h) := by
  intro h
  refine fun_pure F84 rfl rfl rfl rfl ?_
  conv => whnf
  refine clI (cD _) ?_
  conv => whnf
  refine stI (xs := dCells zPage 8) (by rfl) (by rfl) (by rfl) (by rfl) (by rfl) ?_
  conv => whnf
  refine ldI (by rfl) ?_
  conv => whnf
  refine ldI (by rfl) ?_
  conv => whnf
  refine stI (xs := dCells zPage 8) (by rfl) (by rfl) (by rfl) (by rfl) (by rfl) ?_
  exact ⟨rfl, _, cell_res (el := some 38) (f := 0) (cs := dCells zPage 8) (N := 11) (b := 0) rfl (by kernel_rfl) rfl rfl, decA_frz _⟩
theorem refFind_err (hn : 1 ≤ n) {e : Int} (he : e = 2 ∨ e = 8) (k : Str) (cT : ∀ h, C n 84 [.str s] h = some (.ret (.agg (dCells zPage e)), h)) : ∀ h, C (n + 1) 21 [.str s, .str k] h = some (.ret (.agg [i64 0, .bool false, i64 e]), h) := by
  intro h
  refine fun_pure F21 rfl rfl rfl rfl ?_
  conv => whnf
  refine clI (cT _) ?_
  conv => whnf
  refine stI (xs := dCells zPage e) (by rfl) (by rfl) (by rfl) (by rfl) (by rfl) ?_
  conv => whnf
  refine ldI (by rfl) ?_
  conv => whnf
  refine brq (fun a => ?_) (fun a => ?_)
  · conv => whnf
    refine ldI (by rfl) ?_
    conv => whnf
    refine stI (xs := [i64 0, .bool false, i64 e]) (by rfl) (by rfl) (by rfl) (by rfl) (by rfl) ?_
    exact ⟨rfl, _, cell_res (el := some 51) (f := 0) (cs := [i64 0, .bool false, i64 e]) (N := 3) (b := 0) rfl (by kernel_rfl) rfl rfl, rfl⟩
  · exfalso
    change e = 0 at a
    omega
def oCells (e : Entry) (k : Int) : List AV := e.cells ++ [i64 k]
theorem o_frz {e : Entry} {k : Int} (h : AHeap) : Abs.frz h 64 (.agg (oCells e k)) = some (.agg (oCells e k)) := frzOk_agg (n := 63) (fun x hx => by
  rcases List.mem_append.1 hx with hx | hx
  · exact cells_frz e x hx
  · simp at hx; subst hx; exact frzOk_int) h
theorem refEntryAt_err (hn : 1 ≤ n) {e : Int} (he : e = 2 ∨ e = 8) (i : Int) (cT : ∀ h, C n 84 [.str s] h = some (.ret (.agg (dCells zPage e)), h)) : ∀ h, C (n + 1) 23 [.str s, i64 i] h = some (.ret (.agg (oCells zEnt e)), h) := by
  intro h
  refine fun_pure F23 rfl rfl rfl rfl ?_
  conv => whnf
  refine clI (cT _) ?_
  conv => whnf
  refine stI (xs := dCells zPage e) (by rfl) (by rfl) (by rfl) (by rfl) (by rfl) ?_
  conv => whnf
  refine ldI (by rfl) ?_
  conv => whnf
  refine brq (fun a => ?_) (fun a => ?_)
  · conv => whnf
    refine ldI (by rfl) ?_
    conv => whnf
    refine stI (xs := oCells zEnt e) (by rfl) (by rfl) (by rfl) (by rfl) (by rfl) ?_
    exact ⟨rfl, _, cell_res (el := some 60) (f := 0) (cs := oCells zEnt e) (N := 23) (b := 0) rfl (by kernel_rfl) rfl rfl, o_frz _⟩
  · exfalso
    change e = 0 at a
    omega
theorem refEntryAt_in (hn : 1 ≤ n) {b : Page} (ok : b.Ok) (i : Nat) (hi : i < b.entries.length) (cT : ∀ h, C n 84 [.str s] h = some (.ret (.agg (dCells b 0)), h)) : ∀ h, C (n + 1) 23 [.str s, i64 i] h = some (.ret (.agg (oCells b.entries[i] 0)), h) := by
  intro h
  refine fun_pure F23 rfl rfl rfl rfl ?_
  conv => whnf
  refine clI (cT _) ?_
  conv => whnf
  refine stI (xs := dCells b 0) (by rfl) (by rfl) (by rfl) (by rfl) (by rfl) ?_
  conv => whnf
  refine ldI (by rfl) ?_
  conv => whnf
  refine ldI (by rfl) ?_
  conv => whnf
  refine brd (fun a => ?_) (fun a => ?_)
  · exfalso; rw [List.length_map] at a; omega
  · conv => whnf
    refine ldI (by rfl) ?_
    conv => whnf
    refine ixL entry_cells hi ok.esz ?_
    conv => whnf
    refine stI (xs := oCells b.entries[i] 0) (by rfl) (by rfl) (by rfl) (by rfl) (by rfl) ?_
    exact ⟨rfl, _, cell_res (el := some 60) (f := 0) (cs := oCells b.entries[i] 0) (N := 23) (b := 0) rfl (by kernel_rfl) rfl rfl, o_frz _⟩
theorem refEntryAt_out (hn : 1 ≤ n) {b : Page} (i : Int) (hi : i < 0 ∨ (b.entries.length : Int) ≤ i) (cT : ∀ h, C n 84 [.str s] h = some (.ret (.agg (dCells b 0)), h)) : ∀ h, C (n + 1) 23 [.str s, i64 i] h = some (.ret (.agg (oCells zEnt 1)), h) := by
  intro h
  refine fun_pure F23 rfl rfl rfl rfl ?_
  conv => whnf
  refine clI (cT _) ?_
  conv => whnf
  refine stI (xs := dCells b 0) (by rfl) (by rfl) (by rfl) (by rfl) (by rfl) ?_
  conv => whnf
  refine ldI (by rfl) ?_
  conv => whnf
  refine brd (fun a => ?_) (fun a => ?_)
  · conv => whnf
    refine stI (xs := oCells zEnt 1) (by rfl) (by rfl) (by rfl) (by rfl) (by rfl) ?_
    exact ⟨rfl, _, cell_res (el := some 60) (f := 0) (cs := oCells zEnt 1) (N := 23) (b := 0) rfl (by kernel_rfl) rfl rfl, o_frz _⟩
  · conv => whnf
    refine ldI (by rfl) ?_
    conv => whnf
    refine brd (fun a => ?_) (fun a => ?_)
    · conv => whnf
      refine stI (xs := oCells zEnt 1) (by rfl) (by rfl) (by rfl) (by rfl) (by rfl) ?_
      exact ⟨rfl, _, cell_res (el := some 60) (f := 0) (cs := oCells zEnt 1) (N := 23) (b := 0) rfl (by kernel_rfl) rfl rfl, o_frz _⟩
    · exfalso; rw [List.length_map] at a; omega
end
end Go.Proofs
/- Contracts: the reference's Head and Find. -/
set_option linter.unusedVariables false
set_option linter.unusedSimpArgs false
namespace Go.Proofs
open Go Go.Abs
section
variable {n : Nat} {s : Str}
theorem refFind_ok (hn : 1 ≤ n) {b : Page} (ok : b.Ok) (k : Str) (i : Nat) (hi : i ≤ b.entries.length) (h1 : ∀ j (hj : j < b.entries.length), j < i → cmpS b.entries[j].key k < 0) (h2 : ∀ j (hj : j < b.entries.length), i ≤ j → ¬ cmpS b.entries[j].key k < 0)
    (f : Bool) (hf : f = true ↔ ∃ hj : i < b.entries.length, cmpS b.entries[i].key k = 0) (cT : ∀ h, C n 84 [.str s] h = some (.ret (.agg (dCells b 0)), h)) : ∀ h, C (n + 1) 21 [.str s, .str k] h = some (.ret (.agg [i64 i, .bool f, i64 0]), h) := by
  intro h
  have el := ok.elen
  refine fun_pure F21 rfl rfl rfl rfl ?_
  conv => whnf
  refine clI (cT _) ?_
  conv => whnf
  refine stI (xs := dCells b 0) (by rfl) (by rfl) (by rfl) (by rfl) (by rfl) ?_
  conv => whnf
  refine ldI (by rfl) ?_
  conv => whnf
  refine loopI (by decide) rfl (α := Nat) (fun j => ⟨[(1, .str k), (4, .ptr 0 0 0), (5, .ptr 1 0 0), (6, i64 j)], [.cells 0 (some 51) [i64 0, .bool false, i64 0] 0, .cells 0 (some 38) (dCells b 0) 0], []⟩) (fun j => j ≤ i) (fun j => b.entries.length - j) 0 ⟨⟨rfl, rfl, rfl, rfl⟩, rfl, rfl⟩ (Nat.zero_le _) (by show b.entries.length - 0 < KK; simp only [KK]; omega) ?_
  intro j g1
  have exitW : j = i → ∀ {Q : Ex → LS → Prop} {L : LT}, subL [(1, .str k), (4, .ptr 0 0 0), (5, .ptr 1 0 0), (6, i64 i)] L → (∀ L', subL [(1, .str k), (4, .ptr 0 0 0), (5, .ptr 1 0 0), (6, i64 i)] L' → Q (.exit 0) ⟨L', [.cells 0 (some 51) [i64 0, .bool false, i64 0] 0, .cells 0 (some 38) (dCells b 0) 0], []⟩) → Q (.exit 0) ⟨L, [.cells 0 (some 51) [i64 0, .bool false, i64 0] 0, .cells 0 (some 38) (dCells b 0) 0], []⟩ := fun _ _ _ hL hQ => hQ _ hL
  conv => whnf
  refine ldI (by rfl) ?_
  conv => whnf
  refine brd (fun a => ?_) (fun a => ?_)
  · have hj : j < b.entries.length := by rw [List.length_map] at a; omega
    conv => whnf
    refine ldI (by rfl) ?_
    conv => whnf
    refine ixL entry_cells hj ok.esz ?_
    conv => whnf
    refine br (fun c => ?_) (fun c => ?_)
    · have hji : j < i := by
        rcases Nat.lt_or_ge j i with q | q
        · exact q
        · exact (h2 j hj q (cmp_neg.2 c)).elim
      conv => whnf
      refine zI (z := ((j + 1 : Nat) : Int)) (by rw [wrap_i64 (by omega) (by omega)]; rfl) ?_
      exact nxI (j + 1) hji (by omega) ⟨⟨rfl, rfl, rfl, rfl⟩, rfl, rfl⟩
    · have hji : j = i := by
        rcases Nat.lt_or_ge j i with q | q
        · have := cmp_neg.1 (h1 j hj q)
          change Op.bytesLess b.entries[j].key k = false at c
          rw [c] at this; cases this
        · omega
      subst hji
      have hfk : (b.entries[j].key == k) = f := by
        rw [Bool.eq_iff_iff, hf, beq_iff_eq, ← cmp_zero]
        exact ⟨fun q => ⟨hj, q⟩, fun q => q.2⟩
      conv => whnf
      refine cutI (by decide) rfl (t := ⟨[(1, .str k), (4, .ptr 0 0 0), (5, .ptr 1 0 0), (6, i64 j)], [.cells 0 (some 51) [i64 0, .bool false, i64 0] 0, .cells 0 (some 38) (dCells b 0) 0], []⟩) ⟨⟨rfl, rfl, rfl, rfl⟩, rfl, rfl⟩ ?_
      conv => whnf
      refine ldI (by rfl) ?_
      conv => whnf
      refine brd (fun _ => ?_) (fun q => absurd a q)
      conv => whnf
      refine ldI (by rfl) ?_
      conv => whnf
      refine ixL entry_cells hj ok.esz ?_
      conv => whnf
      refine stI (xs := [i64 j, .bool f, i64 0]) (by rfl) (by rw [← hfk]; rfl) (by rfl) (by rfl) (by rfl) ?_
      exact ⟨rfl, _, cell_res (el := some 51) (f := 0) (cs := [i64 j, .bool f, i64 0]) (N := 3) (b := 0) rfl (by kernel_rfl) rfl rfl, rfl⟩
  · have hji : j = i := by rw [List.length_map] at a; omega
    subst hji
    have hff : f = false := by
      cases f with
      | false => rfl
      | true =>
        obtain ⟨q, _⟩ := hf.1 rfl
        rw [List.length_map] at a
        exact absurd q (by omega)
    subst hff
    conv => whnf
    refine cutI (by decide) rfl (t := ⟨[(1, .str k), (4, .ptr 0 0 0), (5, .ptr 1 0 0), (6, i64 j)], [.cells 0 (some 51) [i64 0, .bool false, i64 0] 0, .cells 0 (some 38) (dCells b 0) 0], []⟩) ⟨⟨rfl, rfl, rfl, rfl⟩, rfl, rfl⟩ ?_
    conv => whnf
    refine ldI (by rfl) ?_
    conv => whnf
    refine brd (fun q => absurd q a) (fun _ => ?_)
    conv => whnf
    refine stI (xs := [i64 j, .bool false, i64 0]) (by rfl) (by rfl) (by rfl) (by rfl) (by rfl) ?_
    exact ⟨rfl, _, cell_res (el := some 51) (f := 0) (cs := [i64 j, .bool false, i64 0]) (N := 3) (b := 0) rfl (by kernel_rfl) rfl rfl, rfl⟩
/-- What Head answers, as numbers. -/
def hNums (s : Str) : List Int := if headOk s then [unnum ((s.drop 1).take 1), unnum (((s.drop 1).drop 1).take 4), unnum ((((s.drop 1).drop 1).drop 4).take 6), 0] else [0, 0, 0, 8]
theorem seal_iff {s : Str} : s.take 508 ++ crcB (s.take 508) = s ↔ s.drop 508 = crcB (s.take 508) := by
  constructor
  · intro q
    have e := List.take_append_drop 508 s
    exact List.append_cancel_left (e.trans q.symm)
  · intro q
    rw [← q, List.take_append_drop]
theorem head_both (hn : 4 ≤ n) (s : Str) : ∀ h, C n 18 [.str s] h = some (.ret (.tup ((hNums s).map i64)), h) := fun h => by
  unfold hNums
  cases hb : headOk s with
  | true => exact head_good hn s hb
  | false => exact head_bad hn s hb
theorem refHead_eq (hn : 5 ≤ n) (s : Str) : ∀ h, C n 19 [.str s] h = some (.ret (.agg ((hNums s).map i64)), h) := fun h => by
  obtain ⟨m, rfl⟩ : ∃ m, n = m + 1 := ⟨n - 1, by omega⟩
  have bad : headOk s = false → hNums s = [0, 0, 0, 8] := fun q => by unfold hNums; rw [q]; rfl
  have fin8 : ∀ {L : LT} {hp : AHeap}, headOk s = false → lk L 2 = some (.ptr 0 0 0) → hp[0]? = some (.cells 0 (some 46) [i64 0, i64 0, i64 0, i64 8] 0) → RetQ Tryz.prog [.cell 2 46] (fun v' h' => frz h' 64 v' = some (.agg ((hNums s).map i64))) .ret ⟨L, hp, []⟩ := fun hb h2 h3 => ⟨rfl, _, cell_res (N := 4) h2 (by kernel_rfl) rfl h3, by rw [bad hb]; rfl⟩
  refine fun_pure F19 rfl rfl rfl rfl ?_
  conv => whnf
  refine brq (fun a => ?_) (fun a => ?_)
  · conv => whnf
    refine stI (xs := [i64 0, i64 0, i64 0, i64 8]) (by rfl) (by rfl) (by rfl) (by rfl) (by rfl) ?_
    exact fin8 (by unfold headOk; rw [show decide (s.length = 512) = false by simp; omega]; rfl) rfl rfl
  have hl : s.length = 512 := by omega
  have e0 : s.getD 0 0 = s[0]'(by omega) := by simp [hl]
  have e1 : s.getD 1 0 = s[1]'(by omega) := by simp [hl]
  conv => whnf
  refine strI (b := s[0]'(by omega)) (by omega) (List.getElem?_eq_getElem (by omega)) ?_
  conv => whnf
  refine brq (fun a0 => ?_) (fun a0 => ?_)
  · conv => whnf
    refine stI (xs := [i64 0, i64 0, i64 0, i64 8]) (by rfl) (by rfl) (by rfl) (by rfl) (by rfl) ?_
    refine fin8 ?_ rfl rfl
    unfold headOk
    rw [e0, show decide (s[0]'(by omega) = 85) = false by simp; intro q; exact a0 ((u8_eq85 _).2 q)]
    simp
  rw [u8_eq85] at a0
  conv => whnf
  refine ss_lo (c := 508) (by omega) ?_
  conv => whnf
  refine ss_hi (c := 508) (by omega) ?_
  conv => whnf
  refine clI (refCrc_eq (n := m) (by omega) (s.take 508) (by rw [List.length_take]; omega)) ?_
  conv => whnf
  refine brq (fun a2 => ?_) (fun a2 => ?_)
  · conv => whnf
    refine stI (xs := [i64 0, i64 0, i64 0, i64 8]) (by rfl) (by rfl) (by rfl) (by rfl) (by rfl) ?_
    refine fin8 ?_ rfl rfl
    unfold headOk
    rw [show decide (s.take 508 ++ crcB (s.take 508) = s) = false by rw [decide_eq_false_iff_not, seal_iff]; exact a2]
    simp
  conv => whnf
  refine strI (b := s[1]'(by omega)) (by omega) (List.getElem?_eq_getElem (by omega)) ?_
  conv => whnf
  refine brd (fun a3 => ?_) (fun a3 => ?_)
  · conv => whnf
    refine stI (xs := [i64 0, i64 0, i64 0, i64 8]) (by rfl) (by rfl) (by rfl) (by rfl) (by rfl) ?_
    refine fin8 ?_ rfl rfl
    unfold headOk
    rw [e1, show within ((s[1]'(by omega)).toNat : Int) 1 4 = false by simp [within]; omega]
    simp
  conv => whnf
  refine strI (b := s[1]'(by omega)) (by omega) (List.getElem?_eq_getElem (by omega)) ?_
  conv => whnf
  refine brd (fun a4 => ?_) (fun a4 => ?_)
  · conv => whnf
    refine stI (xs := [i64 0, i64 0, i64 0, i64 8]) (by rfl) (by rfl) (by rfl) (by rfl) (by rfl) ?_
    refine fin8 ?_ rfl rfl
    unfold headOk
    rw [e1, show within ((s[1]'(by omega)).toNat : Int) 1 4 = false by simp [within]; omega]
    simp
  have hok : headOk s = true := by
    unfold headOk
    rw [e0, e1, a0, show within ((s[1]'(by omega)).toNat : Int) 1 4 = true from within_iff.2 (by omega), show decide (s.take 508 ++ crcB (s.take 508) = s) = true by rw [decide_eq_true_eq, seal_iff]; exact a2]
    simp [hl]
  have v1 : unnum ((s.drop 1).take 1) = (s[1]'(by omega)).toNat := by
    have e : (s.drop 1).take 1 = [s[1]'(by omega)] := by rw [List.drop_eq_getElem_cons (show 1 < s.length by omega)]; rfl
    rw [e]
    show 0 * 256 + (s[1]'(by omega)).toNat = _
    omega
  have v2 : (s.take 6).drop 2 = ((s.drop 1).drop 1).take 4 := by rw [List.drop_take, List.drop_drop]
  have v3 : (s.take 12).drop 6 = (((s.drop 1).drop 1).drop 4).take 6 := by rw [List.drop_take, List.drop_drop, List.drop_drop]
  have good : (hNums s).map i64 = [i64 ((s[1]'(by omega)).toNat : Nat), i64 (unnum ((s.take 6).drop 2)), i64 (unnum ((s.take 12).drop 6)), i64 0] := by
    unfold hNums
    rw [hok, if_pos rfl, v1, v2, v3]
    rfl
  conv => whnf
  refine strI (b := s[1]'(by omega)) (by omega) (List.getElem?_eq_getElem (by omega)) ?_
  conv => whnf
  refine zI (z := ((s[1]'(by omega)).toNat : Int)) (by have := (s[1]'(by omega)).toNat_lt; exact wrap_i64 (by omega) (by omega)) ?_
  conv => whnf
  refine ss_lh (c := 2) (d := 6) (by omega) (by omega) ?_
  conv => whnf
  refine clI (refnum_eq (by omega) ((s.take 6).drop 2) (by rw [List.length_drop, List.length_take]; omega)) ?_
  conv => whnf
  refine ss_lh (c := 6) (d := 12) (by omega) (by omega) ?_
  conv => whnf
  refine clI (refnum_eq (by omega) ((s.take 12).drop 6) (by rw [List.length_drop, List.length_take]; omega)) ?_
  conv => whnf
  refine stI (xs := [i64 ((s[1]'(by omega)).toNat : Nat), i64 (unnum ((s.take 6).drop 2)), i64 (unnum ((s.take 12).drop 6)), i64 0]) (by rfl) (by rfl) (by rfl) (by rfl) (by rfl) ?_
  refine ⟨rfl, _, cell_res (el := some 46) (f := 0) (cs := [i64 ((s[1]'(by omega)).toNat : Nat), i64 (unnum ((s.take 6).drop 2)), i64 (unnum ((s.take 12).drop 6)), i64 0]) (N := 4) (b := 0) rfl (by kernel_rfl) rfl rfl, ?_⟩
  rw [good]
  rfl
end
end Go.Proofs
/- Arguments as they are read: entries. -/
set_option linter.unusedVariables false
set_option linter.unusedSimpArgs false
namespace Go.Proofs
open Go Go.Abs Go.ChangeShapes Go.WideShapes Go.ChangeAt Go.RowKit

theorem ty3 : Tryz.prog.underlying 3 = some (.int .i64) := by kernel_rfl
theorem ty5 : Tryz.prog.underlying 5 = some (.int .u8) := by kernel_rfl
theorem ty9 : Tryz.prog.underlying 9 = some .string := by kernel_rfl
theorem ty4 : Tryz.prog.underlying 4 = some .bool := by kernel_rfl
theorem ty22 : Tryz.prog.underlying 22 = some (.slice 56) := by kernel_rfl
theorem ty49 : Tryz.prog.underlying 54 = some (.array 16 5) := by kernel_rfl
theorem sz51 : Tryz.prog.cellsOf 56 = 22 := by kernel_rfl
theorem sz49 : Tryz.prog.cellsOf 54 = 16 := by kernel_rfl
theorem sz5 : Tryz.prog.cellsOf 5 = 1 := by kernel_rfl
theorem own : ownKnob Tryz.prog.godebug = none := by kernel_rfl
theorem laid : laidOutB Tryz.prog = true := by kernel_rfl

section
variable {H : Type} {enc : TypeId × Value → H} {W : World} {base : Nat} {sp : Nat → Bool} {held : Bool} {fuel : Nat} {cs : List Value} {x : DataW H × List MemPlace}
theorem take_one {i : Nat} {v : Value} (h : (cs.drop i).take 1 = [v]) : cs[i]? = some v := by
  have : ((cs.drop i).take 1)[0]? = some v := by rw [h]; rfl
  simpa using this
theorem rd_dg (h : DataW.trod enc Tryz.prog W base sp held fuel 54 cs = some x) : ∃ d : Dg, VRs (cellsW W) noBM d.cells cs := by
  obtain ⟨xs, m, _, _, hl, hx, hi⟩ := DataW.trod_array ty49 h
  rw [sz49] at hl
  rw [sz5] at hi
  have hb : ∀ i, i < 16 → ∃ b : UInt8, cs[i]? = some (.int .u8 b.toNat) := fun i hi' => by
    have h1 := hi i hi'
    rw [List.getElem?_eq_getElem (by omega)] at h1
    obtain ⟨b, h2⟩ := rd_u8 ty5 h1
    rw [Nat.mul_one] at h2
    exact ⟨b, take_one h2⟩
  obtain ⟨b0, g0⟩ := hb 0 (by omega)
  obtain ⟨b1, g1⟩ := hb 1 (by omega)
  obtain ⟨b2, g2⟩ := hb 2 (by omega)
  obtain ⟨b3, g3⟩ := hb 3 (by omega)
  obtain ⟨b4, g4⟩ := hb 4 (by omega)
  obtain ⟨b5, g5⟩ := hb 5 (by omega)
  obtain ⟨b6, g6⟩ := hb 6 (by omega)
  obtain ⟨b7, g7⟩ := hb 7 (by omega)
  obtain ⟨b8, g8⟩ := hb 8 (by omega)
  obtain ⟨b9, g9⟩ := hb 9 (by omega)
  obtain ⟨b10, g10⟩ := hb 10 (by omega)
  obtain ⟨b11, g11⟩ := hb 11 (by omega)
  obtain ⟨b12, g12⟩ := hb 12 (by omega)
  obtain ⟨b13, g13⟩ := hb 13 (by omega)
  obtain ⟨b14, g14⟩ := hb 14 (by omega)
  obtain ⟨b15, g15⟩ := hb 15 (by omega)
  refine ⟨⟨b0, b1, b2, b3, b4, b5, b6, b7, b8, b9, b10, b11, b12, b13, b14, b15⟩, VRs_get (by rw [hl]; rfl) fun i a v ha hv => ?_⟩
  have hi16 : i < 16 := by
    rcases Nat.lt_or_ge i 16 with h | h
    · exact h
    · rw [List.getElem?_eq_none (by omega)] at hv; cases hv
  have : i = 0 ∨ i = 1 ∨ i = 2 ∨ i = 3 ∨ i = 4 ∨ i = 5 ∨ i = 6 ∨ i = 7 ∨ i = 8 ∨ i = 9 ∨ i = 10 ∨ i = 11 ∨ i = 12 ∨ i = 13 ∨ i = 14 ∨ i = 15 := by omega
  rcases this with rfl | rfl | rfl | rfl | rfl | rfl | rfl | rfl | rfl | rfl | rfl | rfl | rfl | rfl | rfl | rfl
  all_goals
    first
      | rw [g0] at hv | rw [g1] at hv | rw [g2] at hv | rw [g3] at hv | rw [g4] at hv | rw [g5] at hv | rw [g6] at hv | rw [g7] at hv | rw [g8] at hv | rw [g9] at hv | rw [g10] at hv | rw [g11] at hv | rw [g12] at hv | rw [g13] at hv | rw [g14] at hv | rw [g15] at hv
    cases hv
    cases ha
    unfold VR; rfl

theorem rd_entry (h : DataW.trod enc Tryz.prog W base sp held fuel 56 cs = some x) : ∃ e : Entry, VRs (cellsW W) noBM e.cells cs ∧ True := by
  obtain ⟨fs, hfs, f0, f1, f2, f3, f4, f5, f6, h0, h1, h2, h3, h4, h5, h6, t0, t1, t2, t3, t4, t5, t6, o0, o1, o2, o3, o4, o5, o6⟩ :
      ∃ fs : Array Field, Tryz.prog.underlying 56 = some (.struct fs) ∧ ∃ (f0 f1 f2 f3 f4 f5 f6 : Field), fs[0]? = some f0 ∧ fs[1]? = some f1 ∧ fs[2]? = some f2 ∧ fs[3]? = some f3 ∧ fs[4]? = some f4 ∧ fs[5]? = some f5 ∧ fs[6]? = some f6 ∧
        f0.type = 9 ∧ f1.type = 9 ∧ f2.type = 3 ∧ f3.type = 3 ∧ f4.type = 3 ∧ f5.type = 3 ∧ f6.type = 54 ∧ f0.offset = 0 ∧ f1.offset = 1 ∧ f2.offset = 2 ∧ f3.offset = 3 ∧ f4.offset = 4 ∧ f5.offset = 5 ∧ f6.offset = 6 := by
    refine ⟨_, Tryz.underlying56, _, _, _, _, _, _, _, rfl, rfl, rfl, rfl, rfl, rfl, rfl, rfl, rfl, rfl, rfl, rfl, rfl, rfl, rfl, rfl, rfl, rfl, rfl, rfl, rfl⟩
  obtain ⟨xs, n, _, _, hl, hx, hi⟩ := DataW.trod_struct hfs h
  rw [sz51] at hl
  have hsz : 7 ≤ fs.size := (Array.getElem?_eq_some_iff.1 h6).1
  have get : ∀ (i : Nat) (f : Field), fs[i]? = some f → ∃ y, DataW.trod enc Tryz.prog W base sp held n f.type ((cs.drop f.offset).take (Tryz.prog.cellsOf f.type)) = some y := fun i f hf => by
    have h := hi i f hf
    have : i < fs.size := (Array.getElem?_eq_some_iff.1 hf).1
    rw [List.getElem?_eq_getElem (by omega)] at h
    exact ⟨_, h⟩
  have s9 : Tryz.prog.cellsOf 9 = 1 := by kernel_rfl
  have s3 : Tryz.prog.cellsOf 3 = 1 := by kernel_rfl
  obtain ⟨_, y0⟩ := get 0 f0 h0
  obtain ⟨_, y1⟩ := get 1 f1 h1
  obtain ⟨_, y2⟩ := get 2 f2 h2
  obtain ⟨_, y3⟩ := get 3 f3 h3
  obtain ⟨_, y4⟩ := get 4 f4 h4
  obtain ⟨_, y5⟩ := get 5 f5 h5
  obtain ⟨_, y6⟩ := get 6 f6 h6
  rw [t0, o0, s9] at y0
  rw [t1, o1, s9] at y1
  rw [t2, o2, s3] at y2
  rw [t3, o3, s3] at y3
  rw [t4, o4, s3] at y4
  rw [t5, o5, s3] at y5
  rw [t6, o6, sz49] at y6
  obtain ⟨k, e0⟩ := rd_str ty9 y0
  obtain ⟨v, e1⟩ := rd_str ty9 y1
  obtain ⟨n2, e2, _⟩ := rd_int ty3 y2
  obtain ⟨n3, e3, _⟩ := rd_int ty3 y3
  obtain ⟨n4, e4, _⟩ := rd_int ty3 y4
  obtain ⟨n5, e5, _⟩ := rd_int ty3 y5
  obtain ⟨d, e6⟩ := rd_dg y6
  have hcs : cs = [.string ⟨k.toArray⟩, .string ⟨v.toArray⟩, .int .i64 n2, .int .i64 n3, .int .i64 n4, .int .i64 n5] ++ (cs.drop 6).take 16 := by
    have g0 := take_one e0
    have g1 := take_one e1
    have g2 := take_one e2
    have g3 := take_one e3
    have g4 := take_one e4
    have g5 := take_one e5
    apply List.ext_getElem?
    intro i
    have : i = 0 ∨ i = 1 ∨ i = 2 ∨ i = 3 ∨ i = 4 ∨ i = 5 ∨ 6 ≤ i := by omega
    rcases this with rfl | rfl | rfl | rfl | rfl | rfl | h
    · exact g0
    · exact g1
    · exact g2
    · exact g3
    · exact g4
    · exact g5
    · rw [List.getElem?_append_right (by simpa using h)]
      simp only [List.length_cons, List.length_nil]
      rw [List.getElem?_take]
      by_cases h' : i - 6 < 16
      · rw [if_pos h', List.getElem?_drop]
        show cs[i]? = cs[6 + (i - 6)]?
        rw [show 6 + (i - 6) = i by omega]
      · rw [if_neg h', List.getElem?_eq_none (by omega)]
  refine ⟨⟨k, v, n2, n3, n4, n5, d⟩, ?_, trivial⟩
  rw [hcs]
  show VRs (cellsW W) noBM ([.str k, .str v, i64 n2, i64 n3, i64 n4, i64 n5] ++ d.cells) _
  refine VRs_app ?_ e6
  repeat' (first | exact VRs_one (by unfold VR; rfl) | (refine @VRs_app _ _ [_] _ [_] _ (VRs_one (by unfold VR; rfl)) ?_))

/-- A slice of entries. -/
theorem rd_entries (h : DataW.trod enc Tryz.prog W base sp held fuel 22 cs = some x) : ∃ (l : List Entry) (v : Value), cs = [v] ∧ VR (cellsW W) noBM (.lst 22 (l.map Entry.av) false) v := by
  obtain ⟨l, v, h1, h2, _⟩ := rd_slice (g := Entry.cells) (ok := fun _ => True) ty22 sz51 (by decide) (fun fuel cs x h => rd_entry h) h
  exact ⟨l, v, h1, h2⟩
end
end Go.Proofs
/- Arguments as they are read: pages. -/
set_option linter.unusedVariables false
set_option linter.unusedSimpArgs false
namespace Go.Proofs
open Go Go.Abs Go.ChangeShapes Go.WideShapes Go.ChangeAt Go.RowKit
theorem tyPage : ∃ fs : Array Field, Tryz.prog.underlying 25 = some (.struct fs) ∧ ∃ (f0 f1 f2 f3 f4 f5 f6 f7 f8 f9 : Field), fs[0]? = some f0 ∧ fs[1]? = some f1 ∧ fs[2]? = some f2 ∧ fs[3]? = some f3 ∧ fs[4]? = some f4 ∧ fs[5]? = some f5 ∧ fs[6]? = some f6 ∧ fs[7]? = some f7 ∧ fs[8]? = some f8 ∧ fs[9]? = some f9 ∧
    f0.type = 3 ∧ f1.type = 3 ∧ f2.type = 3 ∧ f3.type = 3 ∧ f4.type = 3 ∧ f5.type = 4 ∧ f6.type = 22 ∧ f7.type = 3 ∧ f8.type = 9 ∧ f9.type = 23 ∧ f0.offset = 0 ∧ f1.offset = 1 ∧ f2.offset = 2 ∧ f3.offset = 3 ∧ f4.offset = 4 ∧ f5.offset = 5 ∧ f6.offset = 6 ∧ f7.offset = 7 ∧ f8.offset = 8 ∧ f9.offset = 9 :=
  ⟨_, Tryz.underlying25, _, _, _, _, _, _, _, _, _, _, rfl, rfl, rfl, rfl, rfl, rfl, rfl, rfl, rfl, rfl, rfl, rfl, rfl, rfl, rfl, rfl, rfl, rfl, rfl, rfl, rfl, rfl, rfl, rfl, rfl, rfl, rfl, rfl, rfl, rfl⟩
theorem tyFreed : ∃ fs : Array Field, Tryz.prog.underlying 165 = some (.struct fs) ∧ ∃ (f0 f1 : Field), fs[0]? = some f0 ∧ fs[1]? = some f1 ∧ f0.type = 3 ∧ f1.type = 70 ∧ f0.offset = 0 ∧ f1.offset = 1 :=
  ⟨_, Tryz.underlying165, _, _, rfl, rfl, rfl, rfl, rfl, rfl⟩
theorem tyInts : Tryz.prog.underlying 70 = some (.slice 3) := by kernel_rfl
theorem tyFreeds : Tryz.prog.underlying 23 = some (.slice 165) := by kernel_rfl
theorem szPage : Tryz.prog.cellsOf 25 = 10 := by kernel_rfl
theorem szFreed : Tryz.prog.cellsOf 165 = 2 := by kernel_rfl
theorem s3 : Tryz.prog.cellsOf 3 = 1 := by kernel_rfl
theorem s4 : Tryz.prog.cellsOf 4 = 1 := by kernel_rfl
theorem s9 : Tryz.prog.cellsOf 9 = 1 := by kernel_rfl
theorem sEs : Tryz.prog.cellsOf 22 = 1 := by kernel_rfl
theorem sFs : Tryz.prog.cellsOf 23 = 1 := by kernel_rfl
theorem sIs : Tryz.prog.cellsOf 70 = 1 := by kernel_rfl
theorem ER_ints {S : SM} {m : BM} {sz : Nat} : ∀ {l : List Int} {B q : Nat}, (∀ i k, l[i]? = some k → S B (q + i * sz) = some (.int .i64 k)) → ER S m sz (l.map i64) B q
  | [], _, _, _ => by unfold ER; trivial
  | k :: l, B, q, h => by
    show ER S m sz (i64 k :: l.map i64) B q
    unfold ER
    refine ⟨⟨_, by simpa using h 0 k rfl, by unfold VR; rfl⟩, ER_ints fun i k' he => ?_⟩
    have := h (i + 1) k' (by simpa using he)
    rwa [show q + (i + 1) * sz = q + sz + i * sz by rw [Nat.add_mul]; omega] at this
section
variable {H : Type} {enc : TypeId × Value → H} {W : World} {base : Nat} {sp : Nat → Bool} {held : Bool} {fuel : Nat} {cs : List Value} {x : DataW H × List MemPlace}
theorem rd_ints (h : DataW.trod enc Tryz.prog W base sp held fuel 70 cs = some x) : ∃ (l : List Int) (v : Value), cs = [v] ∧ VR (cellsW W) noBM (.lst 1 (l.map i64) false) v ∧ l.length < 9223372036854775808 := by
  rcases DataW.trod_slice tyInts h with ⟨rfl, _⟩ | ⟨a, len, cap, elems, rest, n, _, rfl, _, hb, hlc, hcm, hel, hi, _, _⟩
  · exact ⟨[], _, rfl, by unfold VR; exact ⟨none, 0, rfl, Nat.le_refl _, (fun h => by cases h), fun h => (h rfl).elim⟩, by decide⟩
  · rw [s3] at hi
    obtain ⟨l, hl, hg⟩ := list_of (p := fun i (k : Int) => W.cells? base (a.add (i * 1)) 1 = some [.int .i64 k]) len fun i hil => by
      have h1 := hi i hil
      have h2 : elems[i]? = some (elems[i]'(by omega)) := List.getElem?_eq_getElem (by omega)
      rw [h2] at h1
      obtain ⟨cs', h3, h4⟩ := Option.bind_eq_some_iff.1 h1
      obtain ⟨k, rfl, _⟩ := rd_int ty3 h4
      exact ⟨k, h3⟩
    refine ⟨l, _, rfl, ?_, by rw [hl]; unfold maxLen at hcm; omega⟩
    unfold VR
    refine ⟨some a, cap, by simp [hl], by simpa [hl] using hlc, (fun h => by cases h), fun hne => ?_⟩
    have hpos : 0 < len := by
      rcases Nat.eq_zero_or_pos len with h | h
      · subst h
        have : l = [] := List.length_eq_zero_iff.1 hl
        subst this
        exact (hne rfl).elim
      · exact h
    have hspot : a.spot = none := by
      have h1 := hg 0 l[0] (List.getElem?_eq_getElem (by omega))
      obtain ⟨_, h3, h4⟩ := World.cells?_some h1
      have h5 := h4 0 (by decide)
      have := World.cell?_spot h5
      simpa [Addr.add] using this
    obtain ⟨B, q, spot⟩ := a
    simp only at hspot
    subst hspot
    refine ⟨B, q, rfl, ER_ints fun i k hk => ?_⟩
    have h1 := hg i k hk
    obtain ⟨_, h3, h4⟩ := World.cells?_some h1
    have h6 := h4 0 (by decide)
    have e7 : ((⟨B, q, none⟩ : Addr).add (i * 1)).add 0 = ⟨B, q + i * 1, none⟩ := by
      unfold Addr.add
      by_cases e1 : i = 0 <;> simp [e1]
    rw [e7] at h6
    exact h6
theorem two_of {v0 v1 : Value} (hl : cs.length = 2) (g0 : cs[0]? = some v0) (g1 : cs[1]? = some v1) : cs = [v0, v1] := by
  match cs, hl with
  | [a, b], _ => simp at g0 g1; rw [g0, g1]
theorem rd_freed (h : DataW.trod enc Tryz.prog W base sp held fuel 165 cs = some x) : ∃ f : Freed, VRs (cellsW W) noBM f.cells cs ∧ (f.Ok ∧ f.pages.length < 9223372036854775808) := by
  obtain ⟨fs, hfs, f0, f1, h0, h1, t0, t1, o0, o1⟩ := tyFreed
  obtain ⟨xs, n, _, _, hl, hx, hi⟩ := DataW.trod_struct hfs h
  rw [szFreed] at hl
  have get : ∀ (i : Nat) (f : Field), fs[i]? = some f → ∃ y, DataW.trod enc Tryz.prog W base sp held n f.type ((cs.drop f.offset).take (Tryz.prog.cellsOf f.type)) = some y := fun i f hf => by
    have h := hi i f hf
    have : i < fs.size := (Array.getElem?_eq_some_iff.1 hf).1
    rw [List.getElem?_eq_getElem (by omega)] at h
    exact ⟨_, h⟩
  obtain ⟨_, y0⟩ := get 0 f0 h0
  obtain ⟨_, y1⟩ := get 1 f1 h1
  rw [t0, o0, s3] at y0
  rw [t1, o1, sIs] at y1
  obtain ⟨k, e0, _⟩ := rd_int ty3 y0
  obtain ⟨l, v, e1, g1, gl⟩ := rd_ints y1
  have hcs := two_of hl (take_one e0) (take_one e1)
  refine ⟨⟨k, ⟨1, false⟩, l⟩, ?_, fun _ => rfl, gl⟩
  rw [hcs]
  exact @VRs_app _ _ [_] _ [_] _ (VRs_one (a := i64 k) (by unfold VR; rfl)) (VRs_one g1)
theorem rd_freeds (h : DataW.trod enc Tryz.prog W base sp held fuel 23 cs = some x) : ∃ (l : List Freed) (v : Value), cs = [v] ∧ VR (cellsW W) noBM (.lst 2 (l.map Freed.av) false) v ∧ ∀ f ∈ l, f.Ok ∧ f.pages.length < 9223372036854775808 := by
  obtain ⟨l, v, h1, h2, h3⟩ := rd_slice (g := Freed.cells) (ok := fun f => f.Ok ∧ f.pages.length < 9223372036854775808) tyFreeds szFreed (by decide) (fun fuel cs x h => rd_freed h) h
  exact ⟨l, v, h1, h2, h3⟩
theorem ten_of {v0 v1 v2 v3 v4 v5 v6 v7 v8 v9 : Value} (hl : cs.length = 10) (g0 : cs[0]? = some v0) (g1 : cs[1]? = some v1) (g2 : cs[2]? = some v2) (g3 : cs[3]? = some v3) (g4 : cs[4]? = some v4) (g5 : cs[5]? = some v5) (g6 : cs[6]? = some v6) (g7 : cs[7]? = some v7) (g8 : cs[8]? = some v8) (g9 : cs[9]? = some v9) : cs = [v0, v1, v2, v3, v4, v5, v6, v7, v8, v9] := by
  match cs, hl with
  | [a, b, c, d, e, f, g, h, i, j], _ => simp at g0 g1 g2 g3 g4 g5 g6 g7 g8 g9; rw [g0, g1, g2, g3, g4, g5, g6, g7, g8, g9]
/-- A page. -/
theorem rd_page (h : DataW.trod enc Tryz.prog W base sp held fuel 25 cs = some x) : ∃ p : Page, VRs (cellsW W) noBM p.cells cs ∧ (p.entries ≠ [] → p.esh.sz = 22) ∧ (p.freed ≠ [] → p.fsh.sz = 2) ∧ ∀ f ∈ p.freed, f.Ok ∧ f.pages.length < 9223372036854775808 := by
  obtain ⟨fs, hfs, f0, f1, f2, f3, f4, f5, f6, f7, f8, f9, h0, h1, h2, h3, h4, h5, h6, h7, h8, h9, t0, t1, t2, t3, t4, t5, t6, t7, t8, t9, o0, o1, o2, o3, o4, o5, o6, o7, o8, o9⟩ := tyPage
  obtain ⟨xs, n, _, _, hl, hx, hi⟩ := DataW.trod_struct hfs h
  rw [szPage] at hl
  have get : ∀ (i : Nat) (f : Field), fs[i]? = some f → ∃ y, DataW.trod enc Tryz.prog W base sp held n f.type ((cs.drop f.offset).take (Tryz.prog.cellsOf f.type)) = some y := fun i f hf => by
    have h := hi i f hf
    have : i < fs.size := (Array.getElem?_eq_some_iff.1 hf).1
    rw [List.getElem?_eq_getElem (by omega)] at h
    exact ⟨_, h⟩
  obtain ⟨_, y0⟩ := get 0 f0 h0
  obtain ⟨_, y1⟩ := get 1 f1 h1
  obtain ⟨_, y2⟩ := get 2 f2 h2
  obtain ⟨_, y3⟩ := get 3 f3 h3
  obtain ⟨_, y4⟩ := get 4 f4 h4
  obtain ⟨_, y5⟩ := get 5 f5 h5
  obtain ⟨_, y6⟩ := get 6 f6 h6
  obtain ⟨_, y7⟩ := get 7 f7 h7
  obtain ⟨_, y8⟩ := get 8 f8 h8
  obtain ⟨_, y9⟩ := get 9 f9 h9
  rw [t0, o0, s3] at y0
  rw [t1, o1, s3] at y1
  rw [t2, o2, s3] at y2
  rw [t3, o3, s3] at y3
  rw [t4, o4, s3] at y4
  rw [t5, o5, s4] at y5
  rw [t6, o6, sEs] at y6
  rw [t7, o7, s3] at y7
  rw [t8, o8, s9] at y8
  rw [t9, o9, sFs] at y9
  obtain ⟨n0, e0, _⟩ := rd_int ty3 y0
  obtain ⟨n1, e1, _⟩ := rd_int ty3 y1
  obtain ⟨n2, e2, _⟩ := rd_int ty3 y2
  obtain ⟨n3, e3, _⟩ := rd_int ty3 y3
  obtain ⟨n4, e4, _⟩ := rd_int ty3 y4
  obtain ⟨b5, e5⟩ := rd_bool ty4 y5
  obtain ⟨es, v6, e6, g6⟩ := rd_entries y6
  obtain ⟨n7, e7, _⟩ := rd_int ty3 y7
  obtain ⟨s8, e8⟩ := rd_str ty9 y8
  obtain ⟨fr, v9, e9, g9, ok9⟩ := rd_freeds y9
  have hcs := ten_of hl (take_one e0) (take_one e1) (take_one e2) (take_one e3) (take_one e4) (take_one e5) (take_one e6) (take_one e7) (take_one e8) (take_one e9)
  refine ⟨⟨n0, n1, n2, n3, n4, b5, ⟨22, false⟩, es, n7, s8, ⟨2, false⟩, fr⟩, ?_, fun _ => rfl, fun _ => rfl, ok9⟩
  rw [hcs]
  show VRs (cellsW W) noBM [i64 n0, i64 n1, i64 n2, i64 n3, i64 n4, .bool b5, .lst 22 (es.map Entry.av) false, i64 n7, .str s8, .lst 2 (fr.map Freed.av) false] _
  have fi : ∀ k : Int, VR (cellsW W) noBM (i64 k) (.int .i64 k) := fun k => by unfold VR; rfl
  have fb : VR (cellsW W) noBM (.bool b5) (.bool b5) := by unfold VR; rfl
  have fs : VR (cellsW W) noBM (.str s8) (.string ⟨s8.toArray⟩) := by unfold VR; rfl
  exact @VRs_app _ _ [_] _ [_] _ (VRs_one (fi n0)) (@VRs_app _ _ [_] _ [_] _ (VRs_one (fi n1)) (@VRs_app _ _ [_] _ [_] _ (VRs_one (fi n2)) (@VRs_app _ _ [_] _ [_] _ (VRs_one (fi n3)) (@VRs_app _ _ [_] _ [_] _ (VRs_one (fi n4)) (@VRs_app _ _ [_] _ [_] _ (VRs_one fb) (@VRs_app _ _ [_] _ [_] _ (VRs_one g6) (@VRs_app _ _ [_] _ [_] _ (VRs_one (fi n7)) (@VRs_app _ _ [_] _ [_] _ (VRs_one fs) (VRs_one g9)))))))))
end
end Go.Proofs
/- The looked-up text of the functions. -/
namespace Go.Proofs
open Go Go.Abs
/- f10 understory/understorylaw04.small: 42 temporaries, depth 6, 1 parameters, results [t2] -/
def c10 : RC :=
 (.seq (.ops [(oP 2 (.mv (.c (.bool false))))])
 (.seq (.seq (.ops [(oP 3 (.mv (.c (.int .i64 0))))])
 (.block 0
 (.loop
 (.seq (.seq (.ops [(mV 4 3),
 (mV 5 0),
 (oP 6 (.lenL (.t 5))),
 (oP 7 (.bin .lss (.t 4) (.t 6))),
 (mV 8 7),
 (oG 9 8 true (.mv (.t 3))),
 (oG 10 8 true (.bin .leq (.t 9) (.c (.int .i64 30)))),
 (oP 11 (.pick (.t 8) (.t 10) (.c (.bool false))))])
 (.cond (.t 11)
 .skip
 (.exit 0)))
 (.seq (.block 1
 (.seq (.ops [(mV 14 0),
 (mV 15 3),
 (oP 16 (.indexAddrL 10 (.t 14) (.t 15))),
 (oP 17 (.fieldAddr 6 (.t 16))),
 (oP 18 (.load false 1 (.t 17))),
 (oP 19 (.callF 24 [(.t 18)])),
 (oP 20 (.un .not (.t 19))),
 (mV 21 20),
 (oG 22 21 false (.mv (.t 0))),
 (oG 23 21 false (.mv (.t 3))),
 (oG 24 21 false (.indexAddrL 10 (.t 22) (.t 23))),
 (oG 25 21 false (.fieldAddr 9 (.t 24))),
 (oG 26 21 false (.load false 1 (.t 25))),
 (oG 27 21 false (.callF 37 [(.t 26)])),
 (oG 28 21 false (.un .not (.t 27))),
 (oP 29 (.pick (.t 21) (.c (.bool true)) (.t 28))),
 (mV 30 29),
 (oG 31 30 false (.mv (.t 0))),
 (oG 32 30 false (.mv (.t 3))),
 (oG 33 30 false (.indexAddrL 10 (.t 31) (.t 32))),
 (oG 34 30 false (.fieldAddr 8 (.t 33))),
 (oG 35 30 false (.load false 1 (.t 34))),
 (oG 36 30 false (.lenS (.t 35))),
 (oG 37 30 false (.bin .gtr (.t 36) (.c (.int .i64 1000)))),
 (oP 38 (.pick (.t 30) (.c (.bool true)) (.t 37)))])
 (.cond (.t 38)
 (.seq (.ops [(oP 2 (.mv (.c (.bool false))))])
 .ret)
 .skip)))
 (.ops [(mV 12 3),
 (oP 13 (.bin .add (.t 12) (.c (.int .i64 1)))),
 (mV 3 13)]))))))
 (.cut (.seq (.ops [(mV 39 0),
 (oP 40 (.lenL (.t 39))),
 (oP 41 (.bin .leq (.t 40) (.c (.int .i64 30)))),
 (mV 2 41)])
 .ret))))
theorem F10 : FI 10 1 42 6 [.tmp 2] c10 := ⟨⟨Tryz.f10, Tryz.func10, by kernel_rfl, by kernel_rfl, by kernel_rfl⟩, by kernel_rfl, by decide, by kernel_rfl⟩
/- f37 understory/understorylaw04.short: 28 temporaries, depth 5, 1 parameters, results [t2] -/
def c37 : RC :=
 (.seq (.ops [(oP 2 (.mv (.c (.bool false))))])
 (.seq (.ops [(oP 3 (.mv (.c (.int .i64 0))))])
 (.seq (.seq (.ops [(oP 4 (.mv (.c (.int .i64 0))))])
 (.block 0
 (.loop
 (.seq (.seq (.ops [(mV 5 4),
 (mV 6 0),
 (oP 7 (.lenL (.t 6))),
 (oP 8 (.bin .lss (.t 5) (.t 7))),
 (mV 9 8),
 (oG 10 9 true (.mv (.t 4))),
 (oG 11 9 true (.bin .leq (.t 10) (.c (.int .i64 300)))),
 (oP 12 (.pick (.t 9) (.t 11) (.c (.bool false))))])
 (.cond (.t 12)
 .skip
 (.exit 0)))
 (.seq (.block 1
 (.seq (.ops [(mV 15 3),
 (mV 16 0),
 (mV 17 4),
 (oP 18 (.indexAddrL 2 (.t 16) (.t 17))),
 (oP 19 (.fieldAddr 1 (.t 18))),
 (oP 20 (.load false 1 (.t 19))),
 (oP 21 (.lenL (.t 20))),
 (oP 22 (.bin .add (.t 15) (.t 21))),
 (mV 3 22)])
 (.seq (.ops [(mV 23 3),
 (oP 24 (.bin .gtr (.t 23) (.c (.int .i64 900))))])
 (.cond (.t 24)
 (.seq (.ops [(oP 2 (.mv (.c (.bool false))))])
 .ret)
 .skip))))
 (.ops [(mV 13 4),
 (oP 14 (.bin .add (.t 13) (.c (.int .i64 1)))),
 (mV 4 14)]))))))
 (.cut (.seq (.ops [(mV 25 0),
 (oP 26 (.lenL (.t 25))),
 (oP 27 (.bin .leq (.t 26) (.c (.int .i64 300)))),
 (mV 2 27)])
 .ret)))))
theorem F37 : FI 37 1 28 5 [.tmp 2] c37 := ⟨⟨Tryz.f37, Tryz.func37, by kernel_rfl, by kernel_rfl, by kernel_rfl⟩, by kernel_rfl, by decide, by kernel_rfl⟩
end Go.Proofs
/- The law PageDamage: small pages. -/
set_option linter.unusedVariables false
set_option linter.unusedSimpArgs false
namespace Go.Proofs
open Go Go.Abs
/-- Lists that are short, as a machine counts. -/
def shortG : List Freed → Int → Bool
  | [], _ => true
  | f :: r, n => if 900 < IntKind.i64.wrap (n + (f.pages.length : Int)) then false else shortG r (IntKind.i64.wrap (n + (f.pages.length : Int)))
def shortB (l : List Freed) : Bool := shortG (l.take 301) 0 && decide (l.length ≤ 300)
def smallB (p : Page) : Bool := few p.entries && (shortB p.freed && decide (p.data.length ≤ 1000))
section
variable {n : Nat} {h : AHeap}
theorem short_eq (hn : 1 ≤ n) (l : List Freed) (sz : Nat) (hz : l ≠ [] → sz = 2) (c : Bool) : C n 37 [.lst sz (l.map Freed.av) c] h = some (.ret (.bool (shortB l)), h) := by
  obtain ⟨m, rfl⟩ : ∃ m, n = m + 1 := ⟨n - 1, by omega⟩
  refine fun_pure F37 rfl rfl rfl (pure_lst freed_pure l rfl) ?_
  conv => whnf
  refine loopI (by decide) rfl (α := Nat × Int) (fun x => ⟨[(0, .lst sz (l.map Freed.av) c), (3, i64 x.2), (4, i64 x.1)], [], []⟩)
    (fun x => (x.1 ≤ l.length ∧ x.1 ≤ 301) ∧ shortG (l.take 301) 0 = shortG ((l.take 301).drop x.1) x.2) (fun x => 301 - x.1) (0, 0) ⟨⟨rfl, rfl, rfl⟩, rfl, rfl⟩ ⟨⟨Nat.zero_le _, by decide⟩, rfl⟩ (by show 301 - 0 < KK; simp only [KK]; omega) ?_
  rintro ⟨j, k⟩ ⟨⟨g1, g0⟩, g2⟩
  simp only at g1 g0 g2
  have stop : ∀ (b : Bool), b = shortB l → frz [] 64 (.bool b) = some (.bool (shortB l)) := fun b e => by rw [e]; rfl
  conv => whnf
  refine brd (fun a => ?_) (fun a => ?_)
  · have hj : j < l.length := by simp at a; omega
    conv => whnf
    refine brd (fun d => ?_) (fun d => ?_)
    · have hj2 : j ≤ 300 := by simp only at d; omega
      have e : (l.take 301).drop j = l[j] :: (l.take 301).drop (j + 1) := by
        have hlt : j < (l.take 301).length := by rw [List.length_take]; omega
        rw [List.drop_eq_getElem_cons hlt, List.getElem_take]
      rw [e] at g2
      simp only [shortG] at g2
      have el : ((l[j].pages.map i64).length : Int) = (l[j].pages.length : Int) := by rw [List.length_map]
      conv => whnf
      refine ixL freed_cells hj hz ?_
      conv => whnf
      refine zI (z := IntKind.i64.wrap (k + (l[j].pages.length : Int))) (by rw [el]) ?_
      conv => whnf
      refine brd (fun q => ?_) (fun q => ?_)
      · conv => whnf
        rw [if_pos q] at g2
        exact retP rfl (frz_bool (by unfold shortB; rw [g2]; rfl))
      · rw [if_neg q] at g2
        conv => whnf
        refine zI (z := ((j + 1 : Nat) : Int)) (by rw [wrap_i64 (by omega) (by omega)]; rfl) ?_
        exact nxI (j + 1, _) ⟨⟨hj, by omega⟩, g2⟩ (by simp only; omega) ⟨⟨rfl, rfl, rfl⟩, rfl, rfl⟩
    · have hj2 : j = 301 := by simp only at d; omega
      conv => whnf
      refine cutI (by decide) rfl (t := ⟨[(0, .lst sz (l.map Freed.av) c)], [], []⟩) ⟨rfl, rfl, rfl⟩ ?_
      conv => whnf
      refine retP rfl (frz_bool ?_)
      unfold shortB
      rw [List.length_map, show decide (l.length ≤ 300) = false by rw [decide_eq_false_iff_not]; omega, Bool.and_false]
      simp; omega
  · have hj : j = l.length := by simp at a; omega
    conv => whnf
    refine cutI (by decide) rfl (t := ⟨[(0, .lst sz (l.map Freed.av) c)], [], []⟩) ⟨rfl, rfl, rfl⟩ ?_
    conv => whnf
    refine retP rfl (frz_bool ?_)
    unfold shortB
    rw [g2, List.drop_of_length_le (by rw [List.length_take]; omega)]
    simp [shortG]; omega
theorem small_eq (hn : 2 ≤ n) (p : Page) (o1 : p.entries ≠ [] → p.esh.sz = 22) (o2 : p.freed ≠ [] → p.fsh.sz = 2) : C n 10 [.lst 10 [p.av] true] h = some (.ret (.bool (smallB p)), h) := by
  obtain ⟨m, rfl⟩ : ∃ m, n = m + 1 := ⟨n - 1, by omega⟩
  have cf : ∀ h, C m 24 [.lst p.esh.sz (p.entries.map Entry.av) p.esh.c] h = some (.ret (.bool (few p.entries)), h) := fun h => few_eq (by omega) _ _ o1 _
  have cs : ∀ h, C m 37 [.lst p.fsh.sz (p.freed.map Freed.av) p.fsh.c] h = some (.ret (.bool (shortB p.freed)), h) := fun h => short_eq (by omega) _ _ o2 _
  have hix : ∀ {q : List AV → Prop}, q p.cells → ∃ y, ([p.av] : List AV)[(0 : Int).toNat]? = some y ∧ ∃ cs, y.cells? = some cs ∧ q cs := fun hq => ⟨p.av, rfl, p.cells, rfl, hq⟩
  refine fun_pure F10 rfl rfl rfl (by simp [pureBs, AV.pureB, page_pure]) ?_
  conv => whnf
  refine loopI (by decide) rfl (α := Nat) (fun x => ⟨[(0, .lst 10 [p.av] true), (3, i64 x)], [], []⟩) (fun x => x ≤ 1 ∧ (x = 1 → smallB p = true)) (fun x => 1 - x) 0 ⟨⟨rfl, rfl⟩, rfl, rfl⟩ ⟨by decide, by simp⟩ (by show 1 - 0 < KK; simp only [KK]; omega) ?_
  rintro j ⟨g1, g2⟩
  obtain rfl | rfl : j = 0 ∨ j = 1 := by omega
  · repeat' (conv => whnf); first
      | refine ⟨by decide, rfl, p.av, rfl, p.cells, rfl, ?_⟩
      | refine clI (cf _) ?_
      | refine clI (cs _) ?_
      | refine zI (z := ((1 : Nat) : Int)) rfl ?_
      | refine retP rfl (frz_bool ?_)
      | refine nxI 1 ⟨by decide, fun _ => ?_⟩ (by decide) ⟨⟨rfl, rfl⟩, rfl, rfl⟩
      | refine brd (fun _ => ?_) (fun _ => ?_)
      | refine bre (fun _ => ?_) (fun _ => ?_)
      | refine brq (fun _ => ?_) (fun _ => ?_)
      | refine brn (fun _ => ?_) (fun _ => ?_)
      | refine br (fun _ => ?_) (fun _ => ?_)
      | refine ldI (by rfl) ?_
      | refine ldI (get_set_last _ _ _) ?_
      | refine ldI (get_last _ _) ?_
      | refine stI (by rfl) (by rfl) (by rfl) (by rfl) (by rfl) ?_
      | refine stI (get_last _ _) (by rfl) (by rfl) (by rfl) (by rfl) ?_
      | refine cutS (by decide) rfl ?_
    all_goals clear cf cs hix
    all_goals unfold smallB
    all_goals simp_all
    all_goals omega
  · conv => whnf
    refine cutI (by decide) rfl (t := ⟨[(0, .lst 10 [p.av] true)], [], []⟩) ⟨rfl, rfl, rfl⟩ ?_
    conv => whnf
    exact retP rfl (frz_bool (by rw [g2 rfl]; rfl))
end
end Go.Proofs
/- The chapter's examples hold: by runs of the small machine. -/
set_option linter.unusedVariables false
set_option linter.unusedSimpArgs false
namespace Go.Proofs
open Go Go.Abs
def ex : AV := .agg [.int .i64 (1), .int .i64 (2), .int .i64 (1), .int .i64 (0), .int .i64 (0), .bool true, .lst 22 [.agg [.str [97, 98], .str [120], .int .i64 (0), .int .i64 (0), .int .i64 (0), .int .i64 (0), .int .u8 (0), .int .u8 (0), .int .u8 (0), .int .u8 (0), .int .u8 (0), .int .u8 (0), .int .u8 (0), .int .u8 (0), .int .u8 (0), .int .u8 (0), .int .u8 (0), .int .u8 (0), .int .u8 (0), .int .u8 (0), .int .u8 (0), .int .u8 (0)], .agg [.str [97, 99], .str [121, 122], .int .i64 (0), .int .i64 (0), .int .i64 (0), .int .i64 (0), .int .u8 (0), .int .u8 (0), .int .u8 (0), .int .u8 (0), .int .u8 (0), .int .u8 (0), .int .u8 (0), .int .u8 (0), .int .u8 (0), .int .u8 (0), .int .u8 (0), .int .u8 (0), .int .u8 (0), .int .u8 (0), .int .u8 (0), .int .u8 (0)]] true, .int .i64 (0), .str [], .lst 0 [] true]
def st : AV := .str [85, 1, 0, 0, 0, 2, 0, 0, 0, 0, 0, 1, 0, 0, 1, 1, 0, 2, 97, 0, 23, 0, 28, 1, 98, 0, 1, 120, 1, 99, 0, 2, 121, 122, 0, 0, 0, 0, 0, 0, 0, 0, 0, 0, 0, 0, 0, 0, 0, 0, 0, 0, 0, 0, 0, 0, 0, 0, 0, 0, 0, 0, 0, 0, 0, 0, 0, 0, 0, 0, 0, 0, 0, 0, 0, 0, 0, 0, 0, 0, 0, 0, 0, 0, 0, 0, 0, 0, 0, 0, 0, 0, 0, 0, 0, 0, 0, 0, 0, 0, 0, 0, 0, 0, 0, 0, 0, 0, 0, 0, 0, 0, 0, 0, 0, 0, 0, 0, 0, 0, 0, 0, 0, 0, 0, 0, 0, 0, 0, 0, 0, 0, 0, 0, 0, 0, 0, 0, 0, 0, 0, 0, 0, 0, 0, 0, 0, 0, 0, 0, 0, 0, 0, 0, 0, 0, 0, 0, 0, 0, 0, 0, 0, 0, 0, 0, 0, 0, 0, 0, 0, 0, 0, 0, 0, 0, 0, 0, 0, 0, 0, 0, 0, 0, 0, 0, 0, 0, 0, 0, 0, 0, 0, 0, 0, 0, 0, 0, 0, 0, 0, 0, 0, 0, 0, 0, 0, 0, 0, 0, 0, 0, 0, 0, 0, 0, 0, 0, 0, 0, 0, 0, 0, 0, 0, 0, 0, 0, 0, 0, 0, 0, 0, 0, 0, 0, 0, 0, 0, 0, 0, 0, 0, 0, 0, 0, 0, 0, 0, 0, 0, 0, 0, 0, 0, 0, 0, 0, 0, 0, 0, 0, 0, 0, 0, 0, 0, 0, 0, 0, 0, 0, 0, 0, 0, 0, 0, 0, 0, 0, 0, 0, 0, 0, 0, 0, 0, 0, 0, 0, 0, 0, 0, 0, 0, 0, 0, 0, 0, 0, 0, 0, 0, 0, 0, 0, 0, 0, 0, 0, 0, 0, 0, 0, 0, 0, 0, 0, 0, 0, 0, 0, 0, 0, 0, 0, 0, 0, 0, 0, 0, 0, 0, 0, 0, 0, 0, 0, 0, 0, 0, 0, 0, 0, 0, 0, 0, 0, 0, 0, 0, 0, 0, 0, 0, 0, 0, 0, 0, 0, 0, 0, 0, 0, 0, 0, 0, 0, 0, 0, 0, 0, 0, 0, 0, 0, 0, 0, 0, 0, 0, 0, 0, 0, 0, 0, 0, 0, 0, 0, 0, 0, 0, 0, 0, 0, 0, 0, 0, 0, 0, 0, 0, 0, 0, 0, 0, 0, 0, 0, 0, 0, 0, 0, 0, 0, 0, 0, 0, 0, 0, 0, 0, 0, 0, 0, 0, 0, 0, 0, 0, 0, 0, 0, 0, 0, 0, 0, 0, 0, 0, 0, 0, 0, 0, 0, 0, 0, 0, 0, 0, 0, 0, 0, 0, 0, 0, 0, 0, 0, 0, 0, 0, 0, 0, 0, 0, 0, 0, 0, 0, 0, 0, 0, 0, 0, 0, 0, 0, 0, 0, 0, 0, 0, 0, 0, 0, 0, 0, 0, 0, 0, 0, 0, 0, 0, 0, 0, 0, 0, 0, 0, 0, 0, 0, 0, 0, 0, 53, 146, 233, 230]

theorem enc_run : CN Tryz.prog cfg1 20 12 [ex] [] = some (.ret (.tup [st, .int .i64 0]), []) := by kernel_rfl
def sum2 : FuncId → List AV → Option AV := fun f args => cond (Nat.beq f 12) (cond (beqVs args [ex]) (some (.tup [st, .int .i64 0])) none) (sum1 f args)
def cfg2 : Cfg := ⟨inl0, sum2⟩
theorem enc_pure : PureCalls Tryz.prog 12 [ex] (.ret (.tup [st, .int .i64 0])) := pure_of_CN sum1_ok rfl enc_run
theorem sum2_ok : SumOk Tryz.prog cfg2 := fun f args v h => by
  change sum2 f args = some v at h
  unfold sum2 at h
  cases hf : Nat.beq f 12 with
  | false => rw [hf] at h; exact sum1_ok f args v h
  | true =>
    rw [hf] at h
    have : f = 12 := Nat.eq_of_beq_eq_true hf
    subst this
    simp only [cond] at h
    cases hb : beqVs args [ex] with
    | false => rw [hb] at h; cases h
    | true =>
      rw [hb] at h
      have := beqVs_eq args hb
      subst this
      cases h
      exact enc_pure
theorem sane_run : CN Tryz.prog cfg2 20 9 [] [] = some (.ret (.bool true), []) := by kernel_rfl
theorem sane_pure : PureCalls Tryz.prog 9 [] (.ret (.bool true)) := pure_of_CN sum2_ok rfl sane_run
end Go.Proofs
/- What is known holds. -/
set_option linter.unusedVariables false
set_option linter.unusedSimpArgs false
namespace Go.Proofs
open Go Go.Abs
theorem sum0_ok : SumOk Tryz.prog cfg0 := fun f args v h => by
  change sum0 f args = some v at h
  unfold sum0 at h
  cases hf : Nat.beq f 9 with
  | false => rw [hf] at h; exact sum1_ok f args v h
  | true =>
    rw [hf] at h
    have : f = 9 := Nat.eq_of_beq_eq_true hf
    subst this
    simp only [cond] at h
    split at h
    · cases h; exact sane_pure
    · cases h
end Go.Proofs
