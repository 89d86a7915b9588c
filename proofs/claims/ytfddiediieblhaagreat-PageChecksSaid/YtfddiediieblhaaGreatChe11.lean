/- Texts put together: Ro, Hc, Hd, Kb, He, Kc, Eb, Ep, Eq, Ka, Ec, Ed, Fz, Ee. -/
import Derived.Test.YtfddiediieblhaaGreatChe10
import Derived.Test.YtfddiediieblhaaGreatChe7
/- Contracts: blocks whose bodies are read. -/
set_option linter.unusedVariables false
set_option linter.unusedSimpArgs false
namespace Go.Proofs
open Go Go.Abs
inductive Bdy where
  | nd (x : NodeP)
  | pc (x : Nat × Str)
  | ls (x : Nat × List (Nat × List Nat))
def pbody (k : Nat) (s : Str) : Option Bdy := if k = 1 ∨ k = 2 then (pnode s).map fun x => .nd x.1 else if k = 3 then (ppiece s).map fun x => .pc x.1 else (plist s).map fun x => .ls x.1
structure Blk where
  kind : Nat
  no : Nat
  ver : Nat
  bd : Bdy
def pread (s : Str) : Option Blk := (pnum 1 ((s.take 508).drop 1)).bind fun k => (pnum 4 k.2).bind fun no => (pnum 6 no.2).bind fun v => (pbody k.1 v.2).map fun b => ⟨k.1, no.1, v.1, b⟩
/-- What a page has that was read. -/
def BdIs (q : Page) : Bdy → Prop
  | .nd x => q.tree = x.tree ∧ q.level = x.lv ∧ q.top = x.top ∧ q.entries = x.es ∧ q.next = 0 ∧ q.data = [] ∧ q.freed = []
  | .pc x => q.tree = 0 ∧ q.level = 0 ∧ q.top = false ∧ q.entries = [] ∧ q.next = x.1 ∧ q.data = x.2 ∧ q.freed = []
  | .ls x => q.tree = 0 ∧ q.level = 0 ∧ q.top = false ∧ q.entries = [] ∧ q.next = x.1 ∧ q.data = [] ∧ FsAre q.freed x.2
structure BlkIs (q : Page) (x : Blk) : Prop where
  kind : q.kind = x.kind
  no : q.no = x.no
  ver : q.ver = x.ver
  bd : BdIs q x.bd
  esz : q.entries ≠ [] → q.esh.sz = 22
  fsz : q.freed ≠ [] → q.fsh.sz = 2
def zeroPg : Page := ⟨0, 0, 0, 0, 0, false, ⟨0, true⟩, [], 0, [], ⟨0, true⟩, []⟩
theorem zeroPg_cells : zeroPg.cells = zeroP := rfl
def ReadS (s : Str) (r : CRes) : Prop := match pread s with
  | none => r = .ret (.tup [.agg zeroP, .bool false])
  | some x => ∃ q : Page, r = .ret (.tup [q.av, .bool true]) ∧ BlkIs q x
theorem gs {h : AHeap} {x y : Nat} {v w : AB} (e : h[x]? = some v) (n : y ≠ x) : (h.set y w)[x]? = some v := by rw [List.getElem?_set_ne n]; exact e
theorem ge {h : AHeap} {x : Nat} {v w : AB} (e : h[x]? = some v) : (h.set x w)[x]? = some w := List.getElem?_set_self (lt_of_get e)
theorem cells_of {xs : List AV} (h : xs.all AV.scal = true) : AV.cells? (.agg xs) = some xs := by
  show (if xs.all AV.scal = true then some xs else none) = _
  rw [if_pos h]
theorem pg_cells {a b c d e g : Int} {f : Bool} {t : Str} {L L' : AV} (h1 : L.scal = true) (h2 : L'.scal = true) : AV.cells? (.agg [i64 a, i64 b, i64 c, i64 d, i64 e, .bool f, L, i64 g, .str t, L']) = some [i64 a, i64 b, i64 c, i64 d, i64 e, .bool f, L, i64 g, .str t, L'] := cells_of (by simp only [List.all_cons, List.all_nil, h1, h2, Bool.and_true]; rfl)
theorem GBuf.one {el : TypeId} {sz : Nat} {h : AHeap} {X : Nat} {L : AV} {rows : List (List AV)} {G : List Nat} (g : GBuf el sz h X L rows G) : L.cells? = some [L] ∧ L.scal = true := by
  rcases g.2 with ⟨rfl, _⟩ | ⟨eb, ver, frz, rfl, _⟩ <;> exact ⟨rfl, rfl⟩
theorem allM_page {h : AHeap} {a b c d e g : Int} {f : Bool} {t : Str} {L M L' M' : AV} (h1 : Abs.frz h 62 L = some M) (h2 : Abs.frz h 62 L' = some M') :
    allM (Abs.frz h 62) [i64 a, i64 b, i64 c, i64 d, i64 e, .bool f, L, i64 g, .str t, L'] = some [i64 a, i64 b, i64 c, i64 d, i64 e, .bool f, M, i64 g, .str t, M'] := by
  have fi : ∀ k : Int, Abs.frz h 62 (i64 k) = some (i64 k) := fun _ => rfl
  have fb : Abs.frz h 62 (.bool f) = some (.bool f) := rfl
  have fs : Abs.frz h 62 (.str t) = some (.str t) := rfl
  simp only [allM, fi, fb, fs, h1, h2]
theorem frz_nil {h : AHeap} : Abs.frz h 62 (.lst 0 [] true) = some (.lst 0 [] true) := rfl
theorem LV.stays' {h h' : AHeap} {Y b : Nat} {LL : AV} {ts : List FT} {G I : List Nat} (v : LV h Y LL ts G I) (hG : ∀ z ∈ G, b ≤ z) (hI : ∀ z ∈ I, b ≤ z) (e : ∀ x, b ≤ x → x < h.length → h'[x]? = h[x]?) : LV h' Y LL ts G I := by
  refine ⟨⟨v.buf.1, ?_⟩, fun t ht => ?_⟩
  · rcases v.buf.2 with r | ⟨eb, ver, frz, h1, h2, h3, h4, rfl⟩
    · exact .inl r
    · exact .inr ⟨eb, ver, frz, h1, by rw [e eb (hG eb (by simp)) (lt_of_get h2)]; exact h2, h3, h4, rfl⟩
  · rcases v.inr t ht with r | ⟨eb, ver, frz, h1, h2, h3⟩
    · exact .inl r
    · exact .inr ⟨eb, ver, frz, h1, by rw [e eb (hI eb h3) (lt_of_get h2)]; exact h2, h3⟩
structure RS (h : AHeap) (cs : List AV) (t : Str) : Prop where
  p : h[0]? = some (.cells 0 (some 25) cs 0)
  i : h[1]? = some (.cells 0 (some 4) [.bool false] 0)
  r : RDs h 2 t
theorem RS.next {h h' : AHeap} {cs : List AV} {t t' : Str} (a : RS h cs t) (k : Keep h h' [2]) (r : RDs h' 2 t') : RS h' cs t' := ⟨k.get a.p (by simp), k.get a.i (by simp), r⟩
theorem RS.set {h : AHeap} {cs cs' : List AV} {t : Str} (a : RS h cs t) : RS (h.set 0 (.cells 0 (some 25) cs' 0)) cs' t := ⟨ge a.p, gs a.i (by decide), a.r.stays (Keep.set (F := [0]) (by simp)) (by simp)⟩
section
variable {m : Nat} {s : Str}
abbrev ReadQ (m : Nat) (s : Str) : Ex → LS → Prop := EndQ Tryz.prog (C m) cfg0.inl [.cell 2 25, .cell 3 4] (fun r h => ∃ r', OutR r' r h ∧ ReadS s r')
abbrev dfR : List DI := [.fn 118 [.ptr 0 0 0, .ptr 1 0 0]]
theorem fine_rec : fnOk Tryz.prog 118 = true := D118.fine
theorem page_ld {h : AHeap} {b : Nat} {cs : List AV} (hl : cs.length = 10) (hb : h[b]? = some (.cells 0 (some 25) cs 0)) : loadA Tryz.prog h 25 (.ptr b 0 0) = some (.agg cs) := load_agg (N := 10) (by kernel_rfl) hl hb
theorem bool_ld {h : AHeap} {b : Nat} {v : AV} (hb : h[b]? = some (.cells 0 (some 4) [v] 0)) : loadA Tryz.prog h 4 (.ptr b 0 0) = some v := load_one (N := 1) (by kernel_rfl) hb
theorem read_fails {L : LT} {h : AHeap} {cs : List AV} (hn : pread s = none) (h2 : lk L 2 = some (.ptr 0 0 0)) (h3 : lk L 3 = some (.ptr 1 0 0)) (hP : h[0]? = some (.cells 0 (some 25) cs 0)) (hc : cs.length = 10) (hI : h[1]? = some (.cells 0 (some 4) [.bool false] 0)) : ReadQ m s (.pan badV) ⟨L, h, dfR⟩ := by
  obtain ⟨h', e, g1, g2⟩ := rec_bad (m := m) hP hc hI
  refine ⟨fine_rec, _, h', e, [.agg zeroP, .bool false], ?_, _, ⟨_, rfl, rfl⟩, ?_⟩
  · simp only [resAL, h2, h3, page_ld rfl g1, bool_ld g2]
  · unfold ReadS
    rw [hn]
    rfl
theorem read_good {L : LT} {h : AHeap} {cs : List AV} (h2 : lk L 2 = some (.ptr 0 0 0)) (h3 : lk L 3 = some (.ptr 1 0 0)) (hP : h[0]? = some (.cells 0 (some 25) cs 0)) (hc : cs.length = 10) (hI : h[1]? = some (.cells 0 (some 4) [.bool true] 0)) {q : Page} (hf : allM (frz h 62) cs = some q.cells) {x : Blk} (hx : pread s = some x) (hq : BlkIs q x) : ReadQ m s .ret ⟨L, h, dfR⟩ := by
  obtain ⟨h', e, rfl⟩ := rec_ret (m := m) (h := h) (P := 0) (I := 1)
  refine ⟨fine_rec, _, h', e, [.agg cs, .bool true], ?_, .ret (.tup [q.av, .bool true]), ⟨_, ?_, rfl⟩, ?_⟩
  · simp only [resAL, h2, h3, page_ld hc hP, bool_ld hI]
  · show frz h' 64 (.tup [.agg cs, .bool true]) = some (.tup [q.av, .bool true])
    have e1 : frz h' 63 (.agg cs) = some q.av := by
      unfold frz
      simp only [hf]
      rfl
    unfold frz allM allM
    simp only [e1]
    rfl
  · unfold ReadS
    rw [hx]
    exact ⟨q, rfl, hq⟩
abbrev pgCells (k no v : Nat) : List AV := [i64 k, i64 no, i64 v, i64 0, i64 0, .bool false, .lst 0 [] true, i64 0, .str [], .lst 0 [] true]
set_option maxRecDepth 10000 in
theorem rest_node (hn : 6 ≤ m) {h3 : AHeap} {k no v : Nat} {t : Str} (a : RS h3 (pgCells k no v) t) (hk : k = 1 ∨ k = 2) (hx : pread s = (pbody k t).map fun b => ⟨k, no, v, b⟩) :
    OkR Tryz.prog (C m) cfg0.inl KK 61 6 (cutOf c67) ⟨[(2, .ptr 0 0 0), (3, .ptr 1 0 0), (4, .ptr 2 0 0)], h3, dfR⟩ (ReadQ m s) := by
  refine cutS (by decide) rfl ?_
  conv => whnf
  refine ldI a.p ?_
  obtain ⟨r4, h4, eB, sB⟩ := node_rd (n := m) (by omega) a.r (k : Int) (by omega)
  have l3 := a.r.lt
  conv => whnf
  cases hp : pnode t with
  | none =>
    rw [hp] at sB
    obtain ⟨rfl, k4⟩ := sB
    refine clP eB ?_
    exact read_fails (by rw [hx]; simp only [pbody, if_pos hk, hp, Option.map_none]) rfl rfl (k4.get a.p (by simp)) rfl (k4.get a.i (by simp))
  | some x =>
    obtain ⟨x, u⟩ := x
    rw [hp] at sB
    obtain ⟨X, L, G, rfl, r4, g4, k4, lX, gG⟩ := sB
    have g1 := g4.one
    have lG := g4.lt lX
    have e0 := k4.get a.p (by simp)
    have eI := k4.get a.i (by simp)
    have l0 := lt_of_get e0
    have l1 := lt_of_get eI
    refine clI eB ?_
    conv => whnf
    refine stI (xs := [i64 x.tree, i64 x.lv, .bool x.top, L]) (get_last _ _) (cells_of (by simp only [List.all_cons, List.all_nil, g1.2, Bool.and_true]; rfl)) (by rfl) (by rfl) (by rfl) ?_
    have es : (h4 ++ [AB.cells 0 (some 178) [i64 0, i64 0, .bool false, .lst 0 [] true] 0]).set h4.length (AB.cells 0 (some 178) (putAt [i64 0, i64 0, .bool false, .lst 0 [] true] 0 [i64 x.tree, i64 x.lv, .bool x.top, L]) 0) = h4 ++ [AB.cells 0 (some 178) [i64 x.tree, i64 x.lv, .bool x.top, L] 0] := by simp [putAt]
    have fin : ∀ hf : AHeap, (∀ y ∈ G, hf[y]? = h4[y]?) → hf[0]? = some (.cells 0 (some 25) [i64 k, i64 no, i64 v, i64 x.tree, i64 x.lv, .bool x.top, L, i64 0, .str [], .lst 0 [] true] 0) → hf[1]? = some (.cells 0 (some 4) [.bool true] 0) → ∀ Lt : LT, lk Lt 2 = some (.ptr 0 0 0) → lk Lt 3 = some (.ptr 1 0 0) → ReadQ m s .ret ⟨Lt, hf, dfR⟩ := fun hf hG hP hI Lt h2 h3 => by
      obtain ⟨sh, f1, f2⟩ := frz_ents (g4.stays fun y hy _ => hG y hy) 60
      exact read_good (x := ⟨k, no, v, .nd x⟩) (q := ⟨k, no, v, x.tree, x.lv, x.top, sh, x.es, 0, [], ⟨0, true⟩, []⟩) h2 h3 hP rfl hI (allM_page f1 frz_nil) (by rw [hx]; simp only [pbody, if_pos hk, hp, Option.map_some]) ⟨rfl, rfl, rfl, ⟨rfl, rfl, rfl, rfl, rfl, rfl, rfl⟩, f2, fun h => (h rfl).elim⟩
    have n0 : (h4.length : Nat) ≠ 0 := by omega
    have n1 : (h4.length : Nat) ≠ 1 := by omega
    have eX := get_set_last h4 (AB.cells 0 (some 178) [i64 0, i64 0, .bool false, .lst 0 [] true] 0) (AB.cells 0 (some 178) (putAt [i64 0, i64 0, .bool false, .lst 0 [] true] 0 [i64 x.tree, i64 x.lv, .bool x.top, L]) 0)
    have eP := gs (w := AB.cells 0 (some 178) (putAt [i64 0, i64 0, .bool false, .lst 0 [] true] 0 [i64 x.tree, i64 x.lv, .bool x.top, L]) 0) (get_app (x := AB.cells 0 (some 178) [i64 0, i64 0, .bool false, .lst 0 [] true] 0) e0) n0
    have eJ := gs (w := AB.cells 0 (some 178) (putAt [i64 0, i64 0, .bool false, .lst 0 [] true] 0 [i64 x.tree, i64 x.lv, .bool x.top, L]) 0) (get_app (x := AB.cells 0 (some 178) [i64 0, i64 0, .bool false, .lst 0 [] true] 0) eI) n1
    conv => whnf
    refine ldI eX ?_
    conv => whnf
    refine ldI eX ?_
    conv => whnf
    refine ldI eX ?_
    conv => whnf
    refine ldI eX ?_
    conv => whnf
    refine stI eP (by rfl) (by rfl) (by rfl) (by rfl) ?_
    conv => whnf
    refine ⟨?_, ?_⟩
    · repeat' (conv => whnf); first | exact ldI (gs eX n0.symm) rfl | refine ⟨?_, ?_⟩
    conv => whnf
    refine stI (ge eP) (by rfl) (by rfl) (by rfl) (by rfl) ?_
    conv => whnf
    refine ⟨?_, ?_⟩
    · repeat' (conv => whnf); first | exact ldI (gs (gs eX n0.symm) n0.symm) rfl | refine ⟨?_, ?_⟩
    conv => whnf
    refine stI (ge (ge eP)) (by rfl) (by rfl) (by rfl) (by rfl) ?_
    conv => whnf
    refine ⟨?_, ?_⟩
    · repeat' (conv => whnf); first | exact ldI (gs (gs (gs eX n0.symm) n0.symm) n0.symm) rfl | refine ⟨?_, ?_⟩
    conv => whnf
    refine stI (ge (ge (ge eP))) g1.1 (by rfl) (by rfl) (by rfl) ?_
    conv => whnf
    refine ldI (ge (ge (ge (ge eP)))) ?_
    conv => whnf
    refine stI (xs := [i64 k, i64 no, i64 v, i64 x.tree, i64 x.lv, .bool x.top, L, i64 0, .str [], .lst 0 [] true]) (ge (ge (ge (ge eP)))) (pg_cells g1.2 rfl) (by rfl) (by rfl) (by rfl) ?_
    conv => whnf
    refine stI (gs (gs (gs (gs (gs eJ (by decide)) (by decide)) (by decide)) (by decide)) (by decide)) (by rfl) (by rfl) (by rfl) (by rfl) ?_
    refine fin _ (fun y hy => ?_) (gs (ge (ge (ge (ge (ge eP))))) (by decide)) (ge (gs (gs (gs (gs (gs eJ (by decide)) (by decide)) (by decide)) (by decide)) (by decide))) _ rfl rfl
    have y1 := gG y hy
    have y2 := lG y hy
    rw [List.getElem?_set_ne (by omega), List.getElem?_set_ne (by omega), List.getElem?_set_ne (by omega), List.getElem?_set_ne (by omega), List.getElem?_set_ne (by omega), List.getElem?_set_ne (by omega), List.getElem?_set_ne (by omega), List.getElem?_append_left y2]
set_option maxRecDepth 10000 in
theorem rest_piece (hn : 6 ≤ m) {h3 : AHeap} {k no v : Nat} {t : Str} (a : RS h3 (pgCells k no v) t) (hk : k = 3) (hx : pread s = (pbody k t).map fun b => ⟨k, no, v, b⟩) :
    OkR Tryz.prog (C m) cfg0.inl KK 61 6 (cutOf c67) ⟨[(2, .ptr 0 0 0), (3, .ptr 1 0 0), (4, .ptr 2 0 0)], h3, dfR⟩ (ReadQ m s) := by
  refine cutS (by decide) rfl ?_
  conv => whnf
  refine ldI a.p ?_
  obtain ⟨r4, h4, eB, sB⟩ := (by rw [hk]; exact piece_rd (n := m) (by omega) a.r : ∃ r h, C m 119 [.ptr 2 0 0, i64 (k : Nat)] h3 = some (r, h) ∧ StepR (ppiece t) (PieceR h3 2) (fun h => Keep h3 h [2]) r h)
  have l3 := a.r.lt
  conv => whnf
  cases hp : ppiece t with
  | none =>
    rw [hp] at sB
    obtain ⟨rfl, k4⟩ := sB
    refine clP eB ?_
    exact read_fails (by rw [hx]; simp only [pbody, if_neg (show ¬(k = 1 ∨ k = 2) by omega), if_pos hk, hp, Option.map_none]) rfl rfl (k4.get a.p (by simp)) rfl (k4.get a.i (by simp))
  | some x =>
    obtain ⟨x, u⟩ := x
    rw [hp] at sB
    obtain ⟨rfl, r4, k4⟩ := sB
    have l4 := k4.1
    have e0 := k4.get a.p (by simp)
    have eI := k4.get a.i (by simp)
    have l0 := lt_of_get e0
    have l1 := lt_of_get eI
    refine clI eB ?_
    conv => whnf
    refine stI (xs := [i64 x.1, .str x.2]) (get_last _ _) (cells_of (by simp only [List.all_cons, List.all_nil,  Bool.and_true]; rfl)) (by rfl) (by rfl) (by rfl) ?_
    have fin : ∀ hf : AHeap, hf[0]? = some (.cells 0 (some 25) [i64 k, i64 no, i64 v, i64 0, i64 0, .bool false, .lst 0 [] true, i64 x.1, .str x.2, .lst 0 [] true] 0) → hf[1]? = some (.cells 0 (some 4) [.bool true] 0) → ∀ Lt : LT, lk Lt 2 = some (.ptr 0 0 0) → lk Lt 3 = some (.ptr 1 0 0) → ReadQ m s .ret ⟨Lt, hf, dfR⟩ := fun hf hP hI Lt h2 h3 => by
      exact read_good (x := ⟨k, no, v, .pc x⟩) (q := ⟨k, no, v, 0, 0, false, ⟨0, true⟩, [], x.1, x.2, ⟨0, true⟩, []⟩) h2 h3 hP rfl hI (allM_page frz_nil frz_nil) (by rw [hx]; simp only [pbody, if_neg (show ¬(k = 1 ∨ k = 2) by omega), if_pos hk, hp, Option.map_some]) ⟨rfl, rfl, rfl, ⟨rfl, rfl, rfl, rfl, rfl, rfl, rfl⟩, fun h => (h rfl).elim, fun h => (h rfl).elim⟩
    have n0 : (h4.length : Nat) ≠ 0 := by omega
    have n1 : (h4.length : Nat) ≠ 1 := by omega
    have eX := get_set_last h4 (AB.cells 0 (some 174) [i64 0, .str []] 0) (AB.cells 0 (some 174) (putAt [i64 0, .str []] 0 [i64 x.1, .str x.2]) 0)
    have eP := gs (w := AB.cells 0 (some 174) (putAt [i64 0, .str []] 0 [i64 x.1, .str x.2]) 0) (get_app (x := AB.cells 0 (some 174) [i64 0, .str []] 0) e0) n0
    have eJ := gs (w := AB.cells 0 (some 174) (putAt [i64 0, .str []] 0 [i64 x.1, .str x.2]) 0) (get_app (x := AB.cells 0 (some 174) [i64 0, .str []] 0) eI) n1
    conv => whnf
    refine ldI eX ?_
    conv => whnf
    refine ldI eX ?_
    conv => whnf
    refine stI eP (by rfl) (by rfl) (by rfl) (by rfl) ?_
    conv => whnf
    refine ⟨?_, ?_⟩
    · repeat' (conv => whnf); first | exact ldI (gs eX n0.symm) rfl | refine ⟨?_, ?_⟩
    conv => whnf
    refine stI (ge eP) (by rfl) (by rfl) (by rfl) (by rfl) ?_
    conv => whnf
    refine ldI (ge (ge eP)) ?_
    conv => whnf
    refine stI (xs := [i64 k, i64 no, i64 v, i64 0, i64 0, .bool false, .lst 0 [] true, i64 x.1, .str x.2, .lst 0 [] true]) (ge (ge eP)) (pg_cells rfl rfl) (by rfl) (by rfl) (by rfl) ?_
    conv => whnf
    refine stI (gs (gs (gs eJ (by decide)) (by decide)) (by decide)) (by rfl) (by rfl) (by rfl) (by rfl) ?_
    exact fin _ (gs (ge (ge (ge eP))) (by decide)) (ge (gs (gs (gs eJ (by decide)) (by decide)) (by decide))) _ rfl rfl
set_option maxRecDepth 10000 in
theorem rest_list (hn : 6 ≤ m) {h3 : AHeap} {k no v : Nat} {t : Str} (a : RS h3 (pgCells k no v) t) (hk : ¬(k = 1 ∨ k = 2)) (hk3 : k ≠ 3) (hx : pread s = (pbody k t).map fun b => ⟨k, no, v, b⟩) :
    OkR Tryz.prog (C m) cfg0.inl KK 61 6 (cutOf c67) ⟨[(2, .ptr 0 0 0), (3, .ptr 1 0 0), (4, .ptr 2 0 0)], h3, dfR⟩ (ReadQ m s) := by
  refine cutS (by decide) rfl ?_
  conv => whnf
  refine ldI a.p ?_
  obtain ⟨r4, h4, eB, sB⟩ := list_rd (n := m) (by omega) a.r (k : Int) (by omega) (by omega) (by omega)
  have l3 := a.r.lt
  conv => whnf
  cases hp : plist t with
  | none =>
    rw [hp] at sB
    obtain ⟨rfl, k4⟩ := sB
    refine clP eB ?_
    exact read_fails (by rw [hx]; simp only [pbody, if_neg hk, if_neg hk3, hp, Option.map_none]) rfl rfl (k4.get a.p (by simp)) rfl (k4.get a.i (by simp))
  | some x =>
    obtain ⟨x, u⟩ := x
    rw [hp] at sB
    obtain ⟨Y, LL, ts, G, I, rfl, hts, r4, lv, k4, gG, gI⟩ := sB
    have l4 := k4.1
    have g1 := lv.buf.one
    have e0 := k4.get a.p (by simp)
    have eI := k4.get a.i (by simp)
    have l0 := lt_of_get e0
    have l1 := lt_of_get eI
    refine clI eB ?_
    conv => whnf
    refine stI (xs := [i64 x.1, LL]) (get_last _ _) (cells_of (by simp only [List.all_cons, List.all_nil, g1.2, Bool.and_true]; rfl)) (by rfl) (by rfl) (by rfl) ?_
    have fin : ∀ hf : AHeap, (∀ y, h3.length ≤ y → y < h4.length → hf[y]? = h4[y]?) → hf[0]? = some (.cells 0 (some 25) [i64 k, i64 no, i64 v, i64 0, i64 0, .bool false, .lst 0 [] true, i64 x.1, .str [], LL] 0) → hf[1]? = some (.cells 0 (some 4) [.bool true] 0) → ∀ Lt : LT, lk Lt 2 = some (.ptr 0 0 0) → lk Lt 3 = some (.ptr 1 0 0) → ReadQ m s .ret ⟨Lt, hf, dfR⟩ := fun hf hE hP hI Lt h2 h3 => by
      obtain ⟨sh, fs, f1, f2, f3⟩ := frz_list (lv.stays' gG gI hE) 59
      rw [← hts] at f3
      exact read_good (x := ⟨k, no, v, .ls x⟩) (q := ⟨k, no, v, 0, 0, false, ⟨0, true⟩, [], x.1, [], sh, fs⟩) h2 h3 hP rfl hI (allM_page frz_nil f1) (by rw [hx]; simp only [pbody, if_neg hk, if_neg hk3, hp, Option.map_some]) ⟨rfl, rfl, rfl, ⟨rfl, rfl, rfl, rfl, rfl, rfl, f3⟩, fun h => (h rfl).elim, f2⟩
    have n0 : (h4.length : Nat) ≠ 0 := by omega
    have n1 : (h4.length : Nat) ≠ 1 := by omega
    have eX := get_set_last h4 (AB.cells 0 (some 176) [i64 0, .lst 0 [] true] 0) (AB.cells 0 (some 176) (putAt [i64 0, .lst 0 [] true] 0 [i64 x.1, LL]) 0)
    have eP := gs (w := AB.cells 0 (some 176) (putAt [i64 0, .lst 0 [] true] 0 [i64 x.1, LL]) 0) (get_app (x := AB.cells 0 (some 176) [i64 0, .lst 0 [] true] 0) e0) n0
    have eJ := gs (w := AB.cells 0 (some 176) (putAt [i64 0, .lst 0 [] true] 0 [i64 x.1, LL]) 0) (get_app (x := AB.cells 0 (some 176) [i64 0, .lst 0 [] true] 0) eI) n1
    conv => whnf
    refine ldI eX ?_
    conv => whnf
    refine ldI eX ?_
    conv => whnf
    refine stI eP (by rfl) (by rfl) (by rfl) (by rfl) ?_
    conv => whnf
    refine ⟨?_, ?_⟩
    · repeat' (conv => whnf); first | exact ldI (gs eX n0.symm) rfl | refine ⟨?_, ?_⟩
    conv => whnf
    refine stI (ge eP) g1.1 (by rfl) (by rfl) (by rfl) ?_
    conv => whnf
    refine ldI (ge (ge eP)) ?_
    conv => whnf
    refine stI (xs := [i64 k, i64 no, i64 v, i64 0, i64 0, .bool false, .lst 0 [] true, i64 x.1, .str [], LL]) (ge (ge eP)) (pg_cells rfl g1.2) (by rfl) (by rfl) (by rfl) ?_
    conv => whnf
    refine stI (gs (gs (gs eJ (by decide)) (by decide)) (by decide)) (by rfl) (by rfl) (by rfl) (by rfl) ?_
    refine fin _ (fun y y1 y2 => ?_) (gs (ge (ge (ge eP))) (by decide)) (ge (gs (gs (gs eJ (by decide)) (by decide)) (by decide))) _ rfl rfl
    rw [List.getElem?_set_ne (by omega), List.getElem?_set_ne (by omega), List.getElem?_set_ne (by omega), List.getElem?_set_ne (by omega), List.getElem?_set_ne (by omega), List.getElem?_append_left y2]
theorem okR_sub {P : Program} {call : CallF} {inl : FuncId → Bool} {k n d : Nat} {rc : RC} {Q : Ex → LS → Prop} {s t : LS} (hs : LS.sub t s) (hw : OkR P call inl k n d rc t Q) : OkR P call inl k n d rc s Q := by
  intro c hc tm H
  obtain ⟨e1, e2, e3⟩ := hs
  have := hw c hc tm (HasL.sub e1 H)
  rw [← e2, ← e3] at this
  exact this
set_option maxRecDepth 10000 in
theorem read_eq (hn : 6 ≤ m) (hl : s.length = 512) : ∃ r, (∀ h, C (m + 1) 67 [.str s] h = some (r, h)) ∧ ReadS s r := by
  refine fun_pureX F67 rfl rfl rfl rfl ?_
  conv => whnf
  refine ⟨rfl, .fn 118 [.ptr 0 0 0, .ptr 1 0 0], rfl, ?_⟩
  conv => whnf
  refine ss_hi (s := s) (c := 508) (by omega) ?_
  have a0 : RS [AB.cells 0 (some 25) zeroP 0, AB.cells 0 (some 4) [.bool false] 0, AB.cells 0 (some tRdr) [.str (s.take 508), i64 ((1 : Nat) : Int)] 0] zeroP ((s.take 508).drop 1) := ⟨rfl, rfl, s.take 508, 1, rfl, by rw [List.length_take]; omega, by rw [List.length_take]; omega, rfl⟩
  conv => whnf
  refine rnumC (n := m) (hp := [AB.cells 0 (some 25) zeroP 0, AB.cells 0 (some 4) [.bool false] 0, AB.cells 0 (some tRdr) [.str (s.take 508), i64 ((1 : Nat) : Int)] 0]) (by omega) a0.r 1 (by omega) (fun h1 qh1 rh1 kh1 => ?_) (fun q => ?_)
  rotate_left
  · exact read_fails (by simp only [pread, pnum, if_neg (Nat.not_le.2 q), Option.bind_none]) rfl rfl a0.p rfl a0.i
  have b1 := a0.next kh1 rh1
  have a1 := b1.set (cs' := putAt zeroP (0 + 0) [i64 (unnum (((s.take 508).drop 1).take 1))])
  conv => whnf
  refine stI b1.p (by rfl) (by rfl) (by rfl) (by rfl) ?_
  conv => whnf
  refine rnumC (n := m) (hp := _) (by omega) a1.r 4 (by omega) (fun h2 qh2 rh2 kh2 => ?_) (fun q => ?_)
  rotate_left
  · exact read_fails (by simp only [pread, pnum, if_pos qh1, Option.bind_some, if_neg (Nat.not_le.2 q), Option.bind_none]) rfl rfl a1.p rfl a1.i
  have b2 := a1.next kh2 rh2
  have a2 := b2.set (cs' := putAt (putAt zeroP (0 + 0) [i64 (unnum (((s.take 508).drop 1).take 1))]) (0 + 1) [i64 (unnum ((((s.take 508).drop 1).drop 1).take 4))])
  conv => whnf
  refine stI b2.p (by rfl) (by rfl) (by rfl) (by rfl) ?_
  conv => whnf
  refine rnumC (n := m) (hp := _) (by omega) a2.r 6 (by omega) (fun h3 qh3 rh3 kh3 => ?_) (fun q => ?_)
  rotate_left
  · exact read_fails (by simp only [pread, pnum, if_pos qh1, if_pos qh2, Option.bind_some, if_neg (Nat.not_le.2 q), Option.bind_none]) rfl rfl a2.p rfl a2.i
  have b3 := a2.next kh3 rh3
  have a3 := b3.set (cs' := pgCells (unnum (((s.take 508).drop 1).take 1)) (unnum ((((s.take 508).drop 1).drop 1).take 4)) (unnum (((((s.take 508).drop 1).drop 1).drop 4).take 6)))
  have hx : pread s = (pbody (unnum (((s.take 508).drop 1).take 1)) (((((s.take 508).drop 1).drop 1).drop 4).drop 6)).map fun b => ⟨unnum (((s.take 508).drop 1).take 1), unnum ((((s.take 508).drop 1).drop 1).take 4), unnum (((((s.take 508).drop 1).drop 1).drop 4).take 6), b⟩ := by
    simp only [pread, pnum, if_pos qh1, if_pos qh2, if_pos qh3, Option.bind_some]
  have key : OkR Tryz.prog (C m) cfg0.inl KK 61 6 (cutOf c67) ⟨[(2, .ptr 0 0 0), (3, .ptr 1 0 0), (4, .ptr 2 0 0)], h3.set 0 (.cells 0 (some 25) (pgCells (unnum (((s.take 508).drop 1).take 1)) (unnum ((((s.take 508).drop 1).drop 1).take 4)) (unnum (((((s.take 508).drop 1).drop 1).drop 4).take 6))) 0), dfR⟩ (ReadQ m s) := by
    by_cases hk : unnum (((s.take 508).drop 1).take 1) = 1 ∨ unnum (((s.take 508).drop 1).take 1) = 2
    · exact rest_node hn a3 hk hx
    · by_cases hk3 : unnum (((s.take 508).drop 1).take 1) = 3
      · exact rest_piece hn a3 hk3 hx
      · exact rest_list hn a3 hk hk3 hx
  conv => whnf
  refine stI b3.p (by rfl) (by rfl) (by rfl) (by rfl) ?_
  refine okR_sub ?_ key
  exact ⟨⟨rfl, rfl, rfl⟩, rfl, rfl⟩
end
end Go.Proofs
/- Contracts: heads, blocks compared. -/
set_option linter.unusedVariables false
set_option linter.unusedSimpArgs false
namespace Go.Proofs
open Go Go.Abs
def Z512 : List AV := match c68 with
  | .seq (.ops (⟨_, _, .op (.alloc _ z)⟩ :: _)) _ => z
  | _ => []
theorem Z_len : Z512.length = 512 := by kernel_rfl
theorem part_all {cs : List AV} {n : Nat} (h : cs.length = n) : partR true n cs 0 = some (.agg cs) := by
  unfold partR
  rw [if_pos rfl, if_pos (by omega), List.drop_zero, List.take_of_length_le (by omega)]
section
variable {n : Nat} {h : AHeap}
set_option maxRecDepth 20000 in
theorem blockOf_eq (hn : 1 ≤ n) (s : Str) (hl : s.length = 512) : C n 68 [.str s] h = some (.ret (.agg (s.map u8)), h) := by
  obtain ⟨m, rfl⟩ : ∃ m, n = m + 1 := ⟨n - 1, by omega⟩
  refine fun_pure F68 rfl rfl rfl rfl ?_
  have d1 : ([AB.cells 0 (some 136) Z512 0, AB.cells 0 (some 136) Z512 0] : AHeap)[1]? = some (.cells 0 (some 136) Z512 0) := rfl
  conv => whnf
  refine ⟨_, _, _, d1, ⟨by rw [Z_len]; decide, by decide⟩, ?_⟩
  refine slI (v := .sl 1 1 0 0 512) rfl ?_
  conv => whnf
  have ec : cpyR [AB.cells 0 (some 136) Z512 0, AB.cells 0 (some 136) Z512 0] 1 (.sl 1 1 0 0 512) (.str s) = some (.int .i64 512, some [AB.cells 0 (some 136) Z512 0, AB.cells 0 (some 136) (s.map u8) 0]) := by
    unfold cpyR
    simp only [slLen, lenA, hl, Nat.min_self]
    have hf : firstA [AB.cells 0 (some 136) Z512 0, AB.cells 0 (some 136) Z512 0] 1 512 (.str s) = some (s.map u8) := by
      have := first_str [AB.cells 0 (some 136) Z512 0, AB.cells 0 (some 136) Z512 0] s
      rwa [hl] at this
    rw [hf]
    simp only
    rw [if_neg (by decide)]
    rw [d1]
    simp only
    rw [if_pos ⟨trivial, trivial, Nat.le_refl _, by rw [List.length_map, hl, Z_len]; decide, u8_scal _⟩]
    have : putAt Z512 0 (s.map u8) = s.map u8 := by
      unfold putAt
      rw [List.take_zero, List.nil_append, List.drop_of_length_le (by rw [Z_len, List.length_map, hl]; decide), List.append_nil]
    rw [this]; rfl
  refine ⟨_, ec, ?_⟩
  conv => whnf
  have e2 : ([AB.cells 0 (some 136) Z512 0, AB.cells 0 (some 136) (s.map u8) 0] : AHeap)[1]? = some (.cells 0 (some 136) (s.map u8) 0) := rfl
  have e1 : ([AB.cells 0 (some 136) Z512 0, AB.cells 0 (some 136) (s.map u8) 0] : AHeap)[0]? = some (.cells 0 (some 136) Z512 0) := rfl
  have hm : (s.map u8).length = 512 := by rw [List.length_map]; exact hl
  have hput : putAt Z512 0 (s.map u8) = s.map u8 := by
    unfold putAt
    rw [List.take_zero, List.nil_append, List.drop_of_length_le (by rw [Z_len, hm]; decide), List.append_nil]
  refine ldI e2 ?_
  refine wpartI (part_all hm) ?_
  conv => whnf
  refine stI (xs := s.map u8) e1 (cells_of (u8_scal _)) hm (by rw [hm, Z_len]; rfl) (by rfl) ?_
  refine ⟨rfl, [.agg (s.map u8)], ?_, ?_⟩
  · have := load_agg (h := ([AB.cells 0 (some 136) Z512 0, AB.cells 0 (some 136) (s.map u8) 0] : AHeap).set 0 (.cells 0 (some 136) (putAt Z512 0 (s.map u8)) 0)) (t := 136) (N := 512) (b := 0) (ver := 0) (el := some 136) (cs := s.map u8) (f := 0) (by kernel_rfl) hm (by rw [hput]; rfl)
    show (match loadA Tryz.prog (([AB.cells 0 (some 136) Z512 0, AB.cells 0 (some 136) (s.map u8) 0] : AHeap).set 0 (.cells 0 (some 136) (putAt Z512 0 (s.map u8)) 0)) 136 (.ptr 0 0 0) with | some v => some [v] | none => none) = _
    rw [this]
  · exact frzOk_agg (n := 63) (fun x hx => by obtain ⟨c, _, rfl⟩ := List.mem_map.1 hx; exact frzOk_int) _
theorem eq_block (a b : Str) (ha : a.length = 512) (hb : b.length = 512) : eqA Tryz.prog 20 136 (.agg (a.map u8)) (.agg (b.map u8)) = some (decide (a = b)) := by
  have e0 : Tryz.prog.underlying 136 = some (.array 512 5) := by kernel_rfl
  obtain ⟨d, e1, e2⟩ : ∃ d, ti Tryz.prog 5 = some d ∧ (isAggD d.desc = false ∧ d.size = 1) := by
    have : (ti Tryz.prog 5).map (fun d => (isAggD d.desc, d.size)) = some (false, 1) := by kernel_rfl
    obtain ⟨d, h1, h2⟩ := Option.map_eq_some_iff.1 this
    simp only [Prod.mk.injEq] at h2
    exact ⟨d, h1, h2⟩
  unfold eqA
  simp only [e0, e1]
  unfold itemsF
  rw [if_pos ⟨e2.1, e2.2, by rw [List.length_map, ha], by rw [List.length_map, hb]⟩]
  simp only
  have e2 : ∀ (x y : UInt8), eqA Tryz.prog 19 5 (.int .u8 x.toNat) (.int .u8 y.toNat) = some (((x.toNat : Nat) : Int) == y.toNat) := fun x y => by kernel_rfl
  exact allEq_u8 (fun x y => by rw [e2, eq_u8]) a b (by rw [ha, hb])
/-- The numbers of a head. -/
def headOf (s : Str) : AV := .tup [i64 (unnum ((s.drop 1).take 1)), i64 (unnum (((s.drop 1).drop 1).take 4)), i64 (unnum ((((s.drop 1).drop 1).drop 4).take 6)), i64 0]
theorem head_good (hn : 4 ≤ n) (s : Str) (hb : headOk s = true) : C n 18 [.str s] h = some (.ret (headOf s), h) := by
  obtain ⟨m, rfl⟩ : ∃ m, n = m + 1 := ⟨n - 1, by omega⟩
  unfold headOk at hb
  simp only [Bool.and_eq_true, decide_eq_true_eq] at hb
  obtain ⟨hl, b0, b1, b2⟩ := hb
  refine fun_pure F18 rfl rfl rfl rfl ?_
  have e0 : s.getD 0 0 = s[0]'(by omega) := by simp [hl]
  have e1 : s.getD 1 0 = s[1]'(by omega) := by simp [hl]
  rw [e0] at b0
  rw [e1] at b2
  have r0 : RDs [AB.cells 0 (some tRdr) [.str s, i64 ((1 : Nat) : Int)] 0] 0 (s.drop 1) := ⟨s, 1, rfl, by omega, by omega, rfl⟩
  conv => whnf
  refine brq (fun a => absurd a (by omega)) (fun _ => ?_)
  conv => whnf
  refine strI (b := s[0]'(by omega)) (by omega) (List.getElem?_eq_getElem (by omega)) ?_
  conv => whnf
  refine brq (fun a => absurd ((u8_eq85 _).2 b0) a) (fun _ => ?_)
  conv => whnf
  refine ss_hi (c := 508) (by omega) ?_
  conv => whnf
  refine clI (ended_eq (n := m) (by omega) (s.take 508) (by rw [List.length_take]; omega)) ?_
  conv => whnf
  refine br (fun a => absurd b1 (by simpa using a)) (fun _ => ?_)
  conv => whnf
  refine strI (b := s[1]'(by omega)) (by omega) (List.getElem?_eq_getElem (by omega)) ?_
  conv => whnf
  refine zI (z := ((s[1]'(by omega)).toNat : Int)) (by have := (s[1]'(by omega)).toNat_lt; exact wrap_i64 (by omega) (by omega)) ?_
  conv => whnf
  refine clI (within_eq (by omega) _ _ _) ?_
  conv => whnf
  refine brn (fun a => by rw [b2] at a; cases a) (fun _ => ?_)
  conv => whnf
  refine rnumC (n := m) (hp := [AB.cells 0 (some tRdr) [.str s, i64 ((1 : Nat) : Int)] 0]) (by omega) r0 1 (by omega) (fun h1 q1 r1 k1 => ?_) (fun q => ?_)
  rotate_left
  · exfalso; rw [List.length_drop] at q; omega
  conv => whnf
  refine rnumC (n := m) (hp := h1) (by omega) r1 4 (by omega) (fun h2 q2 r2 k2 => ?_) (fun q => ?_)
  rotate_left
  · exfalso; simp only [List.length_drop] at q; omega
  conv => whnf
  refine rnumC (n := m) (hp := h2) (by omega) r2 6 (by omega) (fun h3 q3 r3 k3 => ?_) (fun q => ?_)
  rotate_left
  · exfalso; simp only [List.length_drop] at q; omega
  conv => whnf
  exact ⟨rfl, _, rfl, rfl⟩
end
end Go.Proofs
/- What is read is short. -/
set_option linter.unusedVariables false
set_option linter.unusedSimpArgs false
namespace Go.Proofs
open Go Go.Abs
theorem ptext_len {k : Nat} {s a t : Str} (h : ptext k s = some (a, t)) : a.length ≤ s.length ∧ t.length ≤ s.length := by
  unfold ptext at h
  split at h
  · cases h; simp only [List.length_take, List.length_drop]; omega
  · cases h
theorem pnum_len {w v : Nat} {s t : Str} (h : pnum w s = some (v, t)) : t.length ≤ s.length ∧ v < 256 ^ w := by
  unfold pnum at h
  split at h
  · rename_i hl
    cases h
    exact ⟨by rw [List.length_drop]; omega, unnum_lt w _ (by rw [List.length_take]; omega)⟩
  · cases h
theorem psum_len {d : Dg} {s t : Str} (h : psum s = some (d, t)) : t.length ≤ s.length := by
  unfold psum at h
  split at h
  · cases h; rw [List.length_drop]; omega
  · cases h
theorem bind_some' {α β : Type} {o : Option α} {f : α → Option β} {b : β} (h : o.bind f = some b) : ∃ a, o = some a ∧ f a = some b := Option.bind_eq_some_iff.1 h
theorem map_some' {α β : Type} {o : Option α} {f : α → β} {b : β} (h : o.map f = some b) : ∃ a, o = some a ∧ f a = b := Option.map_eq_some_iff.1 h
theorem pcont2_len {key : Str} {long : Nat} {s t : Str} {e : Entry} (h : pcont2 key long s = some (e, t)) : e.key = key ∧ e.val.length ≤ s.length ∧ t.length ≤ s.length := by
  unfold pcont2 at h
  split at h
  · obtain ⟨⟨a, s1⟩, h1, h⟩ := bind_some' h
    obtain ⟨⟨b, s2⟩, h2, h⟩ := bind_some' h
    obtain ⟨⟨d, s3⟩, h3, h⟩ := map_some' h
    cases h
    have := pnum_len h1; have := pnum_len h2; have := psum_len h3
    exact ⟨rfl, Nat.zero_le _, by simp only at *; omega⟩
  · split at h
    · obtain ⟨⟨a, s1⟩, h1, h⟩ := bind_some' h
      obtain ⟨⟨b, s2⟩, h2, h⟩ := bind_some' h
      obtain ⟨⟨d, s3⟩, h3, h⟩ := map_some' h
      cases h
      have := pnum_len h1; have := pnum_len h2; have := psum_len h3
      exact ⟨rfl, Nat.zero_le _, by simp only at *; omega⟩
    · obtain ⟨⟨a, s1⟩, h1, h⟩ := map_some' h
      cases h
      have := ptext_len h1
      exact ⟨rfl, this.1, this.2⟩
theorem pcont_len {key : Str} {lv : Int} {s t : Str} {e : Entry} (h : pcont key lv s = some (e, t)) : e.key = key ∧ e.val.length ≤ s.length ∧ t.length ≤ s.length := by
  unfold pcont at h
  split at h
  · obtain ⟨⟨a, s1⟩, h1, h⟩ := bind_some' h
    have := pnum_len h1
    have := pcont2_len h
    simp only at *
    exact ⟨this.1, by omega, by omega⟩
  · exact pcont2_len h
theorem pents_len {pre : Str} {lv : Int} : ∀ {k i : Nat} {s t : Str} {es : List Entry}, pents pre lv k i s = some (es, t) → es.length = k ∧ ∀ e ∈ es, e.key.length ≤ pre.length + s.length ∧ e.val.length ≤ s.length
  | 0, i, s, t, es, h => by simp [pents] at h; obtain ⟨rfl, rfl⟩ := h; simp
  | k + 1, i, s, t, es, h => by
    simp only [pents] at h
    obtain ⟨⟨e, s1⟩, h1, h⟩ := bind_some' h
    obtain ⟨⟨es', s2⟩, h2, h⟩ := map_some' h
    cases h
    have ih := pents_len h2
    unfold pent at h1
    obtain ⟨⟨a, u1⟩, g1, h1⟩ := bind_some' h1
    obtain ⟨⟨b, u2⟩, g2, h1⟩ := bind_some' h1
    have l1 := pnum_len g1
    have l2 := ptext_len g2
    have l3 := pcont_len h1
    have lk : (preK pre lv i).length ≤ pre.length := by unfold preK; split <;> simp
    simp only at *
    refine ⟨by simp [ih.1], fun x hx => ?_⟩
    rcases List.mem_cons.1 hx with rfl | hx
    · rw [l3.1, List.length_append]
      omega
    · have := ih.2 x hx
      omega
theorem pnode_len {s t : Str} {x : NodeP} (h : pnode s = some (x, t)) : x.es.length < 65536 ∧ ∀ e ∈ x.es, e.key.length ≤ 2 * s.length ∧ e.val.length ≤ s.length := by
  unfold pnode at h
  obtain ⟨⟨a1, s1⟩, h1, h⟩ := bind_some' h
  obtain ⟨⟨a2, s2⟩, h2, h⟩ := bind_some' h
  obtain ⟨⟨a3, s3⟩, h3, h⟩ := bind_some' h
  obtain ⟨⟨a4, s4⟩, h4, h⟩ := bind_some' h
  obtain ⟨⟨a5, s5⟩, h5, h⟩ := bind_some' h
  obtain ⟨⟨a6, s6⟩, h6, h⟩ := bind_some' h
  obtain ⟨⟨a7, s7⟩, h7, h⟩ := bind_some' h
  obtain ⟨⟨es, s8⟩, h8, h⟩ := map_some' h
  cases h
  have l1 := pnum_len h1
  have l2 := pnum_len h2
  have l3 := pnum_len h3
  have l4 := pnum_len h4
  have l5 := pnum_len h5
  have l6 := ptext_len h6
  have l7 := ptext_len h7
  have l8 := pents_len h8
  simp only at *
  refine ⟨by rw [l8.1]; exact l5.2, fun e he => ?_⟩
  have := l8.2 e he
  omega
theorem ppages_len : ∀ {k : Nat} {s t : Str} {ps : List Nat}, ppages k s = some (ps, t) → ps.length = k
  | 0, s, t, es, h => by simp [ppages] at h; obtain ⟨rfl, rfl⟩ := h; rfl
  | k + 1, s, t, es, h => by
    simp only [ppages] at h
    obtain ⟨⟨e, s1⟩, h1, h⟩ := bind_some' h
    obtain ⟨⟨es', s2⟩, h2, h⟩ := map_some' h
    cases h
    simp [ppages_len h2]
theorem pfreeds_len : ∀ {k : Nat} {s t : Str} {l : List (Nat × List Nat)}, pfreeds k s = some (l, t) → l.length = k ∧ ∀ x ∈ l, x.2.length < 65536
  | 0, s, t, es, h => by simp [pfreeds] at h; obtain ⟨rfl, rfl⟩ := h; simp
  | k + 1, s, t, es, h => by
    simp only [pfreeds] at h
    obtain ⟨⟨a1, s1⟩, h1, h⟩ := bind_some' h
    obtain ⟨⟨a2, s2⟩, h2, h⟩ := bind_some' h
    obtain ⟨⟨a3, s3⟩, h3, h⟩ := bind_some' h
    obtain ⟨⟨es', s4⟩, h4, h⟩ := map_some' h
    cases h
    have l2 := pnum_len h2
    have l3 := ppages_len h3
    have ih := pfreeds_len h4
    simp only at *
    refine ⟨by simp [ih.1], fun x hx => ?_⟩
    rcases List.mem_cons.1 hx with rfl | hx
    · simp only; rw [l3]; exact l2.2
    · exact ih.2 x hx
theorem FsAre.ok : ∀ {fs : List Freed} {l : List (Nat × List Nat)}, FsAre fs l → (∀ x ∈ l, x.2.length < 65536) → ∀ f ∈ fs, f.Ok ∧ f.pages.length < 9223372036854775808
  | _, _, .nil, _, f, hf => by cases hf
  | _, _, .cons (t := t) h r, hl, f, hf => by
    rcases List.mem_cons.1 hf with rfl | hf
    · have := hl t (List.mem_cons_self ..)
      refine ⟨h.2.2, ?_⟩
      rw [h.2.1, List.length_map]; omega
    · exact r.ok (fun x hx => hl x (List.mem_cons_of_mem _ hx)) f hf
theorem BlkIs.ok {q : Page} {x : Blk} {s : Str} (hs : s.length = 512) (hx : pread s = some x) (hq : BlkIs q x) : q.Ok := by
  unfold pread at hx
  obtain ⟨⟨a1, s1⟩, h1, h⟩ := bind_some' hx
  obtain ⟨⟨a2, s2⟩, h2, h⟩ := bind_some' h
  obtain ⟨⟨a3, s3⟩, h3, h⟩ := bind_some' h
  obtain ⟨bd, h4, h⟩ := map_some' h
  cases h
  have l0 : ((s.take 508).drop 1).length ≤ 508 := by rw [List.length_drop, List.length_take]; omega
  have l1 := pnum_len h1
  have l2 := pnum_len h2
  have l3 := pnum_len h3
  obtain ⟨_, _, _, hb, esz, fsz⟩ := hq
  simp only at *
  unfold pbody at h4
  split at h4
  · obtain ⟨⟨y, t⟩, g, h⟩ := map_some' h4
    cases h
    have := pnode_len g
    obtain ⟨b1, b2, b3, b4, b5, b6, b7⟩ := hb
    refine ⟨esz, fsz, by rw [b4]; exact Nat.lt_trans this.1 (by decide), by rw [b7]; decide, by rw [b6]; decide, fun e he => ?_, fun f hf => ?_⟩
    · rw [b4] at he
      have := this.2 e he
      exact ⟨by omega, by omega⟩
    · rw [b7] at hf; cases hf
  · split at h4
    · obtain ⟨⟨y, t⟩, g, h⟩ := map_some' h4
      cases h
      obtain ⟨b1, b2, b3, b4, b5, b6, b7⟩ := hb
      unfold ppiece at g
      obtain ⟨⟨c1, t1⟩, g1, g⟩ := bind_some' g
      obtain ⟨⟨c2, t2⟩, g2, g⟩ := bind_some' g
      obtain ⟨⟨c3, t3⟩, g3, g⟩ := map_some' g
      cases g
      have m1 := pnum_len g1
      have m2 := pnum_len g2
      have m3 := ptext_len g3
      simp only at *
      refine ⟨esz, fsz, by rw [b4]; decide, by rw [b7]; decide, by rw [b6]; omega, fun e he => ?_, fun f hf => ?_⟩
      · rw [b4] at he; cases he
      · rw [b7] at hf; cases hf
    · obtain ⟨⟨y, t⟩, g, h⟩ := map_some' h4
      cases h
      obtain ⟨b1, b2, b3, b4, b5, b6, b7⟩ := hb
      unfold plist at g
      obtain ⟨⟨c1, t1⟩, g1, g⟩ := bind_some' g
      obtain ⟨⟨c2, t2⟩, g2, g⟩ := bind_some' g
      obtain ⟨⟨c3, t3⟩, g3, g⟩ := map_some' g
      cases g
      have m2 := pnum_len g2
      have m3 := pfreeds_len g3
      have hlen := b7.length_eq
      simp only at *
      refine ⟨esz, fsz, by rw [b4]; decide, by rw [hlen, m3.1]; exact Nat.lt_trans m2.2 (by decide), by rw [b6]; decide, fun e he => ?_, b7.ok m3.2⟩
      rw [b4] at he; cases he
theorem entry_frz' {n : Nat} (e : Entry) : FrzOk (n + 2) e.av := frzOk_agg (cells_frz e)
theorem freed_frz' {n : Nat} (f : Freed) : FrzOk (n + 3) f.av := frzOk_agg fun x hx => by
  simp only [Freed.cells, List.mem_cons, List.not_mem_nil, or_false] at hx
  rcases hx with rfl | rfl
  · exact frzOk_int
  · exact frzOk_lst fun y hy => by obtain ⟨k, _, rfl⟩ := List.mem_map.1 hy; exact frzOk_int
theorem page_frz' {n : Nat} (q : Page) : FrzOk (n + 5) q.av := frzOk_agg fun x hx => by
  simp only [Page.cells, List.mem_cons, List.not_mem_nil, or_false] at hx
  rcases hx with rfl | rfl | rfl | rfl | rfl | rfl | rfl | rfl | rfl | rfl
  · exact frzOk_int
  · exact frzOk_int
  · exact frzOk_int
  · exact frzOk_int
  · exact frzOk_int
  · exact frzOk_bool
  · exact frzOk_lst fun y hy => by obtain ⟨k, _, rfl⟩ := List.mem_map.1 hy; exact entry_frz' k
  · exact frzOk_int
  · exact frzOk_str
  · exact frzOk_lst fun y hy => by obtain ⟨k, _, rfl⟩ := List.mem_map.1 hy; exact freed_frz' k
end Go.Proofs
/- What was written is read again: numbers, texts, entries. -/
set_option linter.unusedVariables false
set_option linter.unusedSimpArgs false
namespace Go.Proofs
open Go Go.Abs
theorem unnum_from : ∀ (s : Str) (a : Nat), s.foldl (fun n b => n * 256 + b.toNat) a = a * 256 ^ s.length + unnum s
  | [], a => by simp [unnum]
  | c :: s, a => by
    have h1 := unnum_from s (a * 256 + c.toNat)
    have h2 := unnum_from s (0 * 256 + c.toNat)
    show s.foldl (fun n b => n * 256 + b.toNat) (a * 256 + c.toNat) = _
    have h3 : unnum (c :: s) = s.foldl (fun n b => n * 256 + b.toNat) (0 * 256 + c.toNat) := rfl
    rw [h1, h3, h2, List.length_cons, Nat.pow_succ]
    rw [Nat.add_mul, Nat.zero_mul, Nat.zero_add, Nat.mul_assoc, Nat.mul_comm 256, Nat.add_assoc]
theorem unnum_cons (c : UInt8) (s : Str) : unnum (c :: s) = c.toNat * 256 ^ s.length + unnum s := by
  have h : unnum (c :: s) = s.foldl (fun n b => n * 256 + b.toNat) (0 * 256 + c.toNat) := rfl
  rw [h, unnum_from, Nat.zero_mul, Nat.zero_add]
theorem unnum_num (k : Nat) : ∀ w, unnum (num k w) = k % 256 ^ w
  | 0 => by simp [num, unnum, Nat.mod_one]
  | w + 1 => by
    show unnum (UInt8.ofNat (k / 256 ^ w) :: num k w) = _
    rw [unnum_cons, unnum_num k w, num_len, UInt8.toNat_ofNat']
    show k / 256 ^ w % 256 * 256 ^ w + k % 256 ^ w = k % (256 ^ w * 256)
    rw [Nat.mod_mul, Nat.mul_comm, Nat.add_comm]
theorem pnum_num {k w : Nat} (h : k < 256 ^ w) (t : Str) : pnum w (num k w ++ t) = some (k, t) := by
  unfold pnum
  rw [if_pos (by rw [List.length_append, num_len]; omega), List.take_left' (num_len k w), List.drop_left' (num_len k w), unnum_num, Nat.mod_eq_of_lt h]
theorem ptext_app {k : Nat} (s t : Str) (h : s.length = k) : ptext k (s ++ t) = some (s, t) := by
  unfold ptext
  rw [if_pos (by rw [List.length_append]; omega), List.take_left' h, List.drop_left' h]
theorem psum_app (d : Dg) (t : Str) : psum (d.bytes ++ t) = some (d, t) := by
  unfold psum
  rw [if_pos (by rw [List.length_append, d.bytes_len]; omega), List.take_left' d.bytes_len, List.drop_left' d.bytes_len]
  rfl
theorem form_cases {e : Entry} (h : formOf e ≠ 0) : e.key.length ≤ 48 ∧ ((e.over = 0 ∧ e.len = 0 ∧ e.child = 0 ∧ e.count = 0 ∧ e.sum = Dg.zero ∧ e.val.length ≤ 64) ∨ (e.val = [] ∧ e.child = 0 ∧ e.count = 0 ∧ (2 ≤ e.over ∧ e.over ≤ 4095) ∧ (65 ≤ e.len ∧ e.len ≤ 4000)) ∨
    (e.val = [] ∧ e.over = 0 ∧ e.len = 0 ∧ (2 ≤ e.child ∧ e.child ≤ 4095) ∧ (1 ≤ e.count ∧ e.count ≤ 2147483647))) := by
  unfold formOf at h
  split at h
  · exact (h rfl).elim
  · rename_i hk
    have hk' : (e.key.length : Int) ≤ 48 := by
      have : within e.key.length 1 48 = true := by simpa using hk
      exact (within_iff.1 this).2
    refine ⟨by omega, ?_⟩
    split at h
    · rename_i hs
      simp [isShort] at hs
      left
      obtain ⟨⟨⟨⟨⟨a, b⟩, c⟩, d⟩, f⟩, g⟩ := hs
      exact ⟨a, b, c, d, f, g⟩
    · split at h
      · exact (h rfl).elim
      · rename_i hv
        have hv' : e.val = [] := by simpa using hv
        split at h
        · rename_i hl
          simp [isLong, numbered, within] at hl
          right; left
          obtain ⟨⟨⟨a, b⟩, c, d⟩, f, g⟩ := hl
          exact ⟨hv', a, b, ⟨c, d⟩, f, g⟩
        · split at h
          · rename_i hn
            simp [isNest, numbered, within] at hn
            right; right
            obtain ⟨⟨⟨a, b⟩, c, d⟩, f, g⟩ := hn
            exact ⟨hv', a, b, ⟨c, d⟩, f, g⟩
          · exact (h rfl).elim
theorem branch_cases {e : Entry} (h : branches e = true) : e.key.length ≤ 48 ∧ e.val = [] ∧ e.over = 0 ∧ e.len = 0 ∧ (2 ≤ e.child ∧ e.child ≤ 4095) ∧ (1 ≤ e.count ∧ e.count ≤ 2147483647) := by
  simp [branches, numbered, within] at h
  obtain ⟨⟨⟨⟨⟨a, b⟩, c⟩, d⟩, f, g⟩, i, j⟩ := h
  exact ⟨a, b, c, d, ⟨f, g⟩, i, j⟩
theorem pcont_rest {e : Entry} {lv : Int} (h0 : 0 ≤ lv) (hf : if lv = 0 then formOf e ≠ 0 else branches e = true) (t : Str) : pcont e.key lv (restB e lv ++ t) = some (e, t) := by
  obtain ⟨key, val, over, len, child, count, sum⟩ := e
  by_cases hl : lv = 0
  · rw [if_pos hl] at hf
    subst hl
    have hc := (form_cases hf).2
    simp only at hc
    unfold pcont restB
    rw [if_pos rfl, if_neg (by decide)]
    simp only
    rcases hc with ⟨rfl, rfl, rfl, rfl, rfl, hv⟩ | ⟨rfl, rfl, rfl, ho, hn⟩ | ⟨rfl, rfl, rfl, ho, hn⟩
    · rw [if_neg (by decide), if_neg (by decide), List.append_assoc, pnum_num (Nat.lt_of_le_of_lt hv (by decide))]
      simp only [Option.bind_some]
      unfold pcont2
      rw [if_neg (by omega), if_neg (by omega), ptext_app _ _ rfl]
      rfl
    · rw [if_pos (by omega)]
      simp only [List.append_assoc]
      rw [pnum_num (by decide)]
      simp only [Option.bind_some]
      unfold pcont2
      have e1 : over.toNat < 256 ^ 4 := Nat.lt_of_lt_of_le (show over.toNat < 4096 by omega) (by decide)
      have e2 : len.toNat < 256 ^ 2 := Nat.lt_of_lt_of_le (show len.toNat < 4096 by omega) (by decide)
      rw [if_pos rfl, pnum_num e1]
      simp only [Option.bind_some]
      rw [pnum_num e2]
      simp only [Option.bind_some]
      rw [psum_app]
      simp only [Option.map_some]
      rw [show ((over.toNat : Nat) : Int) = over by omega, show ((len.toNat : Nat) : Int) = len by omega]
    · rw [if_neg (by decide), if_pos (by omega)]
      simp only [List.append_assoc]
      rw [pnum_num (by decide)]
      simp only [Option.bind_some]
      unfold pcont2
      have e1 : child.toNat < 256 ^ 4 := Nat.lt_of_lt_of_le (show child.toNat < 4096 by omega) (by decide)
      have e2 : count.toNat < 256 ^ 4 := Nat.lt_of_lt_of_le (show count.toNat < 2147483648 by omega) (by decide)
      rw [if_neg (by decide), if_pos rfl, pnum_num e1]
      simp only [Option.bind_some]
      rw [pnum_num e2]
      simp only [Option.bind_some]
      rw [psum_app]
      simp only [Option.map_some]
      rw [show ((child.toNat : Nat) : Int) = child by omega, show ((count.toNat : Nat) : Int) = count by omega]
  · rw [if_neg hl] at hf
    obtain ⟨_, rfl, rfl, rfl, ho, hn⟩ := branch_cases hf
    simp only at ho hn
    unfold pcont restB
    rw [if_neg hl, if_pos (by omega)]
    simp only [List.append_assoc]
    unfold pcont2
    have e1 : child.toNat < 256 ^ 4 := Nat.lt_of_lt_of_le (show child.toNat < 4096 by omega) (by decide)
    have e2 : count.toNat < 256 ^ 4 := Nat.lt_of_lt_of_le (show count.toNat < 2147483648 by omega) (by decide)
    rw [if_neg (by decide), if_pos rfl, pnum_num e1]
    simp only [Option.bind_some]
    rw [pnum_num e2]
    simp only [Option.bind_some]
    rw [psum_app]
    simp only [Option.map_some]
    rw [show ((child.toNat : Nat) : Int) = child by omega, show ((count.toNat : Nat) : Int) = count by omega]
theorem key_len {e : Entry} {lv : Int} (hf : if lv = 0 then formOf e ≠ 0 else branches e = true) : e.key.length ≤ 48 := by
  split at hf
  · exact (form_cases hf).1
  · exact (branch_cases hf).1
theorem preK_cut {l : List Entry} {lv : Int} (h0 : 0 ≤ lv) {i : Nat} (hi : i < l.length) : preK (shared l lv) lv i ++ l[i].key.drop (cutAt l lv i) = l[i].key := by
  unfold preK cutAt
  by_cases h : i = 0 ∧ 0 < lv
  · rw [if_pos h, if_neg (by omega)]; rfl
  · rw [if_neg h, if_pos (by omega)]
    have hm : l[i] ∈ tailE l lv := by
      unfold tailE
      by_cases hl : 0 < lv
      · rw [if_pos hl]
        have : (l.drop 1)[i - 1]? = some l[i] := by rw [List.getElem?_drop, show 1 + (i - 1) = i by omega]; exact List.getElem?_eq_getElem hi
        exact List.mem_of_getElem? this
      · rw [if_neg hl]; exact List.getElem_mem hi
    obtain ⟨r, hr⟩ := shared_prefix l lv _ hm
    conv => rhs; rw [← hr]
    rw [← hr, List.drop_left]
/-- The entries from one on. -/
def ebF (l : List Entry) (lv : Int) : Nat → Nat → Str
  | 0, _ => []
  | k + 1, i => entB (cutAt l lv i) (l.getD i default) lv ++ ebF l lv k (i + 1)
theorem entsB_from (l : List Entry) (lv : Int) : ∀ (k i : Nat), i + k ≤ l.length → entsB l lv (i + k) = entsB l lv i ++ ebF l lv k i
  | 0, i, _ => by simp [ebF]
  | k + 1, i, h => by
    rw [show i + (k + 1) = (i + 1) + k by omega, entsB_from l lv k (i + 1) (by omega), entsB_succ l lv (by omega), ebF, List.append_assoc, getD_at (show i < l.length by omega)]
theorem pents_enc {l : List Entry} {lv : Int} (hv : valid l lv = true) (t : Str) : ∀ (k i : Nat), i + k = l.length → pents (shared l lv) lv k i (ebF l lv k i ++ t) = some (l.drop i, t)
  | 0, i, h => by
    simp only [pents, ebF, List.nil_append]
    rw [List.drop_of_length_le (by omega)]
  | k + 1, i, h => by
    have hi : i < l.length := by omega
    have hf := (valid_form hv hi).1
    have h0 := (valid_iff.1 hv).1.1
    have hk := key_len hf
    simp only [pents, ebF]
    rw [← getD_at hi, List.append_assoc]
    have e1 : pent (shared l lv) lv i (entB (cutAt l lv i) l[i] lv ++ (ebF l lv k (i + 1) ++ t)) = some (l[i], ebF l lv k (i + 1) ++ t) := by
      unfold pent entB
      simp only [List.append_assoc]
      rw [pnum_num (Nat.lt_of_le_of_lt (show l[i].key.length - cutAt l lv i ≤ 48 by omega) (by decide))]
      simp only [Option.bind_some]
      rw [ptext_app _ _ (by rw [List.length_drop])]
      simp only [Option.bind_some]
      rw [preK_cut h0 hi]
      exact pcont_rest h0 hf _
    rw [e1]
    simp only [Option.bind_some]
    rw [pents_enc hv t k (i + 1) (by omega)]
    simp only [Option.map_some]
    rw [List.drop_eq_getElem_cons hi]
theorem pnode_enc {l : List Entry} {tree lv : Int} {top : Bool} (ht : 0 ≤ tree ∧ tree ≤ 255) (hf : fits l lv = true) (t : Str) : pnode (nodeB tree lv top l 12 ++ t) = some (⟨tree.toNat, lv.toNat, top, l⟩, t) := by
  obtain ⟨_, hv, hlen⟩ := nodeB_len (tree := tree) (top := top) (base := 12) hf
  obtain ⟨⟨q1, q2⟩, _⟩ := valid_iff.1 hv
  have hs := shared_len hv
  unfold pnode nodeB
  simp only [List.append_assoc]
  rw [pnum_num (Nat.lt_of_le_of_lt (show tree.toNat ≤ 255 by omega) (by decide))]
  simp only [Option.bind_some]
  rw [pnum_num (Nat.lt_of_le_of_lt (show lv.toNat ≤ 20 by omega) (by decide))]
  simp only [Option.bind_some]
  rw [pnum_num (by cases top <;> decide)]
  simp only [Option.bind_some]
  rw [pnum_num (Nat.lt_of_le_of_lt hs (by decide))]
  simp only [Option.bind_some]
  rw [pnum_num (Nat.lt_of_le_of_lt hlen (by decide))]
  simp only [Option.bind_some]
  rw [ptext_app _ _ rfl]
  simp only [Option.bind_some]
  rw [ptext_app _ _ (by rw [offsB_len])]
  simp only [Option.bind_some]
  have e := entsB_from l lv l.length 0 (by omega)
  rw [Nat.zero_add] at e
  have e0 : entsB l lv 0 = [] := rfl
  rw [e, e0, List.nil_append, show ((lv.toNat : Nat) : Int) = lv by omega, pents_enc hv t l.length 0 (by omega)]
  simp only [Option.map_some, List.drop_zero]
  cases top <;> rfl
theorem ppiece_enc {next : Int} {data : Str} (hn : 0 ≤ next ∧ next ≤ 4095) (hd : data.length ≤ 490) (t : Str) : ppiece (pieceB next data ++ t) = some ((next.toNat, data), t) := by
  unfold ppiece pieceB
  simp only [List.append_assoc]
  rw [pnum_num (Nat.lt_of_le_of_lt (show next.toNat ≤ 4095 by omega) (by decide))]
  simp only [Option.bind_some]
  rw [pnum_num (Nat.lt_of_le_of_lt hd (by decide))]
  simp only [Option.bind_some]
  rw [ptext_app _ _ rfl]
  rfl
theorem ppages_enc (t : Str) : ∀ {l : List Int}, (∀ x ∈ l, 2 ≤ x ∧ x ≤ 4095) → ppages l.length (pagesB l ++ t) = some (l.map Int.toNat, t)
  | [], _ => rfl
  | x :: l, h => by
    have hx := h x (List.mem_cons_self ..)
    show ppages (l.length + 1) ((num x.toNat 4 ++ pagesB l) ++ t) = _
    simp only [ppages, List.append_assoc]
    rw [pnum_num (Nat.lt_of_le_of_lt (show x.toNat ≤ 4095 by omega) (by decide))]
    simp only [Option.bind_some]
    rw [ppages_enc t fun y hy => h y (List.mem_cons_of_mem _ hy)]
    rfl
def coreF (f : Freed) : Nat × List Nat := (f.ver.toNat, f.pages.map Int.toNat)
theorem pfreeds_enc (t : Str) : ∀ {l : List Freed}, (∀ f ∈ l, (0 ≤ f.ver ∧ f.ver ≤ 1099511627776) ∧ f.pages.length ≤ 4094 ∧ ∀ x ∈ f.pages, 2 ≤ x ∧ x ≤ 4095) → pfreeds l.length (freedsB l ++ t) = some (l.map coreF, t)
  | [], _ => rfl
  | f :: l, h => by
    obtain ⟨hv, hp, hx⟩ := h f (List.mem_cons_self ..)
    show pfreeds (l.length + 1) ((freedB f ++ freedsB l) ++ t) = _
    unfold freedB
    simp only [pfreeds, List.append_assoc]
    rw [pnum_num (Nat.lt_of_le_of_lt (show f.ver.toNat ≤ 1099511627776 by omega) (by decide))]
    simp only [Option.bind_some]
    rw [pnum_num (Nat.lt_of_le_of_lt hp (by decide))]
    simp only [Option.bind_some]
    rw [ppages_enc _ hx]
    simp only [Option.bind_some]
    rw [pfreeds_enc t fun y hy => h y (List.mem_cons_of_mem _ hy)]
    rfl
theorem plist_enc {next : Int} {l : List Freed} (hn : 0 ≤ next ∧ next ≤ 4095) (hok : freedOk l = true) (hlen : l.length ≤ 490) (t : Str) : plist (listB next l ++ t) = some ((next.toNat, l.map coreF), t) := by
  unfold plist listB
  simp only [List.append_assoc]
  rw [pnum_num (Nat.lt_of_le_of_lt (show next.toNat ≤ 4095 by omega) (by decide))]
  simp only [Option.bind_some]
  rw [pnum_num (Nat.lt_of_le_of_lt hlen (by decide))]
  simp only [Option.bind_some]
  rw [pfreeds_enc t fun f hf => by
    obtain ⟨i, hi, rfl⟩ := List.getElem_of_mem hf
    obtain ⟨h1, _, _, h4⟩ := freedOk_at hok hi
    refine ⟨h1, pgs_few h4, fun x hx => ?_⟩
    obtain ⟨j, hj, rfl⟩ := List.getElem_of_mem hx
    exact (pgsOk_at h4 hj).1]
  rfl
def bdOf (p : Page) : Bdy := if p.kind = 3 then .pc (p.next.toNat, p.data) else if p.kind = 4 then .ls (p.next.toNat, p.freed.map coreF) else .nd ⟨p.tree.toNat, p.level.toNat, p.top, p.entries⟩
theorem listed_len (l : List Freed) : 6 + 8 * (l.length : Int) ≤ listed l := by
  induction l with
  | nil => simp [listed]
  | cons f r ih => simp only [listed, List.map_cons, List.sum_cons, List.length_cons] at ih ⊢; omega
/-- A page that was written is read again. -/
theorem pread_enc {p : Page} (hc : p.check = true) : pread p.enc = some ⟨p.kind.toNat, p.no.toNat, p.ver.toNat, bdOf p⟩ := by
  obtain ⟨hno, hver, hk⟩ := check_iff.1 hc
  have e0 : (p.enc.take 508).drop 1 = num p.kind.toNat 1 ++ (num p.no.toNat 4 ++ (num p.ver.toNat 6 ++ (p.bodyB ++ zeros (508 - p.used.length)))) := by
    have : p.enc.take 508 = p.full := by
      unfold Page.enc
      rw [List.take_append_of_le_length (by rw [full_len hc]; decide), List.take_of_length_le (by rw [full_len hc]; decide)]
    rw [this]
    unfold Page.full Page.used Page.headB
    simp only [List.cons_append, List.drop_succ_cons, List.drop_zero, List.append_assoc]
  have hkind : p.kind.toNat ≤ 4 := by omega
  unfold pread
  rw [e0, pnum_num (Nat.lt_of_le_of_lt hkind (by decide))]
  simp only [Option.bind_some]
  rw [pnum_num (Nat.lt_of_le_of_lt (show p.no.toNat ≤ 4095 by omega) (by decide))]
  simp only [Option.bind_some]
  rw [pnum_num (Nat.lt_of_le_of_lt (show p.ver.toNat ≤ 1099511627776 by omega) (by decide))]
  simp only [Option.bind_some]
  have e1 : pbody p.kind.toNat (p.bodyB ++ zeros (508 - p.used.length)) = some (bdOf p) := by
    unfold pbody Page.bodyB bdOf
    rcases hk with ⟨h1, ht, _, hf, _⟩ | ⟨h1, _, hl, hd, _⟩ | ⟨h1, _, hl, _, hok, hs⟩
    · rw [if_pos (by omega), if_neg (by omega), if_neg (by omega), pnode_enc ht hf, if_neg (by omega), if_neg (by omega)]
      rfl
    · rw [if_neg (by omega), if_pos (by omega), if_pos h1, ppiece_enc (linked_nn hl) (by omega), if_pos h1]
      rfl
    · have := listed_len p.freed
      rw [if_neg (by omega), if_neg (by omega), if_neg (by omega), if_pos h1, plist_enc (linked_nn hl) hok (by omega), if_neg (by omega), if_pos h1]
      rfl
  rw [e1]
  rfl
end Go.Proofs
/- Contracts: Decode. -/
set_option linter.unusedVariables false
set_option linter.unusedSimpArgs false
namespace Go.Proofs
open Go Go.Abs
/-- What Decode answers at a block with a right head. -/
def DecS (s : Str) (r : CRes) : Prop := match pread s with
  | none => r = .ret (.tup [.agg zeroP, i64 8])
  | some x => ∃ q : Page, BlkIs q x ∧ q.Ok ∧ r = if q.check = true ∧ q.enc = s then .ret (.tup [q.av, i64 0]) else .ret (.tup [.agg zeroP, i64 8])
section
variable {n : Nat} {s : Str}
theorem page_res {L : LT} {h : AHeap} {cs : List AV} {k : Int} (h2 : lk L 2 = some (.ptr 0 0 0)) (h3 : lk L 3 = some (i64 k)) (hP : h[0]? = some (.cells 0 (some 25) cs 0)) (hc : cs.length = 10) : resAL Tryz.prog L h [.cell 2 25, .tmp 3] = some [.agg cs, i64 k] := by
  simp only [resAL, h2, h3, page_ld hc hP]
theorem zero_frz {h : AHeap} {k : Int} : frz h 64 (.tup [.agg zeroP, i64 k]) = some (.tup [.agg zeroP, i64 k]) := rfl
theorem pg_frz {h : AHeap} {q : Page} {k : Int} : frz h 64 (.tup [q.av, i64 k]) = some (.tup [q.av, i64 k]) := frzOk_tup (n := 63) (fun x hx => by
  simp only [List.mem_cons, List.not_mem_nil, or_false] at hx
  rcases hx with rfl | rfl
  · exact page_frz' q
  · exact frzOk_int) h
theorem decode_eq (hn : 10 ≤ n) (hs : headOk s = true) : ∃ r, (∀ h, C n 14 [.str s] h = some (r, h)) ∧ DecS s r := by
  obtain ⟨m, rfl⟩ : ∃ m, n = m + 1 := ⟨n - 1, by omega⟩
  have hl : s.length = 512 := by
    unfold headOk at hs
    simp only [Bool.and_eq_true, decide_eq_true_eq] at hs
    exact hs.1
  obtain ⟨m', rfl⟩ : ∃ k, m = k + 1 := ⟨m - 1, by omega⟩
  obtain ⟨r, e1, hr⟩ := read_eq (m := m') (s := s) (by omega) hl
  unfold ReadS at hr
  unfold DecS
  have cH : ∀ h, C (m' + 1) 18 [.str s] h = some (.ret (headOf s), h) := fun h => head_good (by omega) s hs
  cases hp : pread s with
  | none =>
    rw [hp] at hr
    simp only at hr
    subst hr
    refine ⟨_, fun h => ?_, rfl⟩
    refine fun_pure F14 rfl rfl rfl rfl ?_
    conv => whnf
    refine clI (cH _) ?_
    conv => whnf
    refine clI (e1 _) ?_
    conv => whnf
    refine stI (xs := zeroP) (by rfl) (by rfl) (by rfl) (by rfl) (by rfl) ?_
    conv => whnf
    refine stI (xs := zeroP) (by rfl) (by rfl) (by rfl) (by rfl) (by rfl) ?_
    exact ⟨rfl, _, page_res rfl rfl rfl rfl, zero_frz⟩
  | some x =>
    rw [hp] at hr
    simp only at hr
    obtain ⟨q, rfl, hq⟩ := hr
    have ok := hq.ok hl hp
    have cC : ∀ h, C (m' + 1) 16 [q.av] h = some (.ret (i64 (if q.check then 0 else 2)), h) := fun h => check_eq (by omega) q ok
    cases hc : q.check with
    | false =>
      rw [hc] at cC
      refine ⟨.ret (.tup [.agg zeroP, i64 8]), fun h => ?_, q, hq, ok, by rw [if_neg (by simp [hc])]⟩
      refine fun_pure F14 rfl rfl rfl rfl ?_
      conv => whnf
      refine clI (cH _) ?_
      conv => whnf
      refine clI (e1 _) ?_
      conv => whnf
      refine stI (xs := q.cells) (by rfl) (by rfl) (by rfl) (by rfl) (by rfl) ?_
      conv => whnf
      refine ldI (by rfl) ?_
      conv => whnf
      refine clI (cC _) ?_
      conv => whnf
      refine stI (xs := zeroP) (by rfl) (by rfl) (by rfl) (by rfl) (by rfl) ?_
      exact ⟨rfl, _, page_res rfl rfl rfl rfl, zero_frz⟩
    | true =>
      rw [hc] at cC
      have cE : ∀ h, C (m' + 1) 12 [q.av] h = some (.ret (.tup [.str q.enc, i64 0]), h) := fun h => by
        rw [encode_eq (by omega) q ok, hc]; rfl
      have cB1 : ∀ h, C (m' + 1) 68 [.str q.enc] h = some (.ret (.agg (q.enc.map u8)), h) := fun h => blockOf_eq (by omega) _ (enc_len hc)
      have cB2 : ∀ h, C (m' + 1) 68 [.str s] h = some (.ret (.agg (s.map u8)), h) := fun h => blockOf_eq (by omega) _ hl
      have walk : ∀ (r : CRes), r = (if q.enc = s then .ret (.tup [q.av, i64 0]) else .ret (.tup [.agg zeroP, i64 8])) → ∀ h, C (m' + 1 + 1) 14 [.str s] h = some (r, h) := fun r er h => by
        obtain ⟨v, ev⟩ : ∃ v, r = .ret v := by
          rw [er]; split <;> exact ⟨_, rfl⟩
        rw [ev]
        rw [ev] at er
        refine fun_pure F14 rfl rfl rfl rfl ?_
        conv => whnf
        refine clI (cH _) ?_
        conv => whnf
        refine clI (e1 _) ?_
        conv => whnf
        refine stI (xs := q.cells) (by rfl) (by rfl) (by rfl) (by rfl) (by rfl) ?_
        conv => whnf
        refine ldI (by rfl) ?_
        conv => whnf
        refine clI (cC _) ?_
        conv => whnf
        refine ldI (by rfl) ?_
        conv => whnf
        refine clI (cE _) ?_
        conv => whnf
        refine clI (cB1 _) ?_
        conv => whnf
        refine clI (cB2 _) ?_
        conv => whnf
        refine eqI (eq_block _ _ (enc_len hc) hl) ?_
        conv => whnf
        refine brn (fun a => ?_) (fun a => ?_)
        · have a' : ¬ q.enc = s := of_decide_eq_false a
          rw [if_neg a'] at er
          cases er
          conv => whnf
          refine stI (xs := zeroP) (by rfl) (by rfl) (by rfl) (by rfl) (by rfl) ?_
          exact ⟨rfl, _, page_res rfl rfl rfl rfl, zero_frz⟩
        · have a' : q.enc = s := of_decide_eq_true a
          rw [if_pos a'] at er
          cases er
          conv => whnf
          refine ldI (by rfl) ?_
          conv => whnf
          refine stI (xs := q.cells) (by rfl) (by rfl) (by rfl) (by rfl) (by rfl) ?_
          exact ⟨rfl, _, page_res rfl rfl rfl rfl, pg_frz⟩
      refine ⟨_, walk _ rfl, q, hq, ok, ?_⟩
      by_cases a : q.enc = s
      · rw [if_pos a, if_pos ⟨hc, a⟩]
      · rw [if_neg a, if_neg (fun h => a h.2)]
end
end Go.Proofs
/- Decode answers a block that Encode wrote with its page. -/
set_option linter.unusedVariables false
set_option linter.unusedSimpArgs false
namespace Go.Proofs
open Go Go.Abs
def Freed.core (f : Freed) : Int × List Int := (f.ver, f.pages)
/-- Pages that read alike. -/
structure Same (p q : Page) : Prop where
  kind : q.kind = p.kind
  no : q.no = p.no
  ver : q.ver = p.ver
  tree : q.tree = p.tree
  level : q.level = p.level
  top : q.top = p.top
  entries : q.entries = p.entries
  next : q.next = p.next
  data : q.data = p.data
  freed : q.freed.map Freed.core = p.freed.map Freed.core
theorem core_len {a b : List Freed} (h : a.map Freed.core = b.map Freed.core) : a.length = b.length := by
  have := congrArg List.length h
  simpa using this
theorem core_at {a b : List Freed} (h : a.map Freed.core = b.map Freed.core) (k : Nat) : (a.getD k default).ver = (b.getD k default).ver ∧ (a.getD k default).pages = (b.getD k default).pages := by
  have hl := core_len h
  by_cases hk : k < a.length
  · have hk' : k < b.length := by omega
    have h1 : (a.map Freed.core)[k]? = (b.map Freed.core)[k]? := by rw [h]
    rw [List.getElem?_map, List.getElem?_map, List.getElem?_eq_getElem hk, List.getElem?_eq_getElem hk'] at h1
    have h2 : a[k].core = b[k].core := Option.some.inj h1
    have e1 : a.getD k default = a[k] := by simp [hk]
    have e2 : b.getD k default = b[k] := by simp [hk']
    rw [e1, e2]
    exact ⟨congrArg Prod.fst h2, congrArg Prod.snd h2⟩
  · have e1 : a.getD k default = default := by simp [List.getElem?_eq_none (show a.length ≤ k by omega)]
    have e2 : b.getD k default = default := by simp [List.getElem?_eq_none (show b.length ≤ k by omega)]
    rw [e1, e2]
    exact ⟨rfl, rfl⟩
theorem freedOk_core {a b : List Freed} (h : a.map Freed.core = b.map Freed.core) : freedOk a = freedOk b := by
  unfold freedOk
  rw [core_len h]
  congr 1
  funext k
  unfold frAt
  rw [(core_at h k).1, (core_at h k).2, (core_at h (k - 1)).1]
theorem listed_core {a b : List Freed} (h : a.map Freed.core = b.map Freed.core) : listed a = listed b := by
  have e : ∀ l : List Freed, (l.map fun f => 8 + 4 * (f.pages.length : Int)) = (l.map Freed.core).map fun c => 8 + 4 * (c.2.length : Int) := fun l => by rw [List.map_map]; rfl
  unfold listed
  rw [e a, e b, h]
theorem freedsB_core {a b : List Freed} (h : a.map Freed.core = b.map Freed.core) : freedsB a = freedsB b := by
  have e : ∀ l : List Freed, freedsB l = (l.map Freed.core).flatMap fun c => num c.1.toNat 6 ++ (num c.2.length 2 ++ pagesB c.2) := fun l => by
    induction l with
    | nil => rfl
    | cons f r ih =>
      simp only [freedsB, List.flatMap_cons, List.map_cons] at ih ⊢
      rw [ih]; rfl
  rw [e a, e b, h]
theorem Same.check {p q : Page} (h : Same p q) : q.check = p.check := by
  unfold Page.check Page.plain
  rw [h.kind, h.no, h.ver, h.tree, h.level, h.top, h.entries, h.next, h.data, freedOk_core h.freed, listed_core h.freed, core_len h.freed]
theorem Same.enc {p q : Page} (h : Same p q) : q.enc = p.enc := by
  have e : q.full = p.full := by
    unfold Page.full Page.used Page.headB Page.bodyB listB
    rw [h.kind, h.no, h.ver, h.tree, h.level, h.top, h.entries, h.next, h.data, freedsB_core h.freed, core_len h.freed]
  unfold Page.enc
  rw [e]
theorem ints_back : ∀ {l : List Int}, (∀ x ∈ l, 0 ≤ x) → (l.map Int.toNat).map (fun p : Nat => (p : Int)) = l
  | [], _ => rfl
  | x :: l, h => by
    have hx := h x (List.mem_cons_self ..)
    simp only [List.map_cons]
    rw [ints_back fun y hy => h y (List.mem_cons_of_mem _ hy), show ((x.toNat : Nat) : Int) = x by omega]
theorem fs_core : ∀ {fs l : List Freed}, FsAre fs (l.map coreF) → (∀ f ∈ l, 0 ≤ f.ver ∧ ∀ x ∈ f.pages, 0 ≤ x) → fs.map Freed.core = l.map Freed.core
  | fs, [], h, _ => by cases h; rfl
  | fs, f :: l, h, hl => by
    cases h with
    | cons h1 h2 =>
      rename_i g gs
      have hf := hl f (List.mem_cons_self ..)
      simp only [List.map_cons]
      rw [fs_core h2 fun y hy => hl y (List.mem_cons_of_mem _ hy)]
      congr 1
      unfold Freed.core
      rw [h1.1, h1.2.1]
      have e1 : ((coreF f).1 : Int) = f.ver := by show ((f.ver.toNat : Nat) : Int) = _; omega
      have e2 : (coreF f).2.map (fun p : Nat => (p : Int)) = f.pages := ints_back hf.2
      rw [e1, e2]
theorem same_of {p q : Page} (hc : p.check = true) (hq : BlkIs q ⟨p.kind.toNat, p.no.toNat, p.ver.toNat, bdOf p⟩) : Same p q := by
  obtain ⟨hno, hver, hk⟩ := check_iff.1 hc
  obtain ⟨q1, q2, q3, q4, _, _⟩ := hq
  simp only at q1 q2 q3 q4
  unfold bdOf at q4
  rcases hk with ⟨h1, ht, _, hf, hn, hd, hfr⟩ | ⟨h1, hp, hl, hd, hfr⟩ | ⟨h1, hp, hl, hd, hok, hs⟩
  · rw [if_neg (by omega), if_neg (by omega)] at q4
    obtain ⟨b1, b2, b3, b4, b5, b6, b7⟩ := q4
    have hlv := (valid_iff.1 (nodeB_len (tree := 0) (top := true) (base := 12) hf).2.1).1.1
    exact ⟨by omega, by omega, by omega, by simp only at b1; omega, by simp only at b2; omega, b3, b4, by omega, by rw [b6, hd], by rw [b7, hfr]⟩
  · rw [if_pos h1] at q4
    obtain ⟨b1, b2, b3, b4, b5, b6, b7⟩ := q4
    have hnx := (linked_nn hl).1
    simp [Page.plain] at hp
    obtain ⟨p1, p2, p3, p4⟩ := hp
    exact ⟨by omega, by omega, by omega, by omega, by omega, by rw [b3, p3], by rw [b4, p4], by simp only at b5; omega, b6, by rw [b7, hfr]⟩
  · rw [if_neg (by omega), if_pos h1] at q4
    obtain ⟨b1, b2, b3, b4, b5, b6, b7⟩ := q4
    have hnx := (linked_nn hl).1
    simp [Page.plain] at hp
    obtain ⟨p1, p2, p3, p4⟩ := hp
    refine ⟨by omega, by omega, by omega, by omega, by omega, by rw [b3, p3], by rw [b4, p4], by simp only at b5; omega, by rw [b6, hd], fs_core b7 fun f hf => ?_⟩
    obtain ⟨i, hi, rfl⟩ := List.getElem_of_mem hf
    obtain ⟨g1, _, _, g4⟩ := freedOk_at hok hi
    refine ⟨g1.1, fun x hx => ?_⟩
    obtain ⟨j, hj, rfl⟩ := List.getElem_of_mem hx
    have := (pgsOk_at g4 hj).1
    omega
theorem headOk_enc {p : Page} (hc : p.check = true) : headOk p.enc = true := by
  obtain ⟨hno, hver, hk⟩ := check_iff.1 hc
  have h1 : p.enc.take 508 = p.full := by
    unfold Page.enc
    rw [List.take_append_of_le_length (by rw [full_len hc]; decide), List.take_of_length_le (by rw [full_len hc]; decide)]
  have h2 : p.enc.getD 0 0 = 85 := rfl
  have h3 : p.enc.getD 1 0 = UInt8.ofNat (p.kind.toNat / 256 ^ 0) := rfl
  have h4 : (UInt8.ofNat (p.kind.toNat / 256 ^ 0)).toNat = p.kind.toNat := by
    rw [UInt8.toNat_ofNat']
    simp
    omega
  unfold headOk
  rw [h1, h2, h3, h4, enc_len hc]
  have h5 : p.full ++ crcB p.full = p.enc := rfl
  rw [h5]
  simp [within]
  omega
/-- Decode behind Encode. -/
theorem decode_enc {n : Nat} (hn : 10 ≤ n) {p : Page} (hc : p.check = true) : ∃ q : Page, Same p q ∧ q.Ok ∧ ∀ h, C n 14 [.str p.enc] h = some (.ret (.tup [q.av, i64 0]), h) := by
  obtain ⟨r, e1, e2⟩ := decode_eq hn (headOk_enc hc)
  unfold DecS at e2
  rw [pread_enc hc] at e2
  obtain ⟨q, hq, ok, e3⟩ := e2
  have hs := same_of hc hq
  rw [if_pos ⟨by rw [hs.check, hc], hs.enc⟩] at e3
  subst e3
  exact ⟨q, hs, ok, e1⟩
end Go.Proofs
/- Contracts: the reference's entries. -/
set_option linter.unusedVariables false
set_option linter.unusedSimpArgs false
namespace Go.Proofs
open Go Go.Abs
theorem put_mid {a : Nat} {t : Str} {c : UInt8} : putAt ((List.replicate (a + 1) (0 : UInt8) ++ t).map u8) a [u8 c] = (List.replicate a (0 : UInt8) ++ c :: t).map u8 := by
  unfold putAt
  simp only [List.map_append, List.map_replicate, List.map_cons, List.length_singleton]
  rw [List.take_append_of_le_length (by simp), List.take_replicate, List.drop_append_of_le_length (by simp), List.drop_replicate, Nat.min_eq_left (by omega), Nat.sub_self]
  simp
section
variable {n : Nat} {h : AHeap}
theorem isPage_eq (hn : 1 ≤ n) (k : Int) : C n 50 [i64 k] h = some (.ret (.bool (numbered k)), h) := by
  obtain ⟨m, rfl⟩ : ∃ m, n = m + 1 := ⟨n - 1, by omega⟩
  refine fun_pure F50 rfl rfl rfl rfl ?_
  repeat' (conv => whnf); first
    | refine retP rfl (frz_bool ?_)
    | refine brd (fun _ => ?_) (fun _ => ?_)
    | refine bre (fun _ => ?_) (fun _ => ?_)
    | refine brq (fun _ => ?_) (fun _ => ?_)
    | refine brn (fun _ => ?_) (fun _ => ?_)
    | refine br (fun _ => ?_) (fun _ => ?_)
    | refine ldI (by rfl) ?_
    | refine ldI (get_set_last _ _ _) ?_
    | refine ldI (get_last _ _) ?_
    | refine stI (by rfl) (by rfl) (by rfl) (by rfl) (by rfl) ?_
    | refine stI (get_last _ _) (by rfl) (by rfl) (by rfl) (by rfl) ?_
    | refine cutS (by decide) rfl ?_
  all_goals simp_all [numbered, within]
  all_goals omega
theorem count_eq (hn : 1 ≤ n) (k : Int) : C n 165 [i64 k] h = some (.ret (.bool (within k 1 2147483647)), h) := by
  obtain ⟨m, rfl⟩ : ∃ m, n = m + 1 := ⟨n - 1, by omega⟩
  refine fun_pure F165 rfl rfl rfl rfl ?_
  repeat' (conv => whnf); first
    | refine retP rfl (frz_bool ?_)
    | refine brd (fun _ => ?_) (fun _ => ?_)
    | refine bre (fun _ => ?_) (fun _ => ?_)
    | refine brq (fun _ => ?_) (fun _ => ?_)
    | refine brn (fun _ => ?_) (fun _ => ?_)
    | refine br (fun _ => ?_) (fun _ => ?_)
    | refine ldI (by rfl) ?_
    | refine ldI (get_set_last _ _ _) ?_
    | refine ldI (get_last _ _) ?_
    | refine stI (by rfl) (by rfl) (by rfl) (by rfl) (by rfl) ?_
    | refine stI (get_last _ _) (by rfl) (by rfl) (by rfl) (by rfl) ?_
    | refine cutS (by decide) rfl ?_
  all_goals simp_all [within]
  all_goals omega
end
end Go.Proofs
/- The reference's reader, in plain Lean. -/
set_option linter.unusedVariables false
set_option linter.unusedSimpArgs false
namespace Go.Proofs
open Go Go.Abs
/-- What is yet to be read, and whether there was too little. -/
abbrev RT : Type := Str × Bool
def rtake (k : Nat) (t : RT) : Str × RT := if t.1.length < k ∨ t.2 = true then ([], t.1, true) else (t.1.take k, t.1.drop k, false)
def rnum (w : Nat) (t : RT) : Nat × RT := (unnum (rtake w t).1, (rtake w t).2)
def rsum (t : RT) : Dg × RT := (dgOf (rtake 16 t).1, (rtake 16 t).2)
def rnest (key : Str) (t : RT) : Entry × RT := (⟨key, [], 0, 0, (rnum 4 t).1, (rnum 4 (rnum 4 t).2).1, (rsum (rnum 4 (rnum 4 t).2).2).1⟩, (rsum (rnum 4 (rnum 4 t).2).2).2)
def rlong (key : Str) (t : RT) : Entry × RT := (⟨key, [], (rnum 4 t).1, (rnum 2 (rnum 4 t).2).1, 0, 0, (rsum (rnum 2 (rnum 4 t).2).2).1⟩, (rsum (rnum 2 (rnum 4 t).2).2).2)
def rshort (key : Str) (m : Nat) (t : RT) : Entry × RT := (⟨key, (rtake m t).1, 0, 0, 0, 0, Dg.zero⟩, (rtake m t).2)
def rcont (key : Str) (m : Nat) (t : RT) : Entry × RT := if m = 65534 then rnest key t else if m = 65535 then rlong key t else rshort key m t
def rkey (pre : Str) (lv : Int) (first : Bool) (k : Str) : Str := if lv = 0 ∨ first = false then pre ++ k else k
def rent (pre : Str) (lv : Int) (first : Bool) (t : RT) : Entry × RT :=
  if 0 < lv then rcont (rkey pre lv first (rtake (rnum 1 t).1 (rnum 1 t).2).1) 65534 (rtake (rnum 1 t).1 (rnum 1 t).2).2
  else rcont (rkey pre lv first (rtake (rnum 1 t).1 (rnum 1 t).2).1) (rnum 2 (rtake (rnum 1 t).1 (rnum 1 t).2).2).1 (rnum 2 (rtake (rnum 1 t).1 (rnum 1 t).2).2).2
def rents (pre : Str) (lv : Int) : Nat → Nat → RT → List Entry × RT
  | 0, _, t => ([], t)
  | k + 1, i, t => if t.2 = true then ([], t) else ((rent pre lv (decide (i = 0)) t).1 :: (rents pre lv k (i + 1) (rent pre lv (decide (i = 0)) t).2).1, (rents pre lv k (i + 1) (rent pre lv (decide (i = 0)) t).2).2)
def rpages : Nat → RT → List Nat × RT
  | 0, t => ([], t)
  | k + 1, t => if t.2 = true then ([], t) else ((rnum 4 t).1 :: (rpages k (rnum 4 t).2).1, (rpages k (rnum 4 t).2).2)
def rfreed (t : RT) : (Nat × List Nat) × RT := (((rnum 6 t).1, (rpages (rnum 2 (rnum 6 t).2).1 (rnum 2 (rnum 6 t).2).2).1), (rpages (rnum 2 (rnum 6 t).2).1 (rnum 2 (rnum 6 t).2).2).2)
def rfreeds : Nat → RT → List (Nat × List Nat) × RT
  | 0, t => ([], t)
  | k + 1, t => if t.2 = true then ([], t) else ((rfreed t).1 :: (rfreeds k (rfreed t).2).1, (rfreeds k (rfreed t).2).2)
theorem rtake_len (k : Nat) (t : RT) : (rtake k t).1.length ≤ t.1.length ∧ (rtake k t).2.1.length ≤ t.1.length ∧ (rtake k t).1.length ≤ k := by
  unfold rtake
  split
  · simp
  · simp; omega
theorem rnum_len (w : Nat) (t : RT) : (rnum w t).2.1.length ≤ t.1.length := (rtake_len w t).2.1
theorem rnum_lt (w : Nat) (t : RT) : (rnum w t).1 < 256 ^ w := by
  have h := unnum_lt _ (rtake w t).1 rfl
  have h2 := (rtake_len w t).2.2
  exact Nat.lt_of_lt_of_le h (Nat.pow_le_pow_right (by decide) h2)
theorem rsum_len (t : RT) : (rsum t).2.1.length ≤ t.1.length := (rtake_len 16 t).2.1
theorem rcont_len (key : Str) (m : Nat) (t : RT) : (rcont key m t).1.key = key ∧ (rcont key m t).1.val.length ≤ t.1.length ∧ (rcont key m t).2.1.length ≤ t.1.length := by
  unfold rcont
  split
  · refine ⟨rfl, Nat.zero_le _, ?_⟩
    exact Nat.le_trans (rsum_len _) (Nat.le_trans (rnum_len 4 _) (rnum_len 4 _))
  · split
    · refine ⟨rfl, Nat.zero_le _, ?_⟩
      exact Nat.le_trans (rsum_len _) (Nat.le_trans (rnum_len 2 _) (rnum_len 4 _))
    · exact ⟨rfl, (rtake_len m t).1, (rtake_len m t).2.1⟩
theorem rkey_len (pre : Str) (lv : Int) (first : Bool) (k : Str) : (rkey pre lv first k).length ≤ pre.length + k.length := by
  unfold rkey
  split <;> simp
theorem rent_len (pre : Str) (lv : Int) (first : Bool) (t : RT) : (rent pre lv first t).1.key.length ≤ pre.length + t.1.length ∧ (rent pre lv first t).1.val.length ≤ t.1.length ∧ (rent pre lv first t).2.1.length ≤ t.1.length := by
  have h1 := rnum_len 1 t
  have h2 := rtake_len (rnum 1 t).1 (rnum 1 t).2
  have h3 := rkey_len pre lv first (rtake (rnum 1 t).1 (rnum 1 t).2).1
  have h4 := rnum_len 2 (rtake (rnum 1 t).1 (rnum 1 t).2).2
  unfold rent
  split
  · have := rcont_len (rkey pre lv first (rtake (rnum 1 t).1 (rnum 1 t).2).1) 65534 (rtake (rnum 1 t).1 (rnum 1 t).2).2
    exact ⟨by rw [this.1]; omega, by omega, by omega⟩
  · have := rcont_len (rkey pre lv first (rtake (rnum 1 t).1 (rnum 1 t).2).1) (rnum 2 (rtake (rnum 1 t).1 (rnum 1 t).2).2).1 (rnum 2 (rtake (rnum 1 t).1 (rnum 1 t).2).2).2
    exact ⟨by rw [this.1]; omega, by omega, by omega⟩
theorem rents_len {pre : Str} {lv : Int} {M : Nat} : ∀ (k i : Nat) (t : RT), t.1.length ≤ M → (rents pre lv k i t).1.length ≤ k ∧ ∀ e ∈ (rents pre lv k i t).1, e.key.length ≤ pre.length + M ∧ e.val.length ≤ M
  | 0, i, t, h => ⟨Nat.le_refl _, fun e he => by cases he⟩
  | k + 1, i, t, h => by
    unfold rents
    split
    · exact ⟨Nat.zero_le _, fun e he => by cases he⟩
    · have h1 := rent_len pre lv (decide (i = 0)) t
      have h2 := rents_len (pre := pre) (lv := lv) k (i + 1) (rent pre lv (decide (i = 0)) t).2 (Nat.le_trans h1.2.2 h)
      refine ⟨by simp only [List.length_cons]; omega, fun e he => ?_⟩
      rcases List.mem_cons.1 he with rfl | he
      · exact ⟨by omega, by omega⟩
      · exact h2.2 e he
theorem rpages_len : ∀ (k : Nat) (t : RT), (rpages k t).1.length ≤ k
  | 0, t => Nat.le_refl _
  | k + 1, t => by
    unfold rpages
    split
    · exact Nat.zero_le _
    · have := rpages_len k (rnum 4 t).2
      simp only [List.length_cons]; omega
theorem rfreeds_len : ∀ (k : Nat) (t : RT), (rfreeds k t).1.length ≤ k ∧ ∀ x ∈ (rfreeds k t).1, x.2.length < 65536
  | 0, t => ⟨Nat.le_refl _, fun x hx => by cases hx⟩
  | k + 1, t => by
    unfold rfreeds
    split
    · exact ⟨Nat.zero_le _, fun x hx => by cases hx⟩
    · have h1 := rfreeds_len k (rfreed t).2
      refine ⟨by simp only [List.length_cons]; omega, fun x hx => ?_⟩
      rcases List.mem_cons.1 hx with rfl | hx
      · have h2 := rpages_len (rnum 2 (rnum 6 t).2).1 (rnum 2 (rnum 6 t).2).2
        have h3 := rnum_lt 2 (rnum 6 t).2
        show (rpages (rnum 2 (rnum 6 t).2).1 (rnum 2 (rnum 6 t).2).2).1.length < 65536
        omega
      · exact h1.2 x hx
/-! Where the parser reads, the reference reads the same. -/
theorem rtake_of {k : Nat} {s a t : Str} (h : ptext k s = some (a, t)) : rtake k (s, false) = (a, t, false) := by
  unfold ptext at h
  split at h
  · rename_i hk
    cases h
    unfold rtake
    rw [if_neg (by simp; omega)]
  · cases h
theorem rnum_of {w k : Nat} {s t : Str} (h : pnum w s = some (k, t)) : rnum w (s, false) = (k, t, false) := by
  unfold pnum at h
  split at h
  · rename_i hk
    cases h
    unfold rnum rtake
    rw [if_neg (by simp; omega)]
  · cases h
theorem rsum_of {d : Dg} {s t : Str} (h : psum s = some (d, t)) : rsum (s, false) = (d, t, false) := by
  unfold psum at h
  split at h
  · rename_i hk
    cases h
    unfold rsum rtake
    rw [if_neg (by simp; omega)]
  · cases h
theorem rcont_of {key : Str} {m : Nat} {s t : Str} {e : Entry} (h : pcont2 key m s = some (e, t)) : rcont key m (s, false) = (e, t, false) := by
  unfold pcont2 at h
  unfold rcont
  split at h
  · rename_i hm
    subst hm
    rw [if_neg (by decide), if_pos rfl]
    obtain ⟨⟨a, s1⟩, h1, h⟩ := bind_some' h
    obtain ⟨⟨b, s2⟩, h2, h⟩ := bind_some' h
    obtain ⟨⟨d, s3⟩, h3, h⟩ := map_some' h
    cases h
    unfold rlong
    rw [rnum_of h1, rnum_of h2, rsum_of h3]
  · split at h
    · rename_i hm
      subst hm
      rw [if_pos rfl]
      obtain ⟨⟨a, s1⟩, h1, h⟩ := bind_some' h
      obtain ⟨⟨b, s2⟩, h2, h⟩ := bind_some' h
      obtain ⟨⟨d, s3⟩, h3, h⟩ := map_some' h
      cases h
      unfold rnest
      rw [rnum_of h1, rnum_of h2, rsum_of h3]
    · rename_i h1 h2
      rw [if_neg h2, if_neg h1]
      obtain ⟨⟨a, s1⟩, h1, h⟩ := map_some' h
      cases h
      unfold rshort
      rw [rtake_of h1]
theorem rkey_of (pre : Str) (lv : Int) (i : Nat) (k : Str) : rkey pre lv (decide (i = 0)) k = preK pre lv i ++ k := by
  unfold rkey preK
  by_cases h : 0 < i ∨ lv = 0
  · rw [if_pos h, if_pos]
    rcases h with h | h
    · right; simp; omega
    · left; exact h
  · rw [if_neg h, if_neg]
    · rfl
    · simp; omega
theorem rent_of {pre : Str} {lv : Int} (h0 : 0 ≤ lv) {i : Nat} {s t : Str} {e : Entry} (h : pent pre lv i s = some (e, t)) : rent pre lv (decide (i = 0)) (s, false) = (e, t, false) := by
  unfold pent at h
  obtain ⟨⟨a, s1⟩, h1, h⟩ := bind_some' h
  obtain ⟨⟨b, s2⟩, h2, h⟩ := bind_some' h
  simp only at h2 h
  unfold rent
  rw [rnum_of h1]
  simp only
  rw [rtake_of h2]
  simp only
  rw [rkey_of]
  unfold pcont at h
  by_cases hl : lv = 0
  · rw [if_pos hl] at h
    rw [if_neg (by omega)]
    obtain ⟨⟨c, s3⟩, h3, h⟩ := bind_some' h
    rw [rnum_of h3]
    exact rcont_of h
  · rw [if_neg hl] at h
    rw [if_pos (by omega)]
    exact rcont_of h
theorem rents_of {pre : Str} {lv : Int} (h0 : 0 ≤ lv) : ∀ {k i : Nat} {s t : Str} {es : List Entry}, pents pre lv k i s = some (es, t) → rents pre lv k i (s, false) = (es, t, false)
  | 0, i, s, t, es, h => by
    simp only [pents] at h
    cases h
    rfl
  | k + 1, i, s, t, es, h => by
    simp only [pents] at h
    obtain ⟨⟨a, s1⟩, h1, h⟩ := bind_some' h
    obtain ⟨⟨b, s2⟩, h2, h⟩ := map_some' h
    cases h
    unfold rents
    rw [if_neg (by simp), rent_of h0 h1]
    simp only
    rw [rents_of h0 h2]
theorem rpages_of : ∀ {k : Nat} {s t : Str} {ps : List Nat}, ppages k s = some (ps, t) → rpages k (s, false) = (ps, t, false)
  | 0, s, t, ps, h => by
    simp only [ppages] at h
    cases h
    rfl
  | k + 1, s, t, ps, h => by
    simp only [ppages] at h
    obtain ⟨⟨a, s1⟩, h1, h⟩ := bind_some' h
    obtain ⟨⟨b, s2⟩, h2, h⟩ := map_some' h
    cases h
    unfold rpages
    rw [if_neg (by simp), rnum_of h1]
    simp only
    rw [rpages_of h2]
theorem rfreeds_of : ∀ {k : Nat} {s t : Str} {l : List (Nat × List Nat)}, pfreeds k s = some (l, t) → rfreeds k (s, false) = (l, t, false)
  | 0, s, t, l, h => by
    simp only [pfreeds] at h
    cases h
    rfl
  | k + 1, s, t, l, h => by
    simp only [pfreeds] at h
    obtain ⟨⟨v, s1⟩, h1, h⟩ := bind_some' h
    obtain ⟨⟨m, s2⟩, h2, h⟩ := bind_some' h
    obtain ⟨⟨ps, s3⟩, h3, h⟩ := bind_some' h
    obtain ⟨⟨b, s4⟩, h4, h⟩ := map_some' h
    cases h
    have e : rfreed (s, false) = ((v, ps), s3, false) := by
      unfold rfreed
      rw [rnum_of h1]
      simp only
      rw [rnum_of h2]
      simp only
      rw [rpages_of h3]
    unfold rfreeds
    rw [if_neg (by simp), e]
    simp only
    rw [rfreeds_of h4]
end Go.Proofs
/- Plain facts for the reference: what it encodes, what is no block of a page. -/
set_option linter.unusedVariables false
set_option linter.unusedSimpArgs false
namespace Go.Proofs
open Go Go.Abs
theorem decode_no {n : Nat} (hn : 10 ≤ n) {s : Str} (hno : ∀ p : Page, p.Ok → p.check = true → p.enc ≠ s) (h : AHeap) : C n 14 [.str s] h = some (.ret (.tup [.agg zeroP, i64 8]), h) := by
  cases hs : headOk s with
  | false => exact decode_bad (by omega) s hs
  | true =>
    obtain ⟨r, e1, e2⟩ := decode_eq hn hs
    rw [e1]
    unfold DecS at e2
    cases hp : pread s with
    | none => rw [hp] at e2; simp only at e2; rw [e2]
    | some x =>
      rw [hp] at e2
      obtain ⟨q, hq, ok, e3⟩ := e2
      rw [if_neg (fun c => hno q ok c.1 c.2)] at e3
      rw [e3]
theorem crcB_num (s : Str) : crcB s = (num (crc s).toNat 4).reverse := rfl
theorem cp_self : ∀ x : Str, cp x x = x.length
  | [] => rfl
  | a :: x => by simp [cp, cp_self x]
theorem pre2_self (x : Str) : pre2 x x = x := by
  unfold pre2
  rw [cp_self, List.take_length]
theorem shared_fold (l : List Entry) (lv : Int) : (tailE l lv).foldl (fun p e => pre2 p e.key) ((tailE l lv).headD default).key = shared l lv := by
  unfold shared
  generalize tailE l lv = t
  cases t with
  | nil => rfl
  | cons a r => simp only [List.foldl_cons, pre2_self, List.drop_succ_cons, List.drop_zero, List.headD_cons]
theorem form_range (e : Entry) : formOf e = 0 ∨ formOf e = 1 ∨ formOf e = 2 ∨ formOf e = 3 := by
  unfold formOf
  repeat' split
  all_goals simp
def branchE (e : Entry) : Bool := numbered e.child && within e.count 1 2147483647 && e.val == [] && e.over == 0 && e.len == 0
theorem branch_split (e : Entry) : branches e = (decide (e.key.length ≤ 48) && branchE e) := by
  unfold branches branchE
  cases decide (e.key.length ≤ 48) <;> cases numbered e.child <;> cases within e.count 1 2147483647 <;> cases (e.val == []) <;> cases (e.over == 0) <;> cases (e.len == 0) <;> rfl
def wordsN (l : List Freed) : Int := (l.map fun f => 2 + (f.pages.length : Int)).sum
theorem words_le (l : List Freed) : wordsN l ≤ listed l - 6 ∧ 0 ≤ wordsN l := by
  unfold wordsN listed
  induction l with
  | nil => simp
  | cons f r ih => simp only [List.map_cons, List.sum_cons] at ih ⊢; omega
theorem words_take (l : List Freed) {j : Nat} (hj : j < l.length) : wordsN (l.take (j + 1)) = wordsN (l.take j) + (2 + (l[j].pages.length : Int)) := by
  unfold wordsN
  rw [List.take_succ_eq_append_getElem hj, List.map_append, List.sum_append]
  simp
end Go.Proofs
/- The checksum finds bytes that are changed within four positions. -/
set_option linter.unusedVariables false
set_option linter.unusedSimpArgs false
namespace Go.Proofs
open Go Go.Abs
abbrev gb (c : UInt32) (i : Nat) : Bool := c.toBitVec.getLsbD i
theorem u32_ext {a b : UInt32} (h : ∀ i, i < 32 → gb a i = gb b i) : a = b := UInt32.toBitVec_inj.1 (BitVec.eq_of_getLsbD_eq h)
theorem low_bit (c : UInt32) : (c &&& 1 = 1) ↔ gb c 0 = true := by
  constructor
  · intro h
    have := congrArg (fun x : UInt32 => gb x 0) h
    simpa [gb] using this
  · intro h
    apply u32_ext
    intro i hi
    simp only [gb, UInt32.toBitVec_and, BitVec.getLsbD_and]
    by_cases h0 : i = 0
    · subst h0; simp [h]
    · have e1 : (1 : UInt32).toBitVec = 1#32 := rfl
      simp [e1, BitVec.getLsbD_one, h0]
theorem bit_get (c : UInt32) (i : Nat) (hi : i < 32) : gb (bit c) i = ((gb c (i + 1)) ^^ (gb c 0 && gb 3988292384 i)) := by
  unfold bit
  have e2 : (c >>> 1).toBitVec = c.toBitVec >>> 1 := by rfl
  by_cases h : c &&& 1 = 1
  · rw [if_pos h]
    have h0 := (low_bit c).1 h
    simp only [gb, UInt32.toBitVec_xor, BitVec.getLsbD_xor, e2, BitVec.getLsbD_ushiftRight] at h0 ⊢
    rw [h0, Nat.add_comm]
    simp
  · rw [if_neg h]
    have h0 : gb c 0 = false := by
      cases hq : gb c 0 with
      | true => exact (h ((low_bit c).2 hq)).elim
      | false => rfl
    simp only [gb, e2, BitVec.getLsbD_ushiftRight] at h0 ⊢
    rw [h0, Nat.add_comm]
    simp
theorem bit_xor (a b : UInt32) : bit (a ^^^ b) = bit a ^^^ bit b := by
  apply u32_ext
  intro i hi
  have e : gb (bit a ^^^ bit b) i = (gb (bit a) i ^^ gb (bit b) i) := by simp [gb]
  rw [e, bit_get _ _ hi, bit_get _ _ hi, bit_get _ _ hi]
  have e1 : ∀ j, gb (a ^^^ b) j = (gb a j ^^ gb b j) := fun j => by simp [gb]
  rw [e1, e1]
  cases gb a (i + 1) <;> cases gb b (i + 1) <;> cases gb a 0 <;> cases gb b 0 <;> cases gb 3988292384 i <;> rfl
theorem bit_inj {a b : UInt32} (h : bit a = bit b) : a = b := by
  have hg : ∀ i, i < 32 → ((gb a (i + 1)) ^^ (gb a 0 && gb 3988292384 i)) = ((gb b (i + 1)) ^^ (gb b 0 && gb 3988292384 i)) := fun i hi => by
    rw [← bit_get a i hi, ← bit_get b i hi, h]
  have top : ∀ c : UInt32, gb c 32 = false := fun c => BitVec.getLsbD_of_ge _ _ (Nat.le_refl _)
  have h0 : gb a 0 = gb b 0 := by
    have := hg 31 (by decide)
    rw [top, top, show gb 3988292384 31 = true by decide] at this
    simpa using this
  apply u32_ext
  intro i hi
  cases i with
  | zero => exact h0
  | succ i =>
    have := hg i (by omega)
    rw [h0] at this
    cases ha : gb a (i + 1) <;> cases hb : gb b (i + 1) <;> rw [ha, hb] at this <;> first | rfl | (cases h1 : (gb b 0 && gb 3988292384 i) <;> rw [h1] at this <;> cases this)
theorem bits_xor : ∀ (k : Nat) (a b : UInt32), bits k (a ^^^ b) = bits k a ^^^ bits k b
  | 0, a, b => rfl
  | k + 1, a, b => by show bits k (bit (a ^^^ b)) = bits k (bit a) ^^^ bits k (bit b); rw [bit_xor, bits_xor k]
theorem bits_inj : ∀ (k : Nat) {a b : UInt32}, bits k a = bits k b → a = b
  | 0, a, b, h => h
  | k + 1, a, b, h => bit_inj (bits_inj k (a := bit a) (b := bit b) h)
theorem bit_even {c : UInt32} {w : Nat} (h : c.toNat = 2 * w) : (bit c).toNat = w := by
  have h1 : (c &&& 1).toNat = c.toNat % 2 := by
    rw [UInt32.toNat_and]; exact Nat.and_one_is_mod _
  unfold bit
  rw [if_neg (by intro q; have := congrArg UInt32.toNat q; rw [h1] at this; simp at this; omega)]
  rw [UInt32.toNat_shiftRight]
  show c.toNat >>> 1 = w
  rw [Nat.shiftRight_eq_div_pow]; omega
theorem bits_even : ∀ (k : Nat) {c : UInt32} {w : Nat}, c.toNat = 2 ^ k * w → (bits k c).toNat = w
  | 0, c, w, h => by simpa [bits] using h
  | k + 1, c, w, h => bits_even k (c := bit c) (bit_even (by rw [h, Nat.pow_succ]; rw [Nat.mul_comm (2 ^ k) 2, Nat.mul_assoc]))
/-- A step over a zero byte. -/
theorem zero_step (c : UInt32) : tab c.toUInt8 ^^^ (c >>> 8) = bits 8 c := by
  have hc : c = c.toUInt8.toUInt32 ^^^ ((c >>> 8) <<< 8) := by
    apply u32_ext
    intro i hi
    have e1 : ((c >>> 8) <<< 8).toBitVec = (c.toBitVec >>> 8) <<< 8 := rfl
    have e2 : c.toUInt8.toUInt32.toBitVec = (c.toBitVec.setWidth 8).setWidth 32 := rfl
    simp only [gb, UInt32.toBitVec_xor, BitVec.getLsbD_xor, e1, e2, BitVec.getLsbD_shiftLeft, BitVec.getLsbD_ushiftRight, BitVec.getLsbD_setWidth]
    by_cases h8 : i < 8
    · simp [h8, hi]
    · have : 8 + (i - 8) = i := by omega
      simp [h8, hi, this]
  have h1 : (bits 8 ((c >>> 8) <<< 8)).toNat = (c >>> 8).toNat := by
    refine bits_even 8 ?_
    rw [UInt32.toNat_shiftLeft, UInt32.toNat_shiftRight]
    show (c.toNat >>> 8) <<< 8 % 2 ^ 32 = 2 ^ 8 * (c.toNat >>> 8)
    have := c.toNat_lt
    rw [Nat.shiftRight_eq_div_pow, Nat.shiftLeft_eq]
    omega
  have h2 : bits 8 ((c >>> 8) <<< 8) = c >>> 8 := UInt32.toNat_inj.1 h1
  conv => rhs; rw [hc, bits_xor, h2]
  rfl
theorem byte_step (c : UInt32) (b : UInt8) : tab (c.toUInt8 ^^^ b) ^^^ (c >>> 8) = bits 8 (c ^^^ b.toUInt32) := by
  rw [← zero_step]
  have e1 : (c ^^^ b.toUInt32).toUInt8 = c.toUInt8 ^^^ b := by
    apply UInt8.toBitVec_inj.1
    apply BitVec.eq_of_getLsbD_eq
    intro i hi
    have e3 : (c ^^^ b.toUInt32).toUInt8.toBitVec = (c.toBitVec ^^^ b.toBitVec.setWidth 32).setWidth 8 := rfl
    have e4 : (c.toUInt8 ^^^ b).toBitVec = c.toBitVec.setWidth 8 ^^^ b.toBitVec := rfl
    rw [e3, e4]
    simp [hi]
  have e2 : (c ^^^ b.toUInt32) >>> 8 = c >>> 8 := by
    apply u32_ext
    intro i hi
    have e5 : ((c ^^^ b.toUInt32) >>> 8).toBitVec = (c.toBitVec ^^^ b.toBitVec.setWidth 32) >>> 8 := rfl
    have e6 : (c >>> 8).toBitVec = c.toBitVec >>> 8 := rfl
    simp only [gb, e5, e6, BitVec.getLsbD_ushiftRight, BitVec.getLsbD_xor, BitVec.getLsbD_setWidth]
    rw [BitVec.getLsbD_of_ge b.toBitVec (8 + i) (by omega)]
    simp
  rw [e1, e2]
theorem ext_cons (b : UInt8) (r : Str) (c : UInt32) : ext (b :: r) c = ext r (bits 8 (c ^^^ b.toUInt32)) := by
  unfold ext
  rw [List.foldl_cons, byte_step]
theorem ext_app (a b : Str) (c : UInt32) : ext (a ++ b) c = ext b (ext a c) := by unfold ext; rw [List.foldl_append]
theorem ext_inj : ∀ (s : Str) {c d : UInt32}, ext s c = ext s d → c = d
  | [], c, d, h => h
  | b :: r, c, d, h => by
    rw [ext_cons, ext_cons] at h
    have := bits_inj 8 (ext_inj r h)
    have h2 := congrArg (· ^^^ b.toUInt32) this
    simpa [UInt32.xor_assoc] using h2

/-- Bytes as a number, the least significant one first. -/
def le : Str → UInt32
  | [] => 0
  | b :: r => b.toUInt32 ^^^ (le r <<< 8)
theorem le_nat (b : UInt8) (r : Str) (h : (le r).toNat < 16777216) : (le (b :: r)).toNat = (le r).toNat * 256 + b.toNat ∧ (le r <<< 8).toNat = 2 ^ 8 * (le r).toNat := by
  have hb := b.toNat_lt
  have e1 : (le r <<< 8).toNat = (le r).toNat * 256 := by
    rw [UInt32.toNat_shiftLeft]
    show (le r).toNat <<< 8 % 2 ^ 32 = _
    rw [Nat.shiftLeft_eq]
    omega
  refine ⟨?_, by rw [e1]; omega⟩
  show (b.toUInt32 ^^^ (le r <<< 8)).toNat = _
  rw [UInt32.toNat_xor, e1, UInt8.toNat_toUInt32]
  have h5 := Nat.shiftLeft_add_eq_or_of_lt (show b.toNat < 2 ^ 8 by omega) (le r).toNat
  rw [Nat.shiftLeft_eq] at h5
  show b.toNat ^^^ (le r).toNat * 2 ^ 8 = (le r).toNat * 2 ^ 8 + b.toNat
  rw [h5]
  apply Nat.eq_of_testBit_eq
  intro i
  simp only [Nat.testBit_xor, Nat.testBit_or]
  by_cases h8 : i < 8
  · have : ((le r).toNat * 2 ^ 8).testBit i = false := by rw [Nat.testBit_mul_two_pow]; simp; omega
    rw [this]; simp
  · have : b.toNat.testBit i = false := Nat.testBit_lt_two_pow (Nat.lt_of_lt_of_le (show b.toNat < 2 ^ 8 by omega) (Nat.pow_le_pow_right (by decide) (by omega)))
    rw [this]; simp
theorem le_lt : ∀ (r : Str), r.length ≤ 4 → (le r).toNat < 256 ^ r.length
  | [], _ => by simp [le]
  | b :: r, h => by
    have ih := le_lt r (by simp at h; omega)
    simp only [List.length_cons] at h ⊢
    have hb := b.toNat_lt
    have h3 : 256 ^ r.length ≤ 256 ^ 3 := Nat.pow_le_pow_right (by decide) (by omega)
    have h4 : (256 : Nat) ^ 3 = 16777216 := by decide
    rw [(le_nat b r (by omega)).1, Nat.pow_succ]
    omega
theorem le_small {r : Str} (h : r.length ≤ 3) : (le r).toNat < 16777216 := by
  have := le_lt r (by omega)
  have h3 : 256 ^ r.length ≤ 256 ^ 3 := Nat.pow_le_pow_right (by decide) h
  have h4 : (256 : Nat) ^ 3 = 16777216 := by decide
  omega
theorem le_inj : ∀ {a b : Str}, a.length = b.length → a.length ≤ 4 → le a = le b → a = b
  | [], [], _, _, _ => rfl
  | [], _ :: _, h, _, _ => by simp at h
  | _ :: _, [], h, _, _ => by simp at h
  | x :: a, y :: b, h, h4, he => by
    simp only [List.length_cons] at h h4
    have h1 := (le_nat x a (le_small (by omega))).1
    have h2 := (le_nat y b (le_small (by omega))).1
    rw [he] at h1
    have hx := x.toNat_lt
    have hy := y.toNat_lt
    have e1 : x = y := UInt8.toNat_inj.1 (by omega)
    have e2 : le a = le b := UInt32.toNat_inj.1 (by omega)
    rw [e1, le_inj (by omega) (by omega) e2]
theorem bits_add : ∀ (b a : Nat) (x : UInt32), bits a (bits b x) = bits (b + a) x
  | 0, a, x => by simp [bits]
  | b + 1, a, x => by
    show bits a (bits b (bit x)) = bits (b + 1 + a) x
    rw [bits_add b a, show b + 1 + a = (b + a) + 1 by omega]; rfl
theorem ext_le : ∀ (w : Str) (c : UInt32), w.length ≤ 4 → ext w c = bits (8 * w.length) (c ^^^ le w)
  | [], c, _ => by simp [ext, bits, le]
  | b :: r, c, h => by
    simp only [List.length_cons] at h
    have h2 := (le_nat b r (le_small (by omega))).2
    have h3 : bits 8 (le r <<< 8) = le r := UInt32.toNat_inj.1 (bits_even 8 h2)
    rw [ext_cons, ext_le r _ (by omega)]
    conv => lhs; rw [← h3, ← bits_xor, bits_add]
    rw [List.length_cons, show 8 + 8 * r.length = 8 * (r.length + 1) by omega]
    congr 1
    show c ^^^ b.toUInt32 ^^^ (le r <<< 8) = c ^^^ (b.toUInt32 ^^^ (le r <<< 8))
    rw [UInt32.xor_assoc]
theorem le_crcB (t : Str) : le (crcB t) = crc t := by
  have hc := (crc t).toNat_lt
  apply UInt32.toNat_inj.1
  unfold crcB
  rw [(le_nat _ _ (le_small (by simp))).1, (le_nat _ _ (le_small (by simp))).1, (le_nat _ _ (le_small (by simp))).1, (le_nat _ _ (le_small (by simp))).1]
  simp only [UInt8.toNat_ofNat', le]
  simp only [Nat.pow_zero, Nat.div_one, Nat.pow_succ, Nat.one_mul]
  show (((0 * 256 + _) * 256 + _) * 256 + _) * 256 + _ = _
  omega
theorem residue (t : Str) : ext (t ++ crcB t) (~~~0) = bits 32 (~~~0) := by
  rw [ext_app, ext_le _ _ (by simp [crcB]), le_crcB]
  have : ext t (~~~0) ^^^ crc t = ~~~0 := by
    unfold crc
    rw [show ~~~(ext t (~~~0)) = ext t (~~~0) ^^^ (-1) by rw [UInt32.xor_neg_one], ← UInt32.xor_assoc, UInt32.xor_self, UInt32.zero_xor]
    rfl
  rw [this]; rfl
/-- A block that ends with its checksum. -/
def Sealed (s : Str) : Prop := s.take 508 ++ crcB (s.take 508) = s
theorem sealed_eq {s b : Str} (hs : Sealed s) (hb : Sealed b) (hl : s.length = b.length) (k : Nat) (h : ∀ i (h1 : i < s.length) (h2 : i < b.length), i < k ∨ k + 4 ≤ i → s[i] = b[i]) : s = b := by
  have e0 : ext s (~~~0) = ext b (~~~0) := by rw [← hs, ← hb, residue, residue]
  have t1 : s.take k = b.take k := by
    apply List.ext_getElem
    · simp [hl]
    · intro i h1 h2
      simp only [List.length_take] at h1 h2
      rw [List.getElem_take, List.getElem_take]
      exact h i (by omega) (by omega) (.inl (by omega))
  have t2 : s.drop (k + 4) = b.drop (k + 4) := by
    apply List.ext_getElem
    · simp [hl]
    · intro i h1 h2
      simp only [List.length_drop] at h1 h2
      rw [List.getElem_drop, List.getElem_drop]
      exact h _ (by omega) (by omega) (.inr (by omega))
  have ds : s = s.take k ++ ((s.drop k).take 4 ++ s.drop (k + 4)) := by
    conv => lhs; rw [← List.take_append_drop k s, ← List.take_append_drop 4 (s.drop k), List.drop_drop]
  have db : b = s.take k ++ ((b.drop k).take 4 ++ s.drop (k + 4)) := by
    conv => lhs; rw [← List.take_append_drop k b, ← List.take_append_drop 4 (b.drop k), List.drop_drop, ← t1, ← t2]
  have e1 : ext ((s.drop k).take 4) (ext (s.take k) (~~~0)) = ext ((b.drop k).take 4) (ext (s.take k) (~~~0)) := by
    have := e0
    rw [ds, db, ext_app, ext_app, ext_app, ext_app] at this
    have t3 : (s.take k ++ ((s.drop k).take 4 ++ s.drop (k + 4))) = s := ds.symm
    exact ext_inj _ this
  have l1 : ((s.drop k).take 4).length = ((b.drop k).take 4).length := by simp [hl]
  have l2 : ((s.drop k).take 4).length ≤ 4 := by rw [List.length_take]; omega
  rw [ext_le ((s.drop k).take 4) _ l2, ext_le ((b.drop k).take 4) _ (by omega), ← l1] at e1
  have e2 := bits_inj _ e1
  have e3 := congrArg (fun x => ext (s.take k) (~~~0) ^^^ x) e2
  simp only [← UInt32.xor_assoc, UInt32.xor_self, UInt32.zero_xor] at e3
  have e4 := le_inj l1 l2 e3
  rw [ds, e4]
  exact db.symm
end Go.Proofs
/- Contracts: the reference's numbers, checksum, entries. -/
set_option linter.unusedVariables false
set_option linter.unusedSimpArgs false
namespace Go.Proofs
open Go Go.Abs
theorem mod_u32 (c : UInt32) : ((c.toNat : Int)).tmod ((2 : UInt32).toNat : Int) = ((c &&& 1).toNat : Int) := by
  have h1 : (c &&& 1).toNat = c.toNat % 2 := by
    rw [UInt32.toNat_and]; exact Nat.and_one_is_mod _
  rw [h1]
  rfl
theorem wrap_u8u32 (b : UInt8) : IntKind.u32.wrap ((b.toNat : Nat) : Int) = ((b.toUInt32).toNat : Int) := by
  have h := b.toNat_lt
  rw [UInt8.toNat_toUInt32]
  show (if (IntKind.u32.signed && decide ((b.toNat : Int) % (2 ^ 32 : Int) ≥ (2 ^ (32 - 1) : Int))) = true then (b.toNat : Int) % (2 ^ 32 : Int) - 2 ^ 32 else (b.toNat : Int) % (2 ^ 32 : Int)) = _
  rw [if_neg (by simp [IntKind.signed])]
  omega
section
variable {n : Nat} {h : AHeap}
theorem step_eq (hn : 1 ≤ n) (c : UInt32) : C n 169 [u32 c] h = some (.ret (u32 (bit c)), h) := by
  obtain ⟨m, rfl⟩ : ∃ m, n = m + 1 := ⟨n - 1, by omega⟩
  refine fun_pure F169 rfl rfl rfl rfl ?_
  conv => whnf
  refine remI (by decide) (mod_u32 c) ?_
  have e1 := @u32_eq (c &&& 1) 1
  conv => whnf
  refine br (fun a => ?_) (fun a => ?_)
  · have a' : c &&& 1 = 1 := by simpa [e1] using e1.symm.trans a
    conv => whnf
    refine ⟨by decide, _, shr_u32 c 1 (by decide), ?_⟩
    conv => whnf
    refine zI (xor_u32 _ 3988292384) ?_
    conv => whnf
    exact retP rfl (frz_int (by simp [bit, a']))
  · have a' : ¬ c &&& 1 = 1 := by simpa [e1] using e1.symm.trans a
    conv => whnf
    refine ⟨by decide, _, shr_u32 c 1 (by decide), ?_⟩
    conv => whnf
    exact retP rfl (frz_int (by simp [bit, a']))
theorem rext_eq (hn : 2 ≤ n) (s : Str) (hs : s.length < 1099511627776) (c : UInt32) : C n 151 [u32 c, .str s] h = some (.ret (u32 (~~~(ext s (~~~c)))), h) := by
  obtain ⟨m, rfl⟩ : ∃ m, n = m + 1 := ⟨n - 1, by omega⟩
  refine fun_pure F151 rfl rfl rfl rfl ?_
  conv => whnf
  refine zI (not_u32 c) ?_
  conv => whnf
  refine loopI (by decide) rfl (α := Nat × UInt32) (fun x => ⟨[(1, .str s), (5, u32 x.2), (6, i64 x.1)], [], []⟩) (fun x => x.1 ≤ s.length ∧ x.2 = ext (s.take x.1) (~~~c)) (fun x => s.length - x.1) (0, ~~~c) ⟨⟨rfl, rfl, rfl⟩, rfl, rfl⟩ (by simp [ext]) (by show s.length - 0 < KK; simp only [KK]; omega) ?_
  rintro ⟨x, d⟩ ⟨hx, hc⟩
  simp only at hx hc
  conv => whnf
  refine brd (fun a => ?_) (fun a => ?_)
  · simp only at a
    have hx' : x < s.length := by omega
    have hst : bits 8 (d ^^^ s[x].toUInt32) = ext (s.take (x + 1)) (~~~c) := by
      subst hc
      rw [List.take_succ_eq_append_getElem hx', ext_app, ext_cons]
      rfl
    conv => whnf
    refine strI (b := s[x]) (by omega) (by rw [Int.toNat_natCast]; exact List.getElem?_eq_getElem hx') ?_
    conv => whnf
    refine zI (wrap_u8u32 s[x]) ?_
    conv => whnf
    refine zI (xor_u32 d s[x].toUInt32) ?_
    conv => whnf
    refine loopI (by decide) rfl (α := Nat) (fun k => ⟨[(1, .str s), (5, u32 (bits k (d ^^^ s[x].toUInt32))), (6, i64 x), (7, i64 k)], [], []⟩) (fun k => k ≤ 8) (fun k => 8 - k) 0 ⟨⟨rfl, rfl, rfl, rfl⟩, rfl, rfl⟩ (by omega) (by decide) ?_
    intro k hk
    conv => whnf
    refine brd (fun b => ?_) (fun b => ?_)
    · conv => whnf
      refine clI (step_eq (by omega) _) ?_
      conv => whnf
      refine zI (z := ((k + 1 : Nat) : Int)) (by rw [wrap_i64 (by omega) (by omega)]; rfl) ?_
      exact nxI (k + 1) (by omega) (by omega) ⟨⟨rfl, by rw [bits_succ]; rfl, rfl, rfl⟩, rfl, rfl⟩
    · have : k = 8 := by omega
      subst this
      rw [hst]
      conv => whnf
      refine cutI (by decide) rfl (t := ⟨[(1, .str s), (5, u32 (ext (s.take (x + 1)) (~~~c))), (6, i64 x)], [], []⟩) ⟨⟨rfl, rfl, rfl⟩, rfl, rfl⟩ ?_
      conv => whnf
      refine zI (z := ((x + 1 : Nat) : Int)) (by rw [wrap_i64 (by omega) (by omega)]; rfl) ?_
      exact nxI (x + 1, ext (s.take (x + 1)) (~~~c)) ⟨hx', rfl⟩ (by simp only; omega) ⟨⟨rfl, rfl, rfl⟩, rfl, rfl⟩
  · simp only at a
    have : x = s.length := by omega
    subst this
    rw [List.take_length] at hc
    subst hc
    conv => whnf
    refine cutI (by decide) rfl (t := ⟨[(5, u32 (ext s (~~~c)))], [], []⟩) ⟨rfl, rfl, rfl⟩ ?_
    conv => whnf
    refine zI (not_u32 _) ?_
    conv => whnf
    exact retP rfl (frz_int rfl)
theorem rcrc_eq (hn : 3 ≤ n) (s : Str) (hs : s.length < 1099511627776) : C n 117 [.str s] h = some (.ret (u32 (crc s)), h) := by
  obtain ⟨m, rfl⟩ : ∃ m, n = m + 1 := ⟨n - 1, by omega⟩
  refine fun_pure F117 rfl rfl rfl rfl ?_
  conv => whnf
  refine clI (rext_eq (by omega) s hs 0) ?_
  conv => whnf
  exact retP rfl (frz_int rfl)
theorem div_pow {k j : Nat} : ((k / 256 ^ j : Nat) : Int).tdiv 256 = ((k / 256 ^ (j + 1) : Nat) : Int) := by
  rw [Int.tdiv_eq_ediv_of_nonneg (Int.natCast_nonneg _), Nat.pow_succ, ← Nat.div_div_eq_div_mul]
  rfl
theorem byte_mod (x : Nat) : IntKind.u8.wrap ((x % 256 : Nat) : Int) = ((UInt8.ofNat x).toNat : Int) := by
  rw [UInt8.toNat_ofNat']
  show (if (IntKind.u8.signed && decide (((x % 256 : Nat) : Int) % (2 ^ 8 : Int) ≥ (2 ^ (8 - 1) : Int))) = true then ((x % 256 : Nat) : Int) % (2 ^ 8 : Int) - 2 ^ 8 else ((x % 256 : Nat) : Int) % (2 ^ 8 : Int)) = _
  rw [if_neg (by simp [IntKind.signed])]
  omega
theorem refNumber_eq (hn : 1 ≤ n) (k w : Nat) (hw : w ≤ 8) (hk : k < 9223372036854775808) : C n 64 [i64 k, i64 w] h = some (.ret (.str (num k w)), h) := by
  obtain ⟨m, rfl⟩ : ∃ m, n = m + 1 := ⟨n - 1, by omega⟩
  refine fun_pure F64 rfl rfl rfl rfl ?_
  conv => whnf
  refine ⟨by omega, by omega, by omega, ?_⟩
  conv => whnf
  refine zI (z := (w : Int) - 1) (wrap_i64 (by omega) (by omega)) ?_
  conv => whnf
  have hrep : ∀ w, rep w [AV.int .u8 0] = (List.replicate w (0 : UInt8)).map u8 := fun w => by
    induction w with
    | zero => rfl
    | succ w ih => rw [List.replicate_succ, List.map_cons, ← ih]; rfl
  refine loopI (by decide) rfl (α := Nat) (fun j => ⟨[(0, i64 ((k / 256 ^ j : Nat))), (5, .sl 1 0 0 0 w), (6, i64 ((w : Int) - 1 - j))], [.cells 0 (some 5) ((List.replicate (w - j) (0 : UInt8) ++ num k j).map u8) 0], []⟩) (fun j => j ≤ w) (fun j => w - j) 0 ?_ (Nat.zero_le _) (by show w - 0 < KK; simp only [KK]; omega) ?_
  · refine ⟨⟨by rw [Nat.pow_zero, Nat.div_one]; rfl, rfl, by rw [show (w : Int) - 1 - ((0 : Nat) : Int) = (w : Int) - 1 by omega]; rfl⟩, ?_, rfl⟩
    show [] ++ [AB.cells 0 (some 5) (rep ((w : Int)).toNat [AV.int IntKind.u8 0]) 0] = _
    rw [Int.toNat_natCast, hrep]
    simp [num]
  · intro j hj
    conv => whnf
    refine brd (fun a => ?_) (fun a => ?_)
    · have hjw : j < w := by omega
      conv => whnf
      refine remI (by decide) (z := ((k / 256 ^ j % 256 : Nat) : Int)) rfl ?_
      conv => whnf
      refine zI (z := ((UInt8.ofNat (k / 256 ^ j)).toNat : Int)) (byte_mod _) ?_
      conv => whnf
      refine ⟨by omega, by omega, rfl, ?_⟩
      conv => whnf
      have hi : 0 + ((w : Int) - 1 - j).toNat * 1 = w - j - 1 := by omega
      refine stI (cs := (List.replicate (w - j) (0 : UInt8) ++ num k j).map u8) (xs := [u8 (UInt8.ofNat (k / 256 ^ j))]) (by rfl) (by rfl) (by rfl) (by rw [Nat.ble_eq, hi]; simp [num_len]; omega) (by rfl) ?_
      conv => whnf
      have hput : putAt ((List.replicate (w - j) (0 : UInt8) ++ num k j).map u8) (0 + ((w : Int) - 1 - j).toNat * 1) [u8 (UInt8.ofNat (k / 256 ^ j))] = (List.replicate (w - (j + 1)) (0 : UInt8) ++ num k (j + 1)).map u8 := by
        rw [hi, show w - j = (w - j - 1) + 1 by omega, show w - j - 1 + 1 - 1 = w - j - 1 by omega, put_mid, show w - (j + 1) = w - j - 1 by omega]
        rfl
      have hle : k / 256 ^ (j + 1) ≤ k := Nat.div_le_self _ _
      refine ⟨by decide, ((k / 256 ^ (j + 1) : Nat) : Int), by rw [div_pow]; exact wrap_i64 (Int.le_trans (by decide) (Int.natCast_nonneg _)) (Int.lt_of_le_of_lt (Int.ofNat_le.2 hle) (by omega)), ?_⟩
      conv => whnf
      refine zI (z := (w : Int) - 1 - ((j + 1 : Nat) : Int)) (by rw [wrap_i64 (by omega) (by omega)]; omega) ?_
      exact nxI (j + 1) hjw (by omega) ⟨⟨rfl, rfl, rfl⟩, congrArg (fun x => [AB.cells 0 (some 5) x 0]) hput, rfl⟩
    · have : j = w := by omega
      subst this
      have hf := first_sl (h := [AB.cells 0 (some 5) ((List.replicate (j - j) (0 : UInt8) ++ num k j).map u8) 0]) (bb := 0) (ver := 0) (el := some 5) (s := num k j) (frz := 0) (by rw [Nat.sub_self]; rfl)
      rw [num_len] at hf
      conv => whnf
      refine cutI (by decide) rfl (t := ⟨[(5, .sl 1 0 0 0 j)], [AB.cells 0 (some 5) ((List.replicate (j - j) (0 : UInt8) ++ num k j).map u8) 0], []⟩) ⟨rfl, rfl, rfl⟩ ?_
      conv => whnf
      refine ⟨_, num k j, hf, toBytes_map _, ?_⟩
      conv => whnf
      exact retP rfl (frz_str rfl)
end
end Go.Proofs
/- Contracts: the reference's entries: their validity and bytes. -/
set_option linter.unusedVariables false
set_option linter.unusedSimpArgs false
namespace Go.Proofs
open Go Go.Abs
section
variable {n : Nat} {h : AHeap}
theorem refSum_eq (hn : 1 ≤ n) (d : Dg) : C n 166 [.agg d.cells] h = some (.ret (.str d.bytes), h) := by
  obtain ⟨m, rfl⟩ : ∃ m, n = m + 1 := ⟨n - 1, by omega⟩
  refine fun_pure F166 rfl rfl rfl rfl ?_
  conv => whnf
  refine ⟨_, _, _, rfl, ⟨Nat.le_refl 16, by decide⟩, ?_⟩
  refine slI (v := .sl 1 0 0 0 16) rfl ?_
  conv => whnf
  refine ⟨_, d.bytes, first_sl (el := some 54) (s := d.bytes) (frz := 0) (ver := 0) _ rfl, toBytes_map _, ?_⟩
  conv => whnf
  exact retP rfl (frz_str rfl)
theorem leafEntry_eq (hn : 2 ≤ n) (e : Entry) : C n 141 [e.av] h = some (.ret (.bool (formOf e != 0)), h) := by
  obtain ⟨m, rfl⟩ : ∃ m, n = m + 1 := ⟨n - 1, by omega⟩
  have e1 := eq_dg e.sum Dg.zero
  refine fun_pure F141 rfl rfl rfl rfl ?_
  repeat' (conv => whnf); first
    | refine clI (isPage_eq (by omega) _) ?_
    | refine clI (count_eq (by omega) _) ?_
    | refine eqI e1 ?_
    | refine retP rfl (frz_bool ?_)
    | refine brd (fun _ => ?_) (fun _ => ?_)
    | refine bre (fun _ => ?_) (fun _ => ?_)
    | refine brq (fun _ => ?_) (fun _ => ?_)
    | refine brn (fun _ => ?_) (fun _ => ?_)
    | refine br (fun _ => ?_) (fun _ => ?_)
    | refine ldI (by rfl) ?_
    | refine ldI (get_set_last _ _ _) ?_
    | refine ldI (get_last _ _) ?_
    | refine stI (by rfl) (by rfl) (by rfl) (by rfl) (by rfl) ?_
    | refine stI (get_last _ _) (by rfl) (by rfl) (by rfl) (by rfl) ?_
    | refine cutS (by decide) rfl ?_
  all_goals simp_all [formOf, isShort, isLong, isNest, numbered, within]
  all_goals first
    | omega
    | (by_cases q : e.len = 0 <;> simp_all; done)
    | (by_cases q : e.count = 0 <;> simp_all <;> omega)
    | (by_cases q : e.sum = Dg.zero <;> simp_all <;> omega)
theorem branchEntry_eq (hn : 2 ≤ n) (e : Entry) : C n 142 [e.av] h = some (.ret (.bool (branchE e)), h) := by
  obtain ⟨m, rfl⟩ : ∃ m, n = m + 1 := ⟨n - 1, by omega⟩
  refine fun_pure F142 rfl rfl rfl rfl ?_
  repeat' (conv => whnf); first
    | refine clI (isPage_eq (by omega) _) ?_
    | refine clI (count_eq (by omega) _) ?_
    | refine retP rfl (frz_bool ?_)
    | refine brd (fun _ => ?_) (fun _ => ?_)
    | refine bre (fun _ => ?_) (fun _ => ?_)
    | refine brq (fun _ => ?_) (fun _ => ?_)
    | refine brn (fun _ => ?_) (fun _ => ?_)
    | refine br (fun _ => ?_) (fun _ => ?_)
    | refine ldI (by rfl) ?_
    | refine ldI (get_set_last _ _ _) ?_
    | refine ldI (get_last _ _) ?_
    | refine stI (by rfl) (by rfl) (by rfl) (by rfl) (by rfl) ?_
    | refine stI (get_last _ _) (by rfl) (by rfl) (by rfl) (by rfl) ?_
    | refine cutS (by decide) rfl ?_
  all_goals simp_all [branchE]
theorem rest_eq (hn : 2 ≤ n) (e : Entry) (lv : Int) (h0 : 0 ≤ lv) (hv : if lv = 0 then formOf e ≠ 0 else branches e = true) : C n 143 [e.av, i64 lv] h = some (.ret (.str (restB e lv)), h) := by
  obtain ⟨m, rfl⟩ : ∃ m, n = m + 1 := ⟨n - 1, by omega⟩
  have cN : ∀ (k : Int) (w : Nat) (h : AHeap), 0 ≤ k → k < 9223372036854775808 → w ≤ 8 → C m 64 [i64 k, i64 w] h = some (.ret (.str (num k.toNat w)), h) := fun k w h h1 h2 h3 => by
    have := refNumber_eq (n := m) (h := h) (by omega) k.toNat w h3 (by omega)
    rwa [show ((k.toNat : Nat) : Int) = k by omega] at this
  have cS : ∀ (h : AHeap), C m 166 [.agg e.sum.cells] h = some (.ret (.str e.sum.bytes), h) := fun h => refSum_eq (by omega) e.sum
  have nn : 0 ≤ e.over ∧ 0 ≤ e.len ∧ 0 ≤ e.child ∧ 0 ≤ e.count := by
    split at hv
    · exact (nn_form hv).1
    · exact (nn_branch hv).1
  have big : e.over < 1099511627776 ∧ e.len < 1099511627776 ∧ e.child < 1099511627776 ∧ e.count < 1099511627776 ∧ e.val.length ≤ 64 := by
    split at hv
    · rcases (form_cases hv).2 with ⟨a, b, c, d, _, g⟩ | ⟨a, b, c, d, g⟩ | ⟨a, b, c, d, g⟩
      · omega
      · rw [a]; simp; omega
      · rw [a]; simp; omega
    · obtain ⟨_, a, b, c, d, g⟩ := branch_cases hv
      rw [a]; simp; omega
  refine fun_pure F143 rfl rfl rfl rfl ?_
  conv => whnf
  refine brd (fun a => ?_) (fun a => ?_)
  · conv => whnf
    refine ldI (by rfl) ?_
    conv => whnf
    refine clI (cN e.child 4 _ (by omega) (by omega) (by omega)) ?_
    conv => whnf
    refine ldI (by rfl) ?_
    conv => whnf
    refine clI (cN e.count 4 _ (by omega) (by omega) (by omega)) ?_
    conv => whnf
    refine ⟨by simp only [num_len]; decide, ?_⟩
    conv => whnf
    refine ldI (by rfl) ?_
    conv => whnf
    refine clI (cS _) ?_
    conv => whnf
    refine ⟨by simp only [List.length_append, num_len, Dg.bytes_len]; decide, ?_⟩
    conv => whnf
    refine retP rfl (frz_str ?_)
    unfold restB
    rw [if_pos a, List.append_assoc]
  · have hl : lv = 0 := by omega
    rw [if_pos hl] at hv
    have hf := (form_cases hv).2
    conv => whnf
    refine ldI (by rfl) ?_
    conv => whnf
    refine brq (fun b => ?_) (fun b => ?_)
    · have hov : ¬ 0 < e.over := by omega
      conv => whnf
      refine clI (cN 65534 2 _ (by omega) (by omega) (by omega)) ?_
      conv => whnf
      refine ldI (by rfl) ?_
      conv => whnf
      refine clI (cN e.child 4 _ (by omega) (by omega) (by omega)) ?_
      conv => whnf
      refine ⟨by simp only [num_len]; decide, ?_⟩
      conv => whnf
      refine ldI (by rfl) ?_
      conv => whnf
      refine clI (cN e.count 4 _ (by omega) (by omega) (by omega)) ?_
      conv => whnf
      refine ⟨by simp only [List.length_append, num_len]; decide, ?_⟩
      conv => whnf
      refine ldI (by rfl) ?_
      conv => whnf
      refine clI (cS _) ?_
      conv => whnf
      refine ⟨by simp only [List.length_append, num_len, Dg.bytes_len]; decide, ?_⟩
      conv => whnf
      refine retP rfl (frz_str ?_)
      unfold restB
      rw [if_neg a, if_neg hov, if_pos (by omega)]
      simp only [List.append_assoc]
      rfl
    · conv => whnf
      refine ldI (by rfl) ?_
      conv => whnf
      refine brq (fun d => ?_) (fun d => ?_)
      · conv => whnf
        refine clI (cN 65535 2 _ (by omega) (by omega) (by omega)) ?_
        conv => whnf
        refine ldI (by rfl) ?_
        conv => whnf
        refine clI (cN e.over 4 _ (by omega) (by omega) (by omega)) ?_
        conv => whnf
        refine ⟨by simp only [num_len]; decide, ?_⟩
        conv => whnf
        refine ldI (by rfl) ?_
        conv => whnf
        refine clI (cN e.len 2 _ (by omega) (by omega) (by omega)) ?_
        conv => whnf
        refine ⟨by simp only [List.length_append, num_len]; decide, ?_⟩
        conv => whnf
        refine ldI (by rfl) ?_
        conv => whnf
        refine clI (cS _) ?_
        conv => whnf
        refine ⟨by simp only [List.length_append, num_len, Dg.bytes_len]; decide, ?_⟩
        conv => whnf
        refine retP rfl (frz_str ?_)
        unfold restB
        rw [if_neg a, if_pos (by omega)]
        simp only [List.append_assoc]
        rfl
      · conv => whnf
        refine ldI (by rfl) ?_
        conv => whnf
        refine clI (cN e.val.length 2 _ (by omega) (by omega) (by omega)) ?_
        conv => whnf
        refine ldI (by rfl) ?_
        conv => whnf
        refine ⟨by rw [num_len]; omega, ?_⟩
        conv => whnf
        refine retP rfl (frz_str ?_)
        unfold restB
        rw [if_neg a, if_neg (by omega), if_neg (by omega)]
        rfl
end
end Go.Proofs
/- Orders of keys; equal entries (as in Fd, for the seats without PageSearch). -/
set_option linter.unusedVariables false
set_option linter.unusedSimpArgs false
namespace Go.Proofs
open Go Go.Abs
theorem less_trans : ∀ (x y z : Str), Op.bytesLess x y = true → Op.bytesLess y z = true → Op.bytesLess x z = true
  | x, [], z, h, _ => by cases x <;> simp [Op.bytesLess] at h
  | x, b :: y, [], _, h => by simp [Op.bytesLess] at h
  | [], b :: y, c :: z, _, _ => by simp [Op.bytesLess]
  | a :: x, b :: y, c :: z, h1, h2 => by
    simp only [Op.bytesLess, Bool.or_eq_true, Bool.and_eq_true, decide_eq_true_eq, beq_iff_eq] at h1 h2 ⊢
    rcases h1 with h1 | ⟨rfl, h1⟩
    · rcases h2 with h2 | ⟨rfl, h2⟩
      · exact .inl (UInt8.lt_trans h1 h2)
      · exact .inl h1
    · rcases h2 with h2 | ⟨rfl, h2⟩
      · exact .inl h2
      · exact .inr ⟨rfl, less_trans x y z h1 h2⟩
theorem cmp_neg {x y : Str} : cmpS x y < 0 ↔ Op.bytesLess x y = true := by
  unfold cmpS
  by_cases a : Op.bytesLess x y = true
  · simp [a]
  · by_cases b : Op.bytesLess y x = true
    · simp [a, b]
    · simp [a, b]
theorem cmp_zero {x y : Str} : cmpS x y = 0 ↔ x = y := by
  unfold cmpS
  by_cases a : Op.bytesLess x y = true
  · simp [a]
    rintro rfl
    rw [less_irrefl] at a; cases a
  · by_cases b : Op.bytesLess y x = true
    · simp [a, b]
      rintro rfl
      rw [less_irrefl] at b; cases b
    · simp only [Bool.not_eq_true] at a b
      have := less_total x y a b
      subst this
      simp [a]
theorem sorted_lt {l : List Entry} (h : ∀ j (hj : j < l.length), 0 < j → cmpS (l[j - 1]).key l[j].key < 0) : ∀ (d j : Nat) (hj : j + d + 1 < l.length), Op.bytesLess (l[j]).key (l[j + d + 1]).key = true
  | 0, j, hj => by
    have := h (j + 1) hj (by omega)
    exact cmp_neg.1 this
  | d + 1, j, hj => by
    have h1 := sorted_lt h d j (by omega)
    have h2 := h (j + (d + 1) + 1) hj (by omega)
    exact less_trans _ _ _ h1 (cmp_neg.1 h2)
theorem index_of {l : List Entry} (h : ∀ j (hj : j < l.length), 0 < j → cmpS (l[j - 1]).key l[j].key < 0) (k : Str) : ∀ n, n ≤ l.length → ∃ i, i ≤ n ∧ (∀ j (hj : j < l.length), j < i → cmpS l[j].key k < 0) ∧ ∀ j (hj : j < l.length), i ≤ j → j < n → ¬ cmpS l[j].key k < 0
  | 0, _ => ⟨0, Nat.le_refl _, fun j _ h => absurd h (Nat.not_lt_zero _), fun j _ _ h => absurd h (Nat.not_lt_zero _)⟩
  | n + 1, hn => by
    obtain ⟨i, h1, h2, h3⟩ := index_of h k n (by omega)
    by_cases hl : cmpS (l[n]'(by omega)).key k < 0
    · refine ⟨n + 1, Nat.le_refl _, fun j hj hlt => ?_, fun j _ h1 h2 => absurd h2 (by omega)⟩
      by_cases e : j = n
      · subst e; exact hl
      · have := sorted_lt h (n - j - 1) j (by omega)
        have e2 : j + (n - j - 1) + 1 = n := by omega
        simp only [e2] at this
        exact cmp_neg.2 (less_trans _ _ _ this (cmp_neg.1 hl))
    · refine ⟨i, by omega, h2, fun j hj a b => ?_⟩
      by_cases e : j = n
      · subst e; exact hl
      · exact h3 j hj a (by omega)
theorem eq_ent (e : Entry) : eqA Tryz.prog 20 56 (.agg e.cells) (.agg e.cells) = some true := by
  have e1 : eqA Tryz.prog 20 56 (.agg e.cells) (.agg e.cells) = allEq (eqA Tryz.prog 19) [(9, .str e.key, .str e.key), (9, .str e.val, .str e.val), (3, i64 e.over, i64 e.over), (3, i64 e.len, i64 e.len), (3, i64 e.child, i64 e.child), (3, i64 e.count, i64 e.count), (54, .agg e.sum.cells, .agg e.sum.cells)] := by kernel_rfl
  have e2 : ∀ (s : Str), eqA Tryz.prog 19 9 (.str s) (.str s) = some (s == s) := fun s => by kernel_rfl
  have e3 : ∀ (k : Int), eqA Tryz.prog 19 3 (i64 k) (i64 k) = some (k == k) := fun k => by kernel_rfl
  have e4 : eqA Tryz.prog 19 54 (.agg e.sum.cells) (.agg e.sum.cells) = allEq (eqA Tryz.prog 18) (zipE 5 (e.sum.list.map u8) (e.sum.list.map u8)) := by kernel_rfl
  have e5 : ∀ (x y : UInt8), eqA Tryz.prog 18 5 (.int .u8 x.toNat) (.int .u8 y.toNat) = some (((x.toNat : Nat) : Int) == y.toNat) := fun x y => by kernel_rfl
  have e6 : eqA Tryz.prog 19 54 (.agg e.sum.cells) (.agg e.sum.cells) = some true := by
    rw [e4, allEq_u8 (fun x y => by rw [e5, eq_u8]) e.sum.list e.sum.list rfl]
    simp
  rw [e1]
  simp only [allEq, e2, e3, e6, beq_self_eq_true]
end Go.Proofs
/- Contracts: the reference's validity of entries, and their shared prefix. -/
set_option linter.unusedVariables false
set_option linter.unusedSimpArgs false
namespace Go.Proofs
open Go Go.Abs
section
variable {n : Nat} {h : AHeap}
theorem refValid_loop {m : Nat} (hn : 2 ≤ m) (l : List Entry) (hl : l.length < 1099511627776) (lv : Int) (sz : Nat) (hz : l ≠ [] → sz = 22) (c : Bool) (W : 0 ≤ lv) (hk0 : lv ≠ 0 → ∀ h0 : 0 < l.length, l[0].key = []) {Q : Ex → LS → Prop} {s : LS}
    (hs : LS.sub ⟨[(0, .lst sz (l.map Entry.av) c), (1, i64 lv), (5, i64 0)], [], []⟩ s)
    (hE : (∀ i, i < l.length → vAt lv l i = true) → ∀ L hp, Q (.exit 0) ⟨L, hp, []⟩) (hR : ∀ j, j < l.length → vAt lv l j = false → ∀ L hp, lk L 4 = some (.bool false) → Q .ret ⟨L, hp, []⟩) :
    OkR Tryz.prog (C m) cfg0.inl KK 105 7 (.loop (c106.lp 0)) s Q := by
  refine loopI (by decide) rfl (α := Nat × AHeap) (fun x => ⟨[(0, .lst sz (l.map Entry.av) c), (1, i64 lv), (5, i64 x.1)], x.2, []⟩)
    (fun x => x.1 ≤ l.length ∧ ∀ i, i < x.1 → vAt lv l i = true) (fun x => l.length - x.1) (0, []) hs ?_ ?_ ?_
  · exact ⟨Nat.zero_le _, fun i hi => absurd hi (Nat.not_lt_zero _)⟩
  · show l.length - 0 < KK; simp only [KK]; omega
  · rintro ⟨j, hp⟩ ⟨g1, g2⟩
    simp only at g1 g2
    conv => whnf
    refine brd (fun b => ?_) (fun b => ?_)
    · have hj : j < l.length := by simp only [List.length_map] at b; omega
      have ext : vAt lv l j = true → ∀ i, i < j + 1 → vAt lv l i = true := fun hv i hi => by
        by_cases e : i = j
        · rw [e]; exact hv
        · exact g2 i (by omega)
      conv => whnf
      refine bre (fun z => ?_) (fun z => ?_)
      · subst z
        conv => whnf
        refine ixL entry_cells hj hz ?_
        conv => whnf
        refine clI (leafEntry_eq (by omega) l[j]) ?_
        conv => whnf
        refine brn (fun c1 => ?_) (fun c1 => ?_)
        · exact hR j hj (by rw [vAt_unf hj]; simp [c1]) _ _ rfl
        · have hfst : (if (0 : Int) = 0 then formOf l[j] != 0 else branches l[j] && (decide (j = 0) || l[j].key != [])) = true := by rw [if_pos rfl]; exact c1
          conv => whnf
          refine brd (fun c2 => ?_) (fun c2 => ?_)
          · have hj1 : j - 1 < l.length := by omega
            have hj0 : j ≠ 0 := by omega
            conv => whnf
            refine ixL entry_cells hj hz ?_
            conv => whnf
            refine zI (z := ((j - 1 : Nat) : Int)) (by rw [wrap_i64 (by omega) (by omega)]; omega) ?_
            conv => whnf
            refine ixL entry_cells (l := l) (j := j - 1) hj1 hz ?_
            conv => whnf
            have tri := bytesLess_tri l[j].key (l[j - 1]'hj1).key
            refine br (fun d => ?_) (fun d => ?_)
            · have d' : Op.bytesLess (l[j - 1]'hj1).key l[j].key = false := by
                have := tri.symm.trans d
                simpa using this
              have hc : ¬ cmpS (l[j - 1]'hj1).key l[j].key < 0 := fun q => by rw [cmp_neg.1 q] at d'; cases d'
              refine hR j hj (by rw [vAt_unf hj]; simp [hj0, hc]) _ _ rfl
            · have d' : Op.bytesLess (l[j - 1]'hj1).key l[j].key = true := by
                have := tri.symm.trans d
                simpa using this
              have hc : cmpS (l[j - 1]'hj1).key l[j].key < 0 := cmp_neg.2 d'
              conv => whnf
              refine zI (z := ((j + 1 : Nat) : Int)) (by rw [wrap_i64 (by omega) (by omega)]; rfl) ?_
              refine nxI (j + 1, _) ⟨hj, ext (by rw [vAt_unf hj, hfst]; simp [hj0, hc])⟩ (by simp only; omega) ⟨⟨rfl, rfl, rfl⟩, rfl, rfl⟩
          · have hj0 : j = 0 := by omega
            conv => whnf
            refine zI (z := ((j + 1 : Nat) : Int)) (by rw [wrap_i64 (by omega) (by omega)]; rfl) ?_
            refine nxI (j + 1, _) ⟨hj, ext (by rw [vAt_unf hj, hfst]; simp [hj0])⟩ (by simp only; omega) ⟨⟨rfl, rfl, rfl⟩, rfl, rfl⟩
      · have zp : 0 < lv := by omega
        conv => whnf
        refine brd (fun _ => ?_) (fun q => absurd zp q)
        conv => whnf
        refine ixL entry_cells hj hz ?_
        conv => whnf
        refine clI (branchEntry_eq (by omega) l[j]) ?_
        conv => whnf
        refine brn (fun c1 => ?_) (fun c1 => ?_)
        · exact hR j hj (by rw [vAt_unf hj, branch_split]; simp [c1, z]) _ _ rfl
        · conv => whnf
          refine brd (fun _ => ?_) (fun q => absurd zp q)
          conv => whnf
          refine brd (fun jp => ?_) (fun jp => ?_)
          · have hj0 : j ≠ 0 := by omega
            conv => whnf
            refine ixL entry_cells hj hz ?_
            conv => whnf
            refine brd (fun k1 => ?_) (fun k1 => ?_)
            · have hk : l[j].key = [] := List.length_eq_zero_iff.1 (by omega)
              exact hR j hj (by rw [vAt_unf hj]; simp [hk, z, hj0]) _ _ rfl
            · conv => whnf
              refine ixL entry_cells hj hz ?_
              conv => whnf
              refine brd (fun k2 => ?_) (fun k2 => ?_)
              · exact hR j hj (by rw [vAt_unf hj, branch_split]; simp [z, show ¬ l[j].key.length ≤ 48 by omega]) _ _ rfl
              · have hk : l[j].key ≠ [] := by intro q; rw [q] at k1; simp at k1
                have hfst : (if lv = 0 then formOf l[j] != 0 else branches l[j] && (decide (j = 0) || l[j].key != [])) = true := by rw [if_neg z, branch_split]; simp [c1, hk, show l[j].key.length ≤ 48 by omega]
                conv => whnf
                refine brd (fun c2 => ?_) (fun c2 => ?_)
                · have hj1 : j - 1 < l.length := by omega
                  have hj0 : j ≠ 0 := by omega
                  conv => whnf
                  refine ixL entry_cells hj hz ?_
                  conv => whnf
                  refine zI (z := ((j - 1 : Nat) : Int)) (by rw [wrap_i64 (by omega) (by omega)]; omega) ?_
                  conv => whnf
                  refine ixL entry_cells (l := l) (j := j - 1) hj1 hz ?_
                  conv => whnf
                  have tri := bytesLess_tri l[j].key (l[j - 1]'hj1).key
                  refine br (fun d => ?_) (fun d => ?_)
                  · have d' : Op.bytesLess (l[j - 1]'hj1).key l[j].key = false := by
                      have := tri.symm.trans d
                      simpa using this
                    have hc : ¬ cmpS (l[j - 1]'hj1).key l[j].key < 0 := fun q => by rw [cmp_neg.1 q] at d'; cases d'
                    refine hR j hj (by rw [vAt_unf hj]; simp [hj0, hc]) _ _ rfl
                  · have d' : Op.bytesLess (l[j - 1]'hj1).key l[j].key = true := by
                      have := tri.symm.trans d
                      simpa using this
                    have hc : cmpS (l[j - 1]'hj1).key l[j].key < 0 := cmp_neg.2 d'
                    conv => whnf
                    refine zI (z := ((j + 1 : Nat) : Int)) (by rw [wrap_i64 (by omega) (by omega)]; rfl) ?_
                    refine nxI (j + 1, _) ⟨hj, ext (by rw [vAt_unf hj, hfst]; simp [hj0, hc])⟩ (by simp only; omega) ⟨⟨rfl, rfl, rfl⟩, rfl, rfl⟩
                · have hj0 : j = 0 := by omega
                  conv => whnf
                  refine zI (z := ((j + 1 : Nat) : Int)) (by rw [wrap_i64 (by omega) (by omega)]; rfl) ?_
                  refine nxI (j + 1, _) ⟨hj, ext (by rw [vAt_unf hj, hfst]; simp [hj0])⟩ (by simp only; omega) ⟨⟨rfl, rfl, rfl⟩, rfl, rfl⟩
          · have hj0 : j = 0 := by omega
            subst hj0
            have hk := hk0 z hj
            have hfst : (if lv = 0 then formOf l[0] != 0 else branches l[0] && (decide ((0 : Nat) = 0) || l[0].key != [])) = true := by rw [if_neg z, branch_split, hk]; simp [c1]
            conv => whnf
            refine zI (z := ((0 + 1 : Nat) : Int)) (by rw [wrap_i64 (by omega) (by omega)]; rfl) ?_
            refine nxI (0 + 1, _) ⟨hj, ext (by rw [vAt_unf hj, hfst]; simp)⟩ (by simp only; omega) ⟨⟨rfl, rfl, rfl⟩, rfl, rfl⟩
    · have hj : j = l.length := by simp only [List.length_map] at b; omega
      subst hj
      conv => whnf
      exact hE g2 _ _
theorem refValid_eq (hn : 3 ≤ n) (l : List Entry) (hl : l.length < 1099511627776) (lv : Int) (sz : Nat) (hz : l ≠ [] → sz = 22) (c : Bool) : C n 106 [.lst sz (l.map Entry.av) c, i64 lv] h = some (.ret (.bool (valid l lv)), h) := by
  obtain ⟨m, rfl⟩ : ∃ m, n = m + 1 := ⟨n - 1, by omega⟩
  refine fun_pure F106 rfl rfl rfl (pure_lst entry_pure l rfl) ?_
  conv => whnf
  refine brd (fun a => ?_) (fun a => ?_)
  · conv => whnf
    exact retP rfl (frz_bool (by simp [valid, within]; omega))
  conv => whnf
  refine brd (fun b => ?_) (fun b => ?_)
  · conv => whnf
    exact retP rfl (frz_bool (by simp [valid, within]; omega))
  have W : within lv 0 20 = true := within_iff.2 (by omega)
  conv => whnf
  refine bre (fun z => ?_) (fun z => ?_)
  · subst z
    conv => whnf
    refine brd (fun d => ?_) (fun d => ?_)
    · have : l = [] := List.length_eq_zero_iff.1 (by rw [List.length_map] at d; omega)
      conv => whnf
      exact retP rfl (frz_bool (by subst this; rfl))
    · have hne : l ≠ [] := by rintro rfl; simp at d
      conv => whnf
      refine refValid_loop (by omega) l hl 0 sz hz c (by omega) (fun q => (q rfl).elim) ⟨⟨rfl, rfl, rfl⟩, rfl, rfl⟩ (fun e L hp => ?_) (fun j hj e L hp hk => ?_)
      · refine cutI (by decide) rfl (t := ⟨[], hp, []⟩) ⟨trivial, rfl, rfl⟩ ?_
        conv => whnf
        exact retP rfl (frz_bool (valid_good W hne (.inl rfl) e).symm)
      · exact retK hk (frz_bool (valid_bad hj e).symm)
  · conv => whnf
    refine brd (fun zp => ?_) (fun q => absurd (by omega) q)
    conv => whnf
    refine brd (fun d => ?_) (fun d => ?_)
    · have : ¬ 2 ≤ l.length := by rw [List.length_map] at d; omega
      conv => whnf
      exact retP rfl (frz_bool (by simp [valid, *]))
    · have h2 : 2 ≤ l.length := by rw [List.length_map] at d; omega
      have h0 : 0 < l.length := by omega
      have hne : l ≠ [] := by rintro rfl; simp at h0
      have k0 : l[0].key = keyAt l 0 := by simp [keyAt, h0]
      conv => whnf
      refine ixL entry_cells (j := 0) h0 hz ?_
      conv => whnf
      refine brq (fun g => ?_) (fun g => ?_)
      · conv => whnf
        rw [k0] at g
        exact retP rfl (frz_bool (by simp [valid, *]))
      · conv => whnf
        refine refValid_loop (by omega) l hl lv sz hz c (by omega) (fun _ _ => g) ⟨⟨rfl, rfl, rfl⟩, rfl, rfl⟩ (fun e L hp => ?_) (fun j hj e L hp hk => ?_)
        · refine cutI (by decide) rfl (t := ⟨[], hp, []⟩) ⟨trivial, rfl, rfl⟩ ?_
          conv => whnf
          exact retP rfl (frz_bool (valid_good W hne (.inr ⟨h2, by rw [← k0]; exact g⟩) e).symm)
        · exact retK hk (frz_bool (valid_bad hj e).symm)
end
end Go.Proofs
