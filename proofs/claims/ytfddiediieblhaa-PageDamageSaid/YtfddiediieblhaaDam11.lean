/- The law PageDamage: for every input it returns true. -/
import Derived.Test.YtfddiediieblhaaDam10
import Derived.Test.YtfddiediieblhaaDam7
import Derived.Test.YtfddiediieblhaaDam9
import Derived.Test.YtfddiediieblhaaDam6
import Derived.Test.YtfddiediieblhaaRows
/- Contracts: blocks whose bodies are read. -/
set_option linter.unusedVariables false
set_option linter.unusedSimpArgs false
namespace Go.Proofs
open Go Go.Abs
inductive Bdy where
  | nd (x : NodeP)
  | pc (x : Nat × Str)
  | ls (x : Nat × List (Nat × List Nat))
def pbody (k : Nat) (s : Str) : Option Bdy := if k = 1 ∨ k = 2 then (pnode s).map fun x => .nd x.1 else if k = 3 then (ppiece s).map fun x => .pc x.1 else (plist s).map fun x => .ls x.1
structure Blk where
  kind : Nat
  no : Nat
  ver : Nat
  bd : Bdy
def pread (s : Str) : Option Blk := (pnum 1 ((s.take 508).drop 1)).bind fun k => (pnum 4 k.2).bind fun no => (pnum 6 no.2).bind fun v => (pbody k.1 v.2).map fun b => ⟨k.1, no.1, v.1, b⟩
/-- What a page has that was read. -/
def BdIs (q : Page) : Bdy → Prop
  | .nd x => q.tree = x.tree ∧ q.level = x.lv ∧ q.top = x.top ∧ q.entries = x.es ∧ q.next = 0 ∧ q.data = [] ∧ q.freed = []
  | .pc x => q.tree = 0 ∧ q.level = 0 ∧ q.top = false ∧ q.entries = [] ∧ q.next = x.1 ∧ q.data = x.2 ∧ q.freed = []
  | .ls x => q.tree = 0 ∧ q.level = 0 ∧ q.top = false ∧ q.entries = [] ∧ q.next = x.1 ∧ q.data = [] ∧ FsAre q.freed x.2
structure BlkIs (q : Page) (x : Blk) : Prop where
  kind : q.kind = x.kind
  no : q.no = x.no
  ver : q.ver = x.ver
  bd : BdIs q x.bd
  esz : q.entries ≠ [] → q.esh.sz = 22
  fsz : q.freed ≠ [] → q.fsh.sz = 2
def zeroPg : Page := ⟨0, 0, 0, 0, 0, false, ⟨0, true⟩, [], 0, [], ⟨0, true⟩, []⟩
theorem zeroPg_cells : zeroPg.cells = zeroP := rfl
def ReadS (s : Str) (r : CRes) : Prop := match pread s with
  | none => r = .ret (.tup [.agg zeroP, .bool false])
  | some x => ∃ q : Page, r = .ret (.tup [q.av, .bool true]) ∧ BlkIs q x
theorem gs {h : AHeap} {x y : Nat} {v w : AB} (e : h[x]? = some v) (n : y ≠ x) : (h.set y w)[x]? = some v := by rw [List.getElem?_set_ne n]; exact e
theorem ge {h : AHeap} {x : Nat} {v w : AB} (e : h[x]? = some v) : (h.set x w)[x]? = some w := List.getElem?_set_self (lt_of_get e)
theorem cells_of {xs : List AV} (h : xs.all AV.scal = true) : AV.cells? (.agg xs) = some xs := by
  show (if xs.all AV.scal = true then some xs else none) = _
  rw [if_pos h]
theorem pg_cells {a b c d e g : Int} {f : Bool} {t : Str} {L L' : AV} (h1 : L.scal = true) (h2 : L'.scal = true) : AV.cells? (.agg [i64 a, i64 b, i64 c, i64 d, i64 e, .bool f, L, i64 g, .str t, L']) = some [i64 a, i64 b, i64 c, i64 d, i64 e, .bool f, L, i64 g, .str t, L'] := cells_of (by simp only [List.all_cons, List.all_nil, h1, h2, Bool.and_true]; rfl)
theorem GBuf.one {el : TypeId} {sz : Nat} {h : AHeap} {X : Nat} {L : AV} {rows : List (List AV)} {G : List Nat} (g : GBuf el sz h X L rows G) : L.cells? = some [L] ∧ L.scal = true := by
  rcases g.2 with ⟨rfl, _⟩ | ⟨eb, ver, frz, rfl, _⟩ <;> exact ⟨rfl, rfl⟩
theorem allM_page {h : AHeap} {a b c d e g : Int} {f : Bool} {t : Str} {L M L' M' : AV} (h1 : Abs.frz h 62 L = some M) (h2 : Abs.frz h 62 L' = some M') :
    allM (Abs.frz h 62) [i64 a, i64 b, i64 c, i64 d, i64 e, .bool f, L, i64 g, .str t, L'] = some [i64 a, i64 b, i64 c, i64 d, i64 e, .bool f, M, i64 g, .str t, M'] := by
  have fi : ∀ k : Int, Abs.frz h 62 (i64 k) = some (i64 k) := fun _ => rfl
  have fb : Abs.frz h 62 (.bool f) = some (.bool f) := rfl
  have fs : Abs.frz h 62 (.str t) = some (.str t) := rfl
  simp only [allM, fi, fb, fs, h1, h2]
theorem frz_nil {h : AHeap} : Abs.frz h 62 (.lst 0 [] true) = some (.lst 0 [] true) := rfl
theorem LV.stays' {h h' : AHeap} {Y b : Nat} {LL : AV} {ts : List FT} {G I : List Nat} (v : LV h Y LL ts G I) (hG : ∀ z ∈ G, b ≤ z) (hI : ∀ z ∈ I, b ≤ z) (e : ∀ x, b ≤ x → x < h.length → h'[x]? = h[x]?) : LV h' Y LL ts G I := by
  refine ⟨⟨v.buf.1, ?_⟩, fun t ht => ?_⟩
  · rcases v.buf.2 with r | ⟨eb, ver, frz, h1, h2, h3, h4, rfl⟩
    · exact .inl r
    · exact .inr ⟨eb, ver, frz, h1, by rw [e eb (hG eb (by simp)) (lt_of_get h2)]; exact h2, h3, h4, rfl⟩
  · rcases v.inr t ht with r | ⟨eb, ver, frz, h1, h2, h3⟩
    · exact .inl r
    · exact .inr ⟨eb, ver, frz, h1, by rw [e eb (hI eb h3) (lt_of_get h2)]; exact h2, h3⟩
structure RS (h : AHeap) (cs : List AV) (t : Str) : Prop where
  p : h[0]? = some (.cells 0 (some 25) cs 0)
  i : h[1]? = some (.cells 0 (some 4) [.bool false] 0)
  r : RDs h 2 t
theorem RS.next {h h' : AHeap} {cs : List AV} {t t' : Str} (a : RS h cs t) (k : Keep h h' [2]) (r : RDs h' 2 t') : RS h' cs t' := ⟨k.get a.p (by simp), k.get a.i (by simp), r⟩
theorem RS.set {h : AHeap} {cs cs' : List AV} {t : Str} (a : RS h cs t) : RS (h.set 0 (.cells 0 (some 25) cs' 0)) cs' t := ⟨ge a.p, gs a.i (by decide), a.r.stays (Keep.set (F := [0]) (by simp)) (by simp)⟩
section
variable {m : Nat} {s : Str}
abbrev ReadQ (m : Nat) (s : Str) : Ex → LS → Prop := EndQ Try.prog (C m) cfg0.inl [.cell 2 25, .cell 3 4] (fun r h => ∃ r', OutR r' r h ∧ ReadS s r')
abbrev dfR : List DI := [.fn 62 [.ptr 0 0 0, .ptr 1 0 0]]
theorem fine_rec : fnOk Try.prog 62 = true := D62.fine
theorem page_ld {h : AHeap} {b : Nat} {cs : List AV} (hl : cs.length = 10) (hb : h[b]? = some (.cells 0 (some 25) cs 0)) : loadA Try.prog h 25 (.ptr b 0 0) = some (.agg cs) := load_agg (N := 10) (by kernel_rfl) hl hb
theorem bool_ld {h : AHeap} {b : Nat} {v : AV} (hb : h[b]? = some (.cells 0 (some 4) [v] 0)) : loadA Try.prog h 4 (.ptr b 0 0) = some v := load_one (N := 1) (by kernel_rfl) hb
theorem read_fails {L : LT} {h : AHeap} {cs : List AV} (hn : pread s = none) (h2 : lk L 2 = some (.ptr 0 0 0)) (h3 : lk L 3 = some (.ptr 1 0 0)) (hP : h[0]? = some (.cells 0 (some 25) cs 0)) (hc : cs.length = 10) (hI : h[1]? = some (.cells 0 (some 4) [.bool false] 0)) : ReadQ m s (.pan badV) ⟨L, h, dfR⟩ := by
  obtain ⟨h', e, g1, g2⟩ := rec_bad (m := m) hP hc hI
  refine ⟨fine_rec, _, h', e, [.agg zeroP, .bool false], ?_, _, ⟨_, rfl, rfl⟩, ?_⟩
  · simp only [resAL, h2, h3, page_ld rfl g1, bool_ld g2]
  · unfold ReadS
    rw [hn]
    rfl
theorem read_good {L : LT} {h : AHeap} {cs : List AV} (h2 : lk L 2 = some (.ptr 0 0 0)) (h3 : lk L 3 = some (.ptr 1 0 0)) (hP : h[0]? = some (.cells 0 (some 25) cs 0)) (hc : cs.length = 10) (hI : h[1]? = some (.cells 0 (some 4) [.bool true] 0)) {q : Page} (hf : allM (frz h 62) cs = some q.cells) {x : Blk} (hx : pread s = some x) (hq : BlkIs q x) : ReadQ m s .ret ⟨L, h, dfR⟩ := by
  obtain ⟨h', e, rfl⟩ := rec_ret (m := m) (h := h) (P := 0) (I := 1)
  refine ⟨fine_rec, _, h', e, [.agg cs, .bool true], ?_, .ret (.tup [q.av, .bool true]), ⟨_, ?_, rfl⟩, ?_⟩
  · simp only [resAL, h2, h3, page_ld hc hP, bool_ld hI]
  · show frz h' 64 (.tup [.agg cs, .bool true]) = some (.tup [q.av, .bool true])
    have e1 : frz h' 63 (.agg cs) = some q.av := by
      unfold frz
      simp only [hf]
      rfl
    unfold frz allM allM
    simp only [e1]
    rfl
  · unfold ReadS
    rw [hx]
    exact ⟨q, rfl, hq⟩
abbrev pgCells (k no v : Nat) : List AV := [i64 k, i64 no, i64 v, i64 0, i64 0, .bool false, .lst 0 [] true, i64 0, .str [], .lst 0 [] true]
theorem rest_node (hn : 6 ≤ m) {h3 : AHeap} {k no v : Nat} {t : Str} (a : RS h3 (pgCells k no v) t) (hk : k = 1 ∨ k = 2) (hx : pread s = (pbody k t).map fun b => ⟨k, no, v, b⟩) :
    OkR Try.prog (C m) cfg0.inl KK 61 6 (cutOf c35) ⟨[(2, .ptr 0 0 0), (3, .ptr 1 0 0), (4, .ptr 2 0 0)], h3, dfR⟩ (ReadQ m s) := by
  refine cutS (by decide) rfl ?_
  conv => whnf
  refine ldI a.p ?_
  obtain ⟨r4, h4, eB, sB⟩ := node_rd (n := m) (by omega) a.r (k : Int) (by omega)
  have l3 := a.r.lt
  conv => whnf
  cases hp : pnode t with
  | none =>
    rw [hp] at sB
    obtain ⟨rfl, k4⟩ := sB
    refine clP eB ?_
    exact read_fails (by rw [hx]; simp only [pbody, if_pos hk, hp, Option.map_none]) rfl rfl (k4.get a.p (by simp)) rfl (k4.get a.i (by simp))
  | some x =>
    obtain ⟨x, u⟩ := x
    rw [hp] at sB
    obtain ⟨X, L, G, rfl, r4, g4, k4, lX, gG⟩ := sB
    have g1 := g4.one
    have lG := g4.lt lX
    have e0 := k4.get a.p (by simp)
    have eI := k4.get a.i (by simp)
    have l0 := lt_of_get e0
    have l1 := lt_of_get eI
    refine clI eB ?_
    conv => whnf
    refine stI (xs := [i64 x.tree, i64 x.lv, .bool x.top, L]) (get_last _ _) (cells_of (by simp only [List.all_cons, List.all_nil, g1.2, Bool.and_true]; rfl)) (by rfl) (by rfl) (by rfl) ?_
    have es : (h4 ++ [AB.cells 0 (some 115) [i64 0, i64 0, .bool false, .lst 0 [] true] 0]).set h4.length (AB.cells 0 (some 115) (putAt [i64 0, i64 0, .bool false, .lst 0 [] true] 0 [i64 x.tree, i64 x.lv, .bool x.top, L]) 0) = h4 ++ [AB.cells 0 (some 115) [i64 x.tree, i64 x.lv, .bool x.top, L] 0] := by simp [putAt]
    have fin : ∀ hf : AHeap, (∀ y ∈ G, hf[y]? = h4[y]?) → hf[0]? = some (.cells 0 (some 25) [i64 k, i64 no, i64 v, i64 x.tree, i64 x.lv, .bool x.top, L, i64 0, .str [], .lst 0 [] true] 0) → hf[1]? = some (.cells 0 (some 4) [.bool true] 0) → ∀ Lt : LT, lk Lt 2 = some (.ptr 0 0 0) → lk Lt 3 = some (.ptr 1 0 0) → ReadQ m s .ret ⟨Lt, hf, dfR⟩ := fun hf hG hP hI Lt h2 h3 => by
      obtain ⟨sh, f1, f2⟩ := frz_ents (g4.stays fun y hy _ => hG y hy) 60
      exact read_good (x := ⟨k, no, v, .nd x⟩) (q := ⟨k, no, v, x.tree, x.lv, x.top, sh, x.es, 0, [], ⟨0, true⟩, []⟩) h2 h3 hP rfl hI (allM_page f1 frz_nil) (by rw [hx]; simp only [pbody, if_pos hk, hp, Option.map_some]) ⟨rfl, rfl, rfl, ⟨rfl, rfl, rfl, rfl, rfl, rfl, rfl⟩, f2, fun h => (h rfl).elim⟩
    have n0 : (h4.length : Nat) ≠ 0 := by omega
    have n1 : (h4.length : Nat) ≠ 1 := by omega
    have eX := get_set_last h4 (AB.cells 0 (some 115) [i64 0, i64 0, .bool false, .lst 0 [] true] 0) (AB.cells 0 (some 115) (putAt [i64 0, i64 0, .bool false, .lst 0 [] true] 0 [i64 x.tree, i64 x.lv, .bool x.top, L]) 0)
    have eP := gs (w := AB.cells 0 (some 115) (putAt [i64 0, i64 0, .bool false, .lst 0 [] true] 0 [i64 x.tree, i64 x.lv, .bool x.top, L]) 0) (get_app (x := AB.cells 0 (some 115) [i64 0, i64 0, .bool false, .lst 0 [] true] 0) e0) n0
    have eJ := gs (w := AB.cells 0 (some 115) (putAt [i64 0, i64 0, .bool false, .lst 0 [] true] 0 [i64 x.tree, i64 x.lv, .bool x.top, L]) 0) (get_app (x := AB.cells 0 (some 115) [i64 0, i64 0, .bool false, .lst 0 [] true] 0) eI) n1
    conv => whnf
    refine ldI eX ?_
    conv => whnf
    refine ldI eX ?_
    conv => whnf
    refine ldI eX ?_
    conv => whnf
    refine ldI eX ?_
    conv => whnf
    refine stI eP (by rfl) (by rfl) (by rfl) (by rfl) ?_
    conv => whnf
    refine ⟨?_, ?_⟩
    · repeat' (conv => whnf); first | exact ldI (gs eX n0.symm) rfl | refine ⟨?_, ?_⟩
    conv => whnf
    refine stI (ge eP) (by rfl) (by rfl) (by rfl) (by rfl) ?_
    conv => whnf
    refine ⟨?_, ?_⟩
    · repeat' (conv => whnf); first | exact ldI (gs (gs eX n0.symm) n0.symm) rfl | refine ⟨?_, ?_⟩
    conv => whnf
    refine stI (ge (ge eP)) (by rfl) (by rfl) (by rfl) (by rfl) ?_
    conv => whnf
    refine ⟨?_, ?_⟩
    · repeat' (conv => whnf); first | exact ldI (gs (gs (gs eX n0.symm) n0.symm) n0.symm) rfl | refine ⟨?_, ?_⟩
    conv => whnf
    refine stI (ge (ge (ge eP))) g1.1 (by rfl) (by rfl) (by rfl) ?_
    conv => whnf
    refine ldI (ge (ge (ge (ge eP)))) ?_
    conv => whnf
    refine stI (xs := [i64 k, i64 no, i64 v, i64 x.tree, i64 x.lv, .bool x.top, L, i64 0, .str [], .lst 0 [] true]) (ge (ge (ge (ge eP)))) (pg_cells g1.2 rfl) (by rfl) (by rfl) (by rfl) ?_
    conv => whnf
    refine stI (gs (gs (gs (gs (gs eJ (by decide)) (by decide)) (by decide)) (by decide)) (by decide)) (by rfl) (by rfl) (by rfl) (by rfl) ?_
    refine fin _ (fun y hy => ?_) (gs (ge (ge (ge (ge (ge eP))))) (by decide)) (ge (gs (gs (gs (gs (gs eJ (by decide)) (by decide)) (by decide)) (by decide)) (by decide))) _ rfl rfl
    have y1 := gG y hy
    have y2 := lG y hy
    rw [List.getElem?_set_ne (by omega), List.getElem?_set_ne (by omega), List.getElem?_set_ne (by omega), List.getElem?_set_ne (by omega), List.getElem?_set_ne (by omega), List.getElem?_set_ne (by omega), List.getElem?_set_ne (by omega), List.getElem?_append_left y2]
theorem rest_piece (hn : 6 ≤ m) {h3 : AHeap} {k no v : Nat} {t : Str} (a : RS h3 (pgCells k no v) t) (hk : k = 3) (hx : pread s = (pbody k t).map fun b => ⟨k, no, v, b⟩) :
    OkR Try.prog (C m) cfg0.inl KK 61 6 (cutOf c35) ⟨[(2, .ptr 0 0 0), (3, .ptr 1 0 0), (4, .ptr 2 0 0)], h3, dfR⟩ (ReadQ m s) := by
  refine cutS (by decide) rfl ?_
  conv => whnf
  refine ldI a.p ?_
  obtain ⟨r4, h4, eB, sB⟩ := (by rw [hk]; exact piece_rd (n := m) (by omega) a.r : ∃ r h, C m 63 [.ptr 2 0 0, i64 (k : Nat)] h3 = some (r, h) ∧ StepR (ppiece t) (PieceR h3 2) (fun h => Keep h3 h [2]) r h)
  have l3 := a.r.lt
  conv => whnf
  cases hp : ppiece t with
  | none =>
    rw [hp] at sB
    obtain ⟨rfl, k4⟩ := sB
    refine clP eB ?_
    exact read_fails (by rw [hx]; simp only [pbody, if_neg (show ¬(k = 1 ∨ k = 2) by omega), if_pos hk, hp, Option.map_none]) rfl rfl (k4.get a.p (by simp)) rfl (k4.get a.i (by simp))
  | some x =>
    obtain ⟨x, u⟩ := x
    rw [hp] at sB
    obtain ⟨rfl, r4, k4⟩ := sB
    have l4 := k4.1
    have e0 := k4.get a.p (by simp)
    have eI := k4.get a.i (by simp)
    have l0 := lt_of_get e0
    have l1 := lt_of_get eI
    refine clI eB ?_
    conv => whnf
    refine stI (xs := [i64 x.1, .str x.2]) (get_last _ _) (cells_of (by simp only [List.all_cons, List.all_nil,  Bool.and_true]; rfl)) (by rfl) (by rfl) (by rfl) ?_
    have fin : ∀ hf : AHeap, hf[0]? = some (.cells 0 (some 25) [i64 k, i64 no, i64 v, i64 0, i64 0, .bool false, .lst 0 [] true, i64 x.1, .str x.2, .lst 0 [] true] 0) → hf[1]? = some (.cells 0 (some 4) [.bool true] 0) → ∀ Lt : LT, lk Lt 2 = some (.ptr 0 0 0) → lk Lt 3 = some (.ptr 1 0 0) → ReadQ m s .ret ⟨Lt, hf, dfR⟩ := fun hf hP hI Lt h2 h3 => by
      exact read_good (x := ⟨k, no, v, .pc x⟩) (q := ⟨k, no, v, 0, 0, false, ⟨0, true⟩, [], x.1, x.2, ⟨0, true⟩, []⟩) h2 h3 hP rfl hI (allM_page frz_nil frz_nil) (by rw [hx]; simp only [pbody, if_neg (show ¬(k = 1 ∨ k = 2) by omega), if_pos hk, hp, Option.map_some]) ⟨rfl, rfl, rfl, ⟨rfl, rfl, rfl, rfl, rfl, rfl, rfl⟩, fun h => (h rfl).elim, fun h => (h rfl).elim⟩
    have n0 : (h4.length : Nat) ≠ 0 := by omega
    have n1 : (h4.length : Nat) ≠ 1 := by omega
    have eX := get_set_last h4 (AB.cells 0 (some 111) [i64 0, .str []] 0) (AB.cells 0 (some 111) (putAt [i64 0, .str []] 0 [i64 x.1, .str x.2]) 0)
    have eP := gs (w := AB.cells 0 (some 111) (putAt [i64 0, .str []] 0 [i64 x.1, .str x.2]) 0) (get_app (x := AB.cells 0 (some 111) [i64 0, .str []] 0) e0) n0
    have eJ := gs (w := AB.cells 0 (some 111) (putAt [i64 0, .str []] 0 [i64 x.1, .str x.2]) 0) (get_app (x := AB.cells 0 (some 111) [i64 0, .str []] 0) eI) n1
    conv => whnf
    refine ldI eX ?_
    conv => whnf
    refine ldI eX ?_
    conv => whnf
    refine stI eP (by rfl) (by rfl) (by rfl) (by rfl) ?_
    conv => whnf
    refine ⟨?_, ?_⟩
    · repeat' (conv => whnf); first | exact ldI (gs eX n0.symm) rfl | refine ⟨?_, ?_⟩
    conv => whnf
    refine stI (ge eP) (by rfl) (by rfl) (by rfl) (by rfl) ?_
    conv => whnf
    refine ldI (ge (ge eP)) ?_
    conv => whnf
    refine stI (xs := [i64 k, i64 no, i64 v, i64 0, i64 0, .bool false, .lst 0 [] true, i64 x.1, .str x.2, .lst 0 [] true]) (ge (ge eP)) (pg_cells rfl rfl) (by rfl) (by rfl) (by rfl) ?_
    conv => whnf
    refine stI (gs (gs (gs eJ (by decide)) (by decide)) (by decide)) (by rfl) (by rfl) (by rfl) (by rfl) ?_
    exact fin _ (gs (ge (ge (ge eP))) (by decide)) (ge (gs (gs (gs eJ (by decide)) (by decide)) (by decide))) _ rfl rfl
theorem rest_list (hn : 6 ≤ m) {h3 : AHeap} {k no v : Nat} {t : Str} (a : RS h3 (pgCells k no v) t) (hk : ¬(k = 1 ∨ k = 2)) (hk3 : k ≠ 3) (hx : pread s = (pbody k t).map fun b => ⟨k, no, v, b⟩) :
    OkR Try.prog (C m) cfg0.inl KK 61 6 (cutOf c35) ⟨[(2, .ptr 0 0 0), (3, .ptr 1 0 0), (4, .ptr 2 0 0)], h3, dfR⟩ (ReadQ m s) := by
  refine cutS (by decide) rfl ?_
  conv => whnf
  refine ldI a.p ?_
  obtain ⟨r4, h4, eB, sB⟩ := list_rd (n := m) (by omega) a.r (k : Int) (by omega) (by omega) (by omega)
  have l3 := a.r.lt
  conv => whnf
  cases hp : plist t with
  | none =>
    rw [hp] at sB
    obtain ⟨rfl, k4⟩ := sB
    refine clP eB ?_
    exact read_fails (by rw [hx]; simp only [pbody, if_neg hk, if_neg hk3, hp, Option.map_none]) rfl rfl (k4.get a.p (by simp)) rfl (k4.get a.i (by simp))
  | some x =>
    obtain ⟨x, u⟩ := x
    rw [hp] at sB
    obtain ⟨Y, LL, ts, G, I, rfl, hts, r4, lv, k4, gG, gI⟩ := sB
    have l4 := k4.1
    have g1 := lv.buf.one
    have e0 := k4.get a.p (by simp)
    have eI := k4.get a.i (by simp)
    have l0 := lt_of_get e0
    have l1 := lt_of_get eI
    refine clI eB ?_
    conv => whnf
    refine stI (xs := [i64 x.1, LL]) (get_last _ _) (cells_of (by simp only [List.all_cons, List.all_nil, g1.2, Bool.and_true]; rfl)) (by rfl) (by rfl) (by rfl) ?_
    have fin : ∀ hf : AHeap, (∀ y, h3.length ≤ y → y < h4.length → hf[y]? = h4[y]?) → hf[0]? = some (.cells 0 (some 25) [i64 k, i64 no, i64 v, i64 0, i64 0, .bool false, .lst 0 [] true, i64 x.1, .str [], LL] 0) → hf[1]? = some (.cells 0 (some 4) [.bool true] 0) → ∀ Lt : LT, lk Lt 2 = some (.ptr 0 0 0) → lk Lt 3 = some (.ptr 1 0 0) → ReadQ m s .ret ⟨Lt, hf, dfR⟩ := fun hf hE hP hI Lt h2 h3 => by
      obtain ⟨sh, fs, f1, f2, f3⟩ := frz_list (lv.stays' gG gI hE) 59
      rw [← hts] at f3
      exact read_good (x := ⟨k, no, v, .ls x⟩) (q := ⟨k, no, v, 0, 0, false, ⟨0, true⟩, [], x.1, [], sh, fs⟩) h2 h3 hP rfl hI (allM_page frz_nil f1) (by rw [hx]; simp only [pbody, if_neg hk, if_neg hk3, hp, Option.map_some]) ⟨rfl, rfl, rfl, ⟨rfl, rfl, rfl, rfl, rfl, rfl, f3⟩, fun h => (h rfl).elim, f2⟩
    have n0 : (h4.length : Nat) ≠ 0 := by omega
    have n1 : (h4.length : Nat) ≠ 1 := by omega
    have eX := get_set_last h4 (AB.cells 0 (some 113) [i64 0, .lst 0 [] true] 0) (AB.cells 0 (some 113) (putAt [i64 0, .lst 0 [] true] 0 [i64 x.1, LL]) 0)
    have eP := gs (w := AB.cells 0 (some 113) (putAt [i64 0, .lst 0 [] true] 0 [i64 x.1, LL]) 0) (get_app (x := AB.cells 0 (some 113) [i64 0, .lst 0 [] true] 0) e0) n0
    have eJ := gs (w := AB.cells 0 (some 113) (putAt [i64 0, .lst 0 [] true] 0 [i64 x.1, LL]) 0) (get_app (x := AB.cells 0 (some 113) [i64 0, .lst 0 [] true] 0) eI) n1
    conv => whnf
    refine ldI eX ?_
    conv => whnf
    refine ldI eX ?_
    conv => whnf
    refine stI eP (by rfl) (by rfl) (by rfl) (by rfl) ?_
    conv => whnf
    refine ⟨?_, ?_⟩
    · repeat' (conv => whnf); first | exact ldI (gs eX n0.symm) rfl | refine ⟨?_, ?_⟩
    conv => whnf
    refine stI (ge eP) g1.1 (by rfl) (by rfl) (by rfl) ?_
    conv => whnf
    refine ldI (ge (ge eP)) ?_
    conv => whnf
    refine stI (xs := [i64 k, i64 no, i64 v, i64 0, i64 0, .bool false, .lst 0 [] true, i64 x.1, .str [], LL]) (ge (ge eP)) (pg_cells rfl g1.2) (by rfl) (by rfl) (by rfl) ?_
    conv => whnf
    refine stI (gs (gs (gs eJ (by decide)) (by decide)) (by decide)) (by rfl) (by rfl) (by rfl) (by rfl) ?_
    refine fin _ (fun y y1 y2 => ?_) (gs (ge (ge (ge eP))) (by decide)) (ge (gs (gs (gs eJ (by decide)) (by decide)) (by decide))) _ rfl rfl
    rw [List.getElem?_set_ne (by omega), List.getElem?_set_ne (by omega), List.getElem?_set_ne (by omega), List.getElem?_set_ne (by omega), List.getElem?_set_ne (by omega), List.getElem?_append_left y2]
theorem okR_sub {P : Program} {call : CallF} {inl : FuncId → Bool} {k n d : Nat} {rc : RC} {Q : Ex → LS → Prop} {s t : LS} (hs : LS.sub t s) (hw : OkR P call inl k n d rc t Q) : OkR P call inl k n d rc s Q := by
  intro c hc tm H
  obtain ⟨e1, e2, e3⟩ := hs
  have := hw c hc tm (HasL.sub e1 H)
  rw [← e2, ← e3] at this
  exact this
theorem read_eq (hn : 6 ≤ m) (hl : s.length = 512) : ∃ r, (∀ h, C (m + 1) 35 [.str s] h = some (r, h)) ∧ ReadS s r := by
  refine fun_pureX F35 rfl rfl rfl rfl ?_
  conv => whnf
  refine ⟨rfl, .fn 62 [.ptr 0 0 0, .ptr 1 0 0], rfl, ?_⟩
  conv => whnf
  refine ss_hi (s := s) (c := 508) (by omega) ?_
  have a0 : RS [AB.cells 0 (some 25) zeroP 0, AB.cells 0 (some 4) [.bool false] 0, AB.cells 0 (some tRdr) [.str (s.take 508), i64 ((1 : Nat) : Int)] 0] zeroP ((s.take 508).drop 1) := ⟨rfl, rfl, s.take 508, 1, rfl, by rw [List.length_take]; omega, by rw [List.length_take]; omega, rfl⟩
  conv => whnf
  refine rnumC (n := m) (hp := [AB.cells 0 (some 25) zeroP 0, AB.cells 0 (some 4) [.bool false] 0, AB.cells 0 (some tRdr) [.str (s.take 508), i64 ((1 : Nat) : Int)] 0]) (by omega) a0.r 1 (by omega) (fun h1 qh1 rh1 kh1 => ?_) (fun q => ?_)
  rotate_left
  · exact read_fails (by simp only [pread, pnum, if_neg (Nat.not_le.2 q), Option.bind_none]) rfl rfl a0.p rfl a0.i
  have b1 := a0.next kh1 rh1
  have a1 := b1.set (cs' := putAt zeroP (0 + 0) [i64 (unnum (((s.take 508).drop 1).take 1))])
  conv => whnf
  refine stI b1.p (by rfl) (by rfl) (by rfl) (by rfl) ?_
  conv => whnf
  refine rnumC (n := m) (hp := _) (by omega) a1.r 4 (by omega) (fun h2 qh2 rh2 kh2 => ?_) (fun q => ?_)
  rotate_left
  · exact read_fails (by simp only [pread, pnum, if_pos qh1, Option.bind_some, if_neg (Nat.not_le.2 q), Option.bind_none]) rfl rfl a1.p rfl a1.i
  have b2 := a1.next kh2 rh2
  have a2 := b2.set (cs' := putAt (putAt zeroP (0 + 0) [i64 (unnum (((s.take 508).drop 1).take 1))]) (0 + 1) [i64 (unnum ((((s.take 508).drop 1).drop 1).take 4))])
  conv => whnf
  refine stI b2.p (by rfl) (by rfl) (by rfl) (by rfl) ?_
  conv => whnf
  refine rnumC (n := m) (hp := _) (by omega) a2.r 6 (by omega) (fun h3 qh3 rh3 kh3 => ?_) (fun q => ?_)
  rotate_left
  · exact read_fails (by simp only [pread, pnum, if_pos qh1, if_pos qh2, Option.bind_some, if_neg (Nat.not_le.2 q), Option.bind_none]) rfl rfl a2.p rfl a2.i
  have b3 := a2.next kh3 rh3
  have a3 := b3.set (cs' := pgCells (unnum (((s.take 508).drop 1).take 1)) (unnum ((((s.take 508).drop 1).drop 1).take 4)) (unnum (((((s.take 508).drop 1).drop 1).drop 4).take 6)))
  have hx : pread s = (pbody (unnum (((s.take 508).drop 1).take 1)) (((((s.take 508).drop 1).drop 1).drop 4).drop 6)).map fun b => ⟨unnum (((s.take 508).drop 1).take 1), unnum ((((s.take 508).drop 1).drop 1).take 4), unnum (((((s.take 508).drop 1).drop 1).drop 4).take 6), b⟩ := by
    simp only [pread, pnum, if_pos qh1, if_pos qh2, if_pos qh3, Option.bind_some]
  have key : OkR Try.prog (C m) cfg0.inl KK 61 6 (cutOf c35) ⟨[(2, .ptr 0 0 0), (3, .ptr 1 0 0), (4, .ptr 2 0 0)], h3.set 0 (.cells 0 (some 25) (pgCells (unnum (((s.take 508).drop 1).take 1)) (unnum ((((s.take 508).drop 1).drop 1).take 4)) (unnum (((((s.take 508).drop 1).drop 1).drop 4).take 6))) 0), dfR⟩ (ReadQ m s) := by
    by_cases hk : unnum (((s.take 508).drop 1).take 1) = 1 ∨ unnum (((s.take 508).drop 1).take 1) = 2
    · exact rest_node hn a3 hk hx
    · by_cases hk3 : unnum (((s.take 508).drop 1).take 1) = 3
      · exact rest_piece hn a3 hk3 hx
      · exact rest_list hn a3 hk hk3 hx
  conv => whnf
  refine stI b3.p (by rfl) (by rfl) (by rfl) (by rfl) ?_
  refine okR_sub ?_ key
  exact ⟨⟨rfl, rfl, rfl⟩, rfl, rfl⟩
end
end Go.Proofs
/- Contracts: heads, blocks compared. -/
set_option linter.unusedVariables false
set_option linter.unusedSimpArgs false
namespace Go.Proofs
open Go Go.Abs
def Z512 : List AV := match c36 with
  | .seq (.ops (⟨_, _, .op (.alloc _ z)⟩ :: _)) _ => z
  | _ => []
theorem Z_len : Z512.length = 512 := by kernel_rfl
theorem part_all {cs : List AV} {n : Nat} (h : cs.length = n) : partR true n cs 0 = some (.agg cs) := by
  unfold partR
  rw [if_pos rfl, if_pos (by omega), List.drop_zero, List.take_of_length_le (by omega)]
section
variable {n : Nat} {h : AHeap}
set_option maxRecDepth 20000 in
theorem blockOf_eq (hn : 1 ≤ n) (s : Str) (hl : s.length = 512) : C n 36 [.str s] h = some (.ret (.agg (s.map u8)), h) := by
  obtain ⟨m, rfl⟩ : ∃ m, n = m + 1 := ⟨n - 1, by omega⟩
  refine fun_pure F36 rfl rfl rfl rfl ?_
  have d1 : ([AB.cells 0 (some 87) Z512 0, AB.cells 0 (some 87) Z512 0] : AHeap)[1]? = some (.cells 0 (some 87) Z512 0) := rfl
  conv => whnf
  refine ⟨_, _, _, d1, ⟨by rw [Z_len]; decide, by decide⟩, ?_⟩
  refine slI (v := .sl 1 1 0 0 512) rfl ?_
  conv => whnf
  have ec : cpyR [AB.cells 0 (some 87) Z512 0, AB.cells 0 (some 87) Z512 0] 1 (.sl 1 1 0 0 512) (.str s) = some (.int .i64 512, some [AB.cells 0 (some 87) Z512 0, AB.cells 0 (some 87) (s.map u8) 0]) := by
    unfold cpyR
    simp only [slLen, lenA, hl, Nat.min_self]
    have hf : firstA [AB.cells 0 (some 87) Z512 0, AB.cells 0 (some 87) Z512 0] 1 512 (.str s) = some (s.map u8) := by
      have := first_str [AB.cells 0 (some 87) Z512 0, AB.cells 0 (some 87) Z512 0] s
      rwa [hl] at this
    rw [hf]
    simp only
    rw [if_neg (by decide)]
    rw [d1]
    simp only
    rw [if_pos ⟨trivial, trivial, Nat.le_refl _, by rw [List.length_map, hl, Z_len]; decide, u8_scal _⟩]
    have : putAt Z512 0 (s.map u8) = s.map u8 := by
      unfold putAt
      rw [List.take_zero, List.nil_append, List.drop_of_length_le (by rw [Z_len, List.length_map, hl]; decide), List.append_nil]
    rw [this]; rfl
  refine ⟨_, ec, ?_⟩
  conv => whnf
  have e2 : ([AB.cells 0 (some 87) Z512 0, AB.cells 0 (some 87) (s.map u8) 0] : AHeap)[1]? = some (.cells 0 (some 87) (s.map u8) 0) := rfl
  have e1 : ([AB.cells 0 (some 87) Z512 0, AB.cells 0 (some 87) (s.map u8) 0] : AHeap)[0]? = some (.cells 0 (some 87) Z512 0) := rfl
  have hm : (s.map u8).length = 512 := by rw [List.length_map]; exact hl
  have hput : putAt Z512 0 (s.map u8) = s.map u8 := by
    unfold putAt
    rw [List.take_zero, List.nil_append, List.drop_of_length_le (by rw [Z_len, hm]; decide), List.append_nil]
  refine ldI e2 ?_
  refine wpartI (part_all hm) ?_
  conv => whnf
  refine stI (xs := s.map u8) e1 (cells_of (u8_scal _)) hm (by rw [hm, Z_len]; rfl) (by rfl) ?_
  refine ⟨rfl, [.agg (s.map u8)], ?_, ?_⟩
  · have := load_agg (h := ([AB.cells 0 (some 87) Z512 0, AB.cells 0 (some 87) (s.map u8) 0] : AHeap).set 0 (.cells 0 (some 87) (putAt Z512 0 (s.map u8)) 0)) (t := 87) (N := 512) (b := 0) (ver := 0) (el := some 87) (cs := s.map u8) (f := 0) (by kernel_rfl) hm (by rw [hput]; rfl)
    show (match loadA Try.prog (([AB.cells 0 (some 87) Z512 0, AB.cells 0 (some 87) (s.map u8) 0] : AHeap).set 0 (.cells 0 (some 87) (putAt Z512 0 (s.map u8)) 0)) 87 (.ptr 0 0 0) with | some v => some [v] | none => none) = _
    rw [this]
  · exact frzOk_agg (n := 63) (fun x hx => by obtain ⟨c, _, rfl⟩ := List.mem_map.1 hx; exact frzOk_int) _
theorem eq_block (a b : Str) (ha : a.length = 512) (hb : b.length = 512) : eqA Try.prog 20 87 (.agg (a.map u8)) (.agg (b.map u8)) = some (decide (a = b)) := by
  have e0 : Try.prog.underlying 87 = some (.array 512 5) := by kernel_rfl
  obtain ⟨d, e1, e2⟩ : ∃ d, ti Try.prog 5 = some d ∧ (isAggD d.desc = false ∧ d.size = 1) := by
    have : (ti Try.prog 5).map (fun d => (isAggD d.desc, d.size)) = some (false, 1) := by kernel_rfl
    obtain ⟨d, h1, h2⟩ := Option.map_eq_some_iff.1 this
    simp only [Prod.mk.injEq] at h2
    exact ⟨d, h1, h2⟩
  unfold eqA
  simp only [e0, e1]
  unfold itemsF
  rw [if_pos ⟨e2.1, e2.2, by rw [List.length_map, ha], by rw [List.length_map, hb]⟩]
  simp only
  have e2 : ∀ (x y : UInt8), eqA Try.prog 19 5 (.int .u8 x.toNat) (.int .u8 y.toNat) = some (((x.toNat : Nat) : Int) == y.toNat) := fun x y => by kernel_rfl
  exact allEq_u8 (fun x y => by rw [e2, eq_u8]) a b (by rw [ha, hb])
/-- The numbers of a head. -/
def headOf (s : Str) : AV := .tup [i64 (unnum ((s.drop 1).take 1)), i64 (unnum (((s.drop 1).drop 1).take 4)), i64 (unnum ((((s.drop 1).drop 1).drop 4).take 6)), i64 0]
theorem head_good (hn : 4 ≤ n) (s : Str) (hb : headOk s = true) : C n 34 [.str s] h = some (.ret (headOf s), h) := by
  obtain ⟨m, rfl⟩ : ∃ m, n = m + 1 := ⟨n - 1, by omega⟩
  unfold headOk at hb
  simp only [Bool.and_eq_true, decide_eq_true_eq] at hb
  obtain ⟨hl, b0, b1, b2⟩ := hb
  refine fun_pure F34 rfl rfl rfl rfl ?_
  have e0 : s.getD 0 0 = s[0]'(by omega) := by simp [hl]
  have e1 : s.getD 1 0 = s[1]'(by omega) := by simp [hl]
  rw [e0] at b0
  rw [e1] at b2
  have r0 : RDs [AB.cells 0 (some tRdr) [.str s, i64 ((1 : Nat) : Int)] 0] 0 (s.drop 1) := ⟨s, 1, rfl, by omega, by omega, rfl⟩
  conv => whnf
  refine brq (fun a => absurd a (by omega)) (fun _ => ?_)
  conv => whnf
  refine strI (b := s[0]'(by omega)) (by omega) (List.getElem?_eq_getElem (by omega)) ?_
  conv => whnf
  refine brq (fun a => absurd ((u8_eq85 _).2 b0) a) (fun _ => ?_)
  conv => whnf
  refine ss_hi (c := 508) (by omega) ?_
  conv => whnf
  refine clI (ended_eq (n := m) (by omega) (s.take 508) (by rw [List.length_take]; omega)) ?_
  conv => whnf
  refine br (fun a => absurd b1 (by simpa using a)) (fun _ => ?_)
  conv => whnf
  refine strI (b := s[1]'(by omega)) (by omega) (List.getElem?_eq_getElem (by omega)) ?_
  conv => whnf
  refine zI (z := ((s[1]'(by omega)).toNat : Int)) (by have := (s[1]'(by omega)).toNat_lt; exact wrap_i64 (by omega) (by omega)) ?_
  conv => whnf
  refine clI (within_eq (by omega) _ _ _) ?_
  conv => whnf
  refine brn (fun a => by rw [b2] at a; cases a) (fun _ => ?_)
  conv => whnf
  refine rnumC (n := m) (hp := [AB.cells 0 (some tRdr) [.str s, i64 ((1 : Nat) : Int)] 0]) (by omega) r0 1 (by omega) (fun h1 q1 r1 k1 => ?_) (fun q => ?_)
  rotate_left
  · exfalso; rw [List.length_drop] at q; omega
  conv => whnf
  refine rnumC (n := m) (hp := h1) (by omega) r1 4 (by omega) (fun h2 q2 r2 k2 => ?_) (fun q => ?_)
  rotate_left
  · exfalso; simp only [List.length_drop] at q; omega
  conv => whnf
  refine rnumC (n := m) (hp := h2) (by omega) r2 6 (by omega) (fun h3 q3 r3 k3 => ?_) (fun q => ?_)
  rotate_left
  · exfalso; simp only [List.length_drop] at q; omega
  conv => whnf
  exact ⟨rfl, _, rfl, rfl⟩
end
end Go.Proofs
/- What is read is short. -/
set_option linter.unusedVariables false
set_option linter.unusedSimpArgs false
namespace Go.Proofs
open Go Go.Abs
theorem ptext_len {k : Nat} {s a t : Str} (h : ptext k s = some (a, t)) : a.length ≤ s.length ∧ t.length ≤ s.length := by
  unfold ptext at h
  split at h
  · cases h; simp only [List.length_take, List.length_drop]; omega
  · cases h
theorem pnum_len {w v : Nat} {s t : Str} (h : pnum w s = some (v, t)) : t.length ≤ s.length ∧ v < 256 ^ w := by
  unfold pnum at h
  split at h
  · rename_i hl
    cases h
    exact ⟨by rw [List.length_drop]; omega, unnum_lt w _ (by rw [List.length_take]; omega)⟩
  · cases h
theorem psum_len {d : Dg} {s t : Str} (h : psum s = some (d, t)) : t.length ≤ s.length := by
  unfold psum at h
  split at h
  · cases h; rw [List.length_drop]; omega
  · cases h
theorem bind_some' {α β : Type} {o : Option α} {f : α → Option β} {b : β} (h : o.bind f = some b) : ∃ a, o = some a ∧ f a = some b := Option.bind_eq_some_iff.1 h
theorem map_some' {α β : Type} {o : Option α} {f : α → β} {b : β} (h : o.map f = some b) : ∃ a, o = some a ∧ f a = b := Option.map_eq_some_iff.1 h
theorem pcont2_len {key : Str} {long : Nat} {s t : Str} {e : Entry} (h : pcont2 key long s = some (e, t)) : e.key = key ∧ e.val.length ≤ s.length ∧ t.length ≤ s.length := by
  unfold pcont2 at h
  split at h
  · obtain ⟨⟨a, s1⟩, h1, h⟩ := bind_some' h
    obtain ⟨⟨b, s2⟩, h2, h⟩ := bind_some' h
    obtain ⟨⟨d, s3⟩, h3, h⟩ := map_some' h
    cases h
    have := pnum_len h1; have := pnum_len h2; have := psum_len h3
    exact ⟨rfl, Nat.zero_le _, by simp only at *; omega⟩
  · split at h
    · obtain ⟨⟨a, s1⟩, h1, h⟩ := bind_some' h
      obtain ⟨⟨b, s2⟩, h2, h⟩ := bind_some' h
      obtain ⟨⟨d, s3⟩, h3, h⟩ := map_some' h
      cases h
      have := pnum_len h1; have := pnum_len h2; have := psum_len h3
      exact ⟨rfl, Nat.zero_le _, by simp only at *; omega⟩
    · obtain ⟨⟨a, s1⟩, h1, h⟩ := map_some' h
      cases h
      have := ptext_len h1
      exact ⟨rfl, this.1, this.2⟩
theorem pcont_len {key : Str} {lv : Int} {s t : Str} {e : Entry} (h : pcont key lv s = some (e, t)) : e.key = key ∧ e.val.length ≤ s.length ∧ t.length ≤ s.length := by
  unfold pcont at h
  split at h
  · obtain ⟨⟨a, s1⟩, h1, h⟩ := bind_some' h
    have := pnum_len h1
    have := pcont2_len h
    simp only at *
    exact ⟨this.1, by omega, by omega⟩
  · exact pcont2_len h
theorem pents_len {pre : Str} {lv : Int} : ∀ {k i : Nat} {s t : Str} {es : List Entry}, pents pre lv k i s = some (es, t) → es.length = k ∧ ∀ e ∈ es, e.key.length ≤ pre.length + s.length ∧ e.val.length ≤ s.length
  | 0, i, s, t, es, h => by simp [pents] at h; obtain ⟨rfl, rfl⟩ := h; simp
  | k + 1, i, s, t, es, h => by
    simp only [pents] at h
    obtain ⟨⟨e, s1⟩, h1, h⟩ := bind_some' h
    obtain ⟨⟨es', s2⟩, h2, h⟩ := map_some' h
    cases h
    have ih := pents_len h2
    unfold pent at h1
    obtain ⟨⟨a, u1⟩, g1, h1⟩ := bind_some' h1
    obtain ⟨⟨b, u2⟩, g2, h1⟩ := bind_some' h1
    have l1 := pnum_len g1
    have l2 := ptext_len g2
    have l3 := pcont_len h1
    have lk : (preK pre lv i).length ≤ pre.length := by unfold preK; split <;> simp
    simp only at *
    refine ⟨by simp [ih.1], fun x hx => ?_⟩
    rcases List.mem_cons.1 hx with rfl | hx
    · rw [l3.1, List.length_append]
      omega
    · have := ih.2 x hx
      omega
theorem pnode_len {s t : Str} {x : NodeP} (h : pnode s = some (x, t)) : x.es.length < 65536 ∧ ∀ e ∈ x.es, e.key.length ≤ 2 * s.length ∧ e.val.length ≤ s.length := by
  unfold pnode at h
  obtain ⟨⟨a1, s1⟩, h1, h⟩ := bind_some' h
  obtain ⟨⟨a2, s2⟩, h2, h⟩ := bind_some' h
  obtain ⟨⟨a3, s3⟩, h3, h⟩ := bind_some' h
  obtain ⟨⟨a4, s4⟩, h4, h⟩ := bind_some' h
  obtain ⟨⟨a5, s5⟩, h5, h⟩ := bind_some' h
  obtain ⟨⟨a6, s6⟩, h6, h⟩ := bind_some' h
  obtain ⟨⟨a7, s7⟩, h7, h⟩ := bind_some' h
  obtain ⟨⟨es, s8⟩, h8, h⟩ := map_some' h
  cases h
  have l1 := pnum_len h1
  have l2 := pnum_len h2
  have l3 := pnum_len h3
  have l4 := pnum_len h4
  have l5 := pnum_len h5
  have l6 := ptext_len h6
  have l7 := ptext_len h7
  have l8 := pents_len h8
  simp only at *
  refine ⟨by rw [l8.1]; exact l5.2, fun e he => ?_⟩
  have := l8.2 e he
  omega
theorem ppages_len : ∀ {k : Nat} {s t : Str} {ps : List Nat}, ppages k s = some (ps, t) → ps.length = k
  | 0, s, t, es, h => by simp [ppages] at h; obtain ⟨rfl, rfl⟩ := h; rfl
  | k + 1, s, t, es, h => by
    simp only [ppages] at h
    obtain ⟨⟨e, s1⟩, h1, h⟩ := bind_some' h
    obtain ⟨⟨es', s2⟩, h2, h⟩ := map_some' h
    cases h
    simp [ppages_len h2]
theorem pfreeds_len : ∀ {k : Nat} {s t : Str} {l : List (Nat × List Nat)}, pfreeds k s = some (l, t) → l.length = k ∧ ∀ x ∈ l, x.2.length < 65536
  | 0, s, t, es, h => by simp [pfreeds] at h; obtain ⟨rfl, rfl⟩ := h; simp
  | k + 1, s, t, es, h => by
    simp only [pfreeds] at h
    obtain ⟨⟨a1, s1⟩, h1, h⟩ := bind_some' h
    obtain ⟨⟨a2, s2⟩, h2, h⟩ := bind_some' h
    obtain ⟨⟨a3, s3⟩, h3, h⟩ := bind_some' h
    obtain ⟨⟨es', s4⟩, h4, h⟩ := map_some' h
    cases h
    have l2 := pnum_len h2
    have l3 := ppages_len h3
    have ih := pfreeds_len h4
    simp only at *
    refine ⟨by simp [ih.1], fun x hx => ?_⟩
    rcases List.mem_cons.1 hx with rfl | hx
    · simp only; rw [l3]; exact l2.2
    · exact ih.2 x hx
theorem FsAre.ok : ∀ {fs : List Freed} {l : List (Nat × List Nat)}, FsAre fs l → (∀ x ∈ l, x.2.length < 65536) → ∀ f ∈ fs, f.Ok ∧ f.pages.length < 9223372036854775808
  | _, _, .nil, _, f, hf => by cases hf
  | _, _, .cons (t := t) h r, hl, f, hf => by
    rcases List.mem_cons.1 hf with rfl | hf
    · have := hl t (List.mem_cons_self ..)
      refine ⟨h.2.2, ?_⟩
      rw [h.2.1, List.length_map]; omega
    · exact r.ok (fun x hx => hl x (List.mem_cons_of_mem _ hx)) f hf
theorem BlkIs.ok {q : Page} {x : Blk} {s : Str} (hs : s.length = 512) (hx : pread s = some x) (hq : BlkIs q x) : q.Ok := by
  unfold pread at hx
  obtain ⟨⟨a1, s1⟩, h1, h⟩ := bind_some' hx
  obtain ⟨⟨a2, s2⟩, h2, h⟩ := bind_some' h
  obtain ⟨⟨a3, s3⟩, h3, h⟩ := bind_some' h
  obtain ⟨bd, h4, h⟩ := map_some' h
  cases h
  have l0 : ((s.take 508).drop 1).length ≤ 508 := by rw [List.length_drop, List.length_take]; omega
  have l1 := pnum_len h1
  have l2 := pnum_len h2
  have l3 := pnum_len h3
  obtain ⟨_, _, _, hb, esz, fsz⟩ := hq
  simp only at *
  unfold pbody at h4
  split at h4
  · obtain ⟨⟨y, t⟩, g, h⟩ := map_some' h4
    cases h
    have := pnode_len g
    obtain ⟨b1, b2, b3, b4, b5, b6, b7⟩ := hb
    refine ⟨esz, fsz, by rw [b4]; exact Nat.lt_trans this.1 (by decide), by rw [b7]; decide, by rw [b6]; decide, fun e he => ?_, fun f hf => ?_⟩
    · rw [b4] at he
      have := this.2 e he
      exact ⟨by omega, by omega⟩
    · rw [b7] at hf; cases hf
  · split at h4
    · obtain ⟨⟨y, t⟩, g, h⟩ := map_some' h4
      cases h
      obtain ⟨b1, b2, b3, b4, b5, b6, b7⟩ := hb
      unfold ppiece at g
      obtain ⟨⟨c1, t1⟩, g1, g⟩ := bind_some' g
      obtain ⟨⟨c2, t2⟩, g2, g⟩ := bind_some' g
      obtain ⟨⟨c3, t3⟩, g3, g⟩ := map_some' g
      cases g
      have m1 := pnum_len g1
      have m2 := pnum_len g2
      have m3 := ptext_len g3
      simp only at *
      refine ⟨esz, fsz, by rw [b4]; decide, by rw [b7]; decide, by rw [b6]; omega, fun e he => ?_, fun f hf => ?_⟩
      · rw [b4] at he; cases he
      · rw [b7] at hf; cases hf
    · obtain ⟨⟨y, t⟩, g, h⟩ := map_some' h4
      cases h
      obtain ⟨b1, b2, b3, b4, b5, b6, b7⟩ := hb
      unfold plist at g
      obtain ⟨⟨c1, t1⟩, g1, g⟩ := bind_some' g
      obtain ⟨⟨c2, t2⟩, g2, g⟩ := bind_some' g
      obtain ⟨⟨c3, t3⟩, g3, g⟩ := map_some' g
      cases g
      have m2 := pnum_len g2
      have m3 := pfreeds_len g3
      have hlen := b7.length_eq
      simp only at *
      refine ⟨esz, fsz, by rw [b4]; decide, by rw [hlen, m3.1]; exact Nat.lt_trans m2.2 (by decide), by rw [b6]; decide, fun e he => ?_, b7.ok m3.2⟩
      rw [b4] at he; cases he
theorem entry_frz' {n : Nat} (e : Entry) : FrzOk (n + 2) e.av := frzOk_agg (cells_frz e)
theorem freed_frz' {n : Nat} (f : Freed) : FrzOk (n + 3) f.av := frzOk_agg fun x hx => by
  simp only [Freed.cells, List.mem_cons, List.not_mem_nil, or_false] at hx
  rcases hx with rfl | rfl
  · exact frzOk_int
  · exact frzOk_lst fun y hy => by obtain ⟨k, _, rfl⟩ := List.mem_map.1 hy; exact frzOk_int
theorem page_frz' {n : Nat} (q : Page) : FrzOk (n + 5) q.av := frzOk_agg fun x hx => by
  simp only [Page.cells, List.mem_cons, List.not_mem_nil, or_false] at hx
  rcases hx with rfl | rfl | rfl | rfl | rfl | rfl | rfl | rfl | rfl | rfl
  · exact frzOk_int
  · exact frzOk_int
  · exact frzOk_int
  · exact frzOk_int
  · exact frzOk_int
  · exact frzOk_bool
  · exact frzOk_lst fun y hy => by obtain ⟨k, _, rfl⟩ := List.mem_map.1 hy; exact entry_frz' k
  · exact frzOk_int
  · exact frzOk_str
  · exact frzOk_lst fun y hy => by obtain ⟨k, _, rfl⟩ := List.mem_map.1 hy; exact freed_frz' k
end Go.Proofs
/- Contracts: Decode. -/
set_option linter.unusedVariables false
set_option linter.unusedSimpArgs false
namespace Go.Proofs
open Go Go.Abs
/-- What Decode answers at a block with a right head. -/
def DecS (s : Str) (r : CRes) : Prop := match pread s with
  | none => r = .ret (.tup [.agg zeroP, i64 8])
  | some x => ∃ q : Page, BlkIs q x ∧ q.Ok ∧ r = if q.check = true ∧ q.enc = s then .ret (.tup [q.av, i64 0]) else .ret (.tup [.agg zeroP, i64 8])
section
variable {n : Nat} {s : Str}
theorem page_res {L : LT} {h : AHeap} {cs : List AV} {k : Int} (h2 : lk L 2 = some (.ptr 0 0 0)) (h3 : lk L 3 = some (i64 k)) (hP : h[0]? = some (.cells 0 (some 25) cs 0)) (hc : cs.length = 10) : resAL Try.prog L h [.cell 2 25, .tmp 3] = some [.agg cs, i64 k] := by
  simp only [resAL, h2, h3, page_ld hc hP]
theorem zero_frz {h : AHeap} {k : Int} : frz h 64 (.tup [.agg zeroP, i64 k]) = some (.tup [.agg zeroP, i64 k]) := rfl
theorem pg_frz {h : AHeap} {q : Page} {k : Int} : frz h 64 (.tup [q.av, i64 k]) = some (.tup [q.av, i64 k]) := frzOk_tup (n := 63) (fun x hx => by
  simp only [List.mem_cons, List.not_mem_nil, or_false] at hx
  rcases hx with rfl | rfl
  · exact page_frz' q
  · exact frzOk_int) h
theorem decode_eq (hn : 10 ≤ n) (hs : headOk s = true) : ∃ r, (∀ h, C n 10 [.str s] h = some (r, h)) ∧ DecS s r := by
  obtain ⟨m, rfl⟩ : ∃ m, n = m + 1 := ⟨n - 1, by omega⟩
  have hl : s.length = 512 := by
    unfold headOk at hs
    simp only [Bool.and_eq_true, decide_eq_true_eq] at hs
    exact hs.1
  obtain ⟨m', rfl⟩ : ∃ k, m = k + 1 := ⟨m - 1, by omega⟩
  obtain ⟨r, e1, hr⟩ := read_eq (m := m') (s := s) (by omega) hl
  unfold ReadS at hr
  unfold DecS
  have cH : ∀ h, C (m' + 1) 34 [.str s] h = some (.ret (headOf s), h) := fun h => head_good (by omega) s hs
  cases hp : pread s with
  | none =>
    rw [hp] at hr
    simp only at hr
    subst hr
    refine ⟨_, fun h => ?_, rfl⟩
    refine fun_pure F10 rfl rfl rfl rfl ?_
    conv => whnf
    refine clI (cH _) ?_
    conv => whnf
    refine clI (e1 _) ?_
    conv => whnf
    refine stI (xs := zeroP) (by rfl) (by rfl) (by rfl) (by rfl) (by rfl) ?_
    conv => whnf
    refine stI (xs := zeroP) (by rfl) (by rfl) (by rfl) (by rfl) (by rfl) ?_
    exact ⟨rfl, _, page_res rfl rfl rfl rfl, zero_frz⟩
  | some x =>
    rw [hp] at hr
    simp only at hr
    obtain ⟨q, rfl, hq⟩ := hr
    have ok := hq.ok hl hp
    have cC : ∀ h, C (m' + 1) 24 [q.av] h = some (.ret (i64 (if q.check then 0 else 2)), h) := fun h => check_eq (by omega) q ok
    cases hc : q.check with
    | false =>
      rw [hc] at cC
      refine ⟨.ret (.tup [.agg zeroP, i64 8]), fun h => ?_, q, hq, ok, by rw [if_neg (by simp [hc])]⟩
      refine fun_pure F10 rfl rfl rfl rfl ?_
      conv => whnf
      refine clI (cH _) ?_
      conv => whnf
      refine clI (e1 _) ?_
      conv => whnf
      refine stI (xs := q.cells) (by rfl) (by rfl) (by rfl) (by rfl) (by rfl) ?_
      conv => whnf
      refine ldI (by rfl) ?_
      conv => whnf
      refine clI (cC _) ?_
      conv => whnf
      refine stI (xs := zeroP) (by rfl) (by rfl) (by rfl) (by rfl) (by rfl) ?_
      exact ⟨rfl, _, page_res rfl rfl rfl rfl, zero_frz⟩
    | true =>
      rw [hc] at cC
      have cE : ∀ h, C (m' + 1) 9 [q.av] h = some (.ret (.tup [.str q.enc, i64 0]), h) := fun h => by
        rw [encode_eq (by omega) q ok, hc]; rfl
      have cB1 : ∀ h, C (m' + 1) 36 [.str q.enc] h = some (.ret (.agg (q.enc.map u8)), h) := fun h => blockOf_eq (by omega) _ (enc_len hc)
      have cB2 : ∀ h, C (m' + 1) 36 [.str s] h = some (.ret (.agg (s.map u8)), h) := fun h => blockOf_eq (by omega) _ hl
      have walk : ∀ (r : CRes), r = (if q.enc = s then .ret (.tup [q.av, i64 0]) else .ret (.tup [.agg zeroP, i64 8])) → ∀ h, C (m' + 1 + 1) 10 [.str s] h = some (r, h) := fun r er h => by
        obtain ⟨v, ev⟩ : ∃ v, r = .ret v := by
          rw [er]; split <;> exact ⟨_, rfl⟩
        rw [ev]
        rw [ev] at er
        refine fun_pure F10 rfl rfl rfl rfl ?_
        conv => whnf
        refine clI (cH _) ?_
        conv => whnf
        refine clI (e1 _) ?_
        conv => whnf
        refine stI (xs := q.cells) (by rfl) (by rfl) (by rfl) (by rfl) (by rfl) ?_
        conv => whnf
        refine ldI (by rfl) ?_
        conv => whnf
        refine clI (cC _) ?_
        conv => whnf
        refine ldI (by rfl) ?_
        conv => whnf
        refine clI (cE _) ?_
        conv => whnf
        refine clI (cB1 _) ?_
        conv => whnf
        refine clI (cB2 _) ?_
        conv => whnf
        refine eqI (eq_block _ _ (enc_len hc) hl) ?_
        conv => whnf
        refine brn (fun a => ?_) (fun a => ?_)
        · have a' : ¬ q.enc = s := of_decide_eq_false a
          rw [if_neg a'] at er
          cases er
          conv => whnf
          refine stI (xs := zeroP) (by rfl) (by rfl) (by rfl) (by rfl) (by rfl) ?_
          exact ⟨rfl, _, page_res rfl rfl rfl rfl, zero_frz⟩
        · have a' : q.enc = s := of_decide_eq_true a
          rw [if_pos a'] at er
          cases er
          conv => whnf
          refine ldI (by rfl) ?_
          conv => whnf
          refine stI (xs := q.cells) (by rfl) (by rfl) (by rfl) (by rfl) (by rfl) ?_
          exact ⟨rfl, _, page_res rfl rfl rfl rfl, pg_frz⟩
      refine ⟨_, walk _ rfl, q, hq, ok, ?_⟩
      by_cases a : q.enc = s
      · rw [if_pos a, if_pos ⟨hc, a⟩]
      · rw [if_neg a, if_neg (fun h => a h.2)]
end
end Go.Proofs
/- The checksum finds bytes that are changed within four positions. -/
set_option linter.unusedVariables false
set_option linter.unusedSimpArgs false
namespace Go.Proofs
open Go Go.Abs
abbrev gb (c : UInt32) (i : Nat) : Bool := c.toBitVec.getLsbD i
theorem u32_ext {a b : UInt32} (h : ∀ i, i < 32 → gb a i = gb b i) : a = b := UInt32.toBitVec_inj.1 (BitVec.eq_of_getLsbD_eq h)
theorem low_bit (c : UInt32) : (c &&& 1 = 1) ↔ gb c 0 = true := by
  constructor
  · intro h
    have := congrArg (fun x : UInt32 => gb x 0) h
    simpa [gb] using this
  · intro h
    apply u32_ext
    intro i hi
    simp only [gb, UInt32.toBitVec_and, BitVec.getLsbD_and]
    by_cases h0 : i = 0
    · subst h0; simp [h]
    · have e1 : (1 : UInt32).toBitVec = 1#32 := rfl
      simp [e1, BitVec.getLsbD_one, h0]
theorem bit_get (c : UInt32) (i : Nat) (hi : i < 32) : gb (bit c) i = ((gb c (i + 1)) ^^ (gb c 0 && gb 3988292384 i)) := by
  unfold bit
  have e2 : (c >>> 1).toBitVec = c.toBitVec >>> 1 := by rfl
  by_cases h : c &&& 1 = 1
  · rw [if_pos h]
    have h0 := (low_bit c).1 h
    simp only [gb, UInt32.toBitVec_xor, BitVec.getLsbD_xor, e2, BitVec.getLsbD_ushiftRight] at h0 ⊢
    rw [h0, Nat.add_comm]
    simp
  · rw [if_neg h]
    have h0 : gb c 0 = false := by
      cases hq : gb c 0 with
      | true => exact (h ((low_bit c).2 hq)).elim
      | false => rfl
    simp only [gb, e2, BitVec.getLsbD_ushiftRight] at h0 ⊢
    rw [h0, Nat.add_comm]
    simp
theorem bit_xor (a b : UInt32) : bit (a ^^^ b) = bit a ^^^ bit b := by
  apply u32_ext
  intro i hi
  have e : gb (bit a ^^^ bit b) i = (gb (bit a) i ^^ gb (bit b) i) := by simp [gb]
  rw [e, bit_get _ _ hi, bit_get _ _ hi, bit_get _ _ hi]
  have e1 : ∀ j, gb (a ^^^ b) j = (gb a j ^^ gb b j) := fun j => by simp [gb]
  rw [e1, e1]
  cases gb a (i + 1) <;> cases gb b (i + 1) <;> cases gb a 0 <;> cases gb b 0 <;> cases gb 3988292384 i <;> rfl
theorem bit_inj {a b : UInt32} (h : bit a = bit b) : a = b := by
  have hg : ∀ i, i < 32 → ((gb a (i + 1)) ^^ (gb a 0 && gb 3988292384 i)) = ((gb b (i + 1)) ^^ (gb b 0 && gb 3988292384 i)) := fun i hi => by
    rw [← bit_get a i hi, ← bit_get b i hi, h]
  have top : ∀ c : UInt32, gb c 32 = false := fun c => BitVec.getLsbD_of_ge _ _ (Nat.le_refl _)
  have h0 : gb a 0 = gb b 0 := by
    have := hg 31 (by decide)
    rw [top, top, show gb 3988292384 31 = true by decide] at this
    simpa using this
  apply u32_ext
  intro i hi
  cases i with
  | zero => exact h0
  | succ i =>
    have := hg i (by omega)
    rw [h0] at this
    cases ha : gb a (i + 1) <;> cases hb : gb b (i + 1) <;> rw [ha, hb] at this <;> first | rfl | (cases h1 : (gb b 0 && gb 3988292384 i) <;> rw [h1] at this <;> cases this)
theorem bits_xor : ∀ (k : Nat) (a b : UInt32), bits k (a ^^^ b) = bits k a ^^^ bits k b
  | 0, a, b => rfl
  | k + 1, a, b => by show bits k (bit (a ^^^ b)) = bits k (bit a) ^^^ bits k (bit b); rw [bit_xor, bits_xor k]
theorem bits_inj : ∀ (k : Nat) {a b : UInt32}, bits k a = bits k b → a = b
  | 0, a, b, h => h
  | k + 1, a, b, h => bit_inj (bits_inj k (a := bit a) (b := bit b) h)
theorem bit_even {c : UInt32} {w : Nat} (h : c.toNat = 2 * w) : (bit c).toNat = w := by
  have h1 : (c &&& 1).toNat = c.toNat % 2 := by
    rw [UInt32.toNat_and]; exact Nat.and_one_is_mod _
  unfold bit
  rw [if_neg (by intro q; have := congrArg UInt32.toNat q; rw [h1] at this; simp at this; omega)]
  rw [UInt32.toNat_shiftRight]
  show c.toNat >>> 1 = w
  rw [Nat.shiftRight_eq_div_pow]; omega
theorem bits_even : ∀ (k : Nat) {c : UInt32} {w : Nat}, c.toNat = 2 ^ k * w → (bits k c).toNat = w
  | 0, c, w, h => by simpa [bits] using h
  | k + 1, c, w, h => bits_even k (c := bit c) (bit_even (by rw [h, Nat.pow_succ]; rw [Nat.mul_comm (2 ^ k) 2, Nat.mul_assoc]))
/-- A step over a zero byte. -/
theorem zero_step (c : UInt32) : tab c.toUInt8 ^^^ (c >>> 8) = bits 8 c := by
  have hc : c = c.toUInt8.toUInt32 ^^^ ((c >>> 8) <<< 8) := by
    apply u32_ext
    intro i hi
    have e1 : ((c >>> 8) <<< 8).toBitVec = (c.toBitVec >>> 8) <<< 8 := rfl
    have e2 : c.toUInt8.toUInt32.toBitVec = (c.toBitVec.setWidth 8).setWidth 32 := rfl
    simp only [gb, UInt32.toBitVec_xor, BitVec.getLsbD_xor, e1, e2, BitVec.getLsbD_shiftLeft, BitVec.getLsbD_ushiftRight, BitVec.getLsbD_setWidth]
    by_cases h8 : i < 8
    · simp [h8, hi]
    · have : 8 + (i - 8) = i := by omega
      simp [h8, hi, this]
  have h1 : (bits 8 ((c >>> 8) <<< 8)).toNat = (c >>> 8).toNat := by
    refine bits_even 8 ?_
    rw [UInt32.toNat_shiftLeft, UInt32.toNat_shiftRight]
    show (c.toNat >>> 8) <<< 8 % 2 ^ 32 = 2 ^ 8 * (c.toNat >>> 8)
    have := c.toNat_lt
    rw [Nat.shiftRight_eq_div_pow, Nat.shiftLeft_eq]
    omega
  have h2 : bits 8 ((c >>> 8) <<< 8) = c >>> 8 := UInt32.toNat_inj.1 h1
  conv => rhs; rw [hc, bits_xor, h2]
  rfl
theorem byte_step (c : UInt32) (b : UInt8) : tab (c.toUInt8 ^^^ b) ^^^ (c >>> 8) = bits 8 (c ^^^ b.toUInt32) := by
  rw [← zero_step]
  have e1 : (c ^^^ b.toUInt32).toUInt8 = c.toUInt8 ^^^ b := by
    apply UInt8.toBitVec_inj.1
    apply BitVec.eq_of_getLsbD_eq
    intro i hi
    have e3 : (c ^^^ b.toUInt32).toUInt8.toBitVec = (c.toBitVec ^^^ b.toBitVec.setWidth 32).setWidth 8 := rfl
    have e4 : (c.toUInt8 ^^^ b).toBitVec = c.toBitVec.setWidth 8 ^^^ b.toBitVec := rfl
    rw [e3, e4]
    simp [hi]
  have e2 : (c ^^^ b.toUInt32) >>> 8 = c >>> 8 := by
    apply u32_ext
    intro i hi
    have e5 : ((c ^^^ b.toUInt32) >>> 8).toBitVec = (c.toBitVec ^^^ b.toBitVec.setWidth 32) >>> 8 := rfl
    have e6 : (c >>> 8).toBitVec = c.toBitVec >>> 8 := rfl
    simp only [gb, e5, e6, BitVec.getLsbD_ushiftRight, BitVec.getLsbD_xor, BitVec.getLsbD_setWidth]
    rw [BitVec.getLsbD_of_ge b.toBitVec (8 + i) (by omega)]
    simp
  rw [e1, e2]
theorem ext_cons (b : UInt8) (r : Str) (c : UInt32) : ext (b :: r) c = ext r (bits 8 (c ^^^ b.toUInt32)) := by
  unfold ext
  rw [List.foldl_cons, byte_step]
theorem ext_app (a b : Str) (c : UInt32) : ext (a ++ b) c = ext b (ext a c) := by unfold ext; rw [List.foldl_append]
theorem ext_inj : ∀ (s : Str) {c d : UInt32}, ext s c = ext s d → c = d
  | [], c, d, h => h
  | b :: r, c, d, h => by
    rw [ext_cons, ext_cons] at h
    have := bits_inj 8 (ext_inj r h)
    have h2 := congrArg (· ^^^ b.toUInt32) this
    simpa [UInt32.xor_assoc] using h2

/-- Bytes as a number, the least significant one first. -/
def le : Str → UInt32
  | [] => 0
  | b :: r => b.toUInt32 ^^^ (le r <<< 8)
theorem le_nat (b : UInt8) (r : Str) (h : (le r).toNat < 16777216) : (le (b :: r)).toNat = (le r).toNat * 256 + b.toNat ∧ (le r <<< 8).toNat = 2 ^ 8 * (le r).toNat := by
  have hb := b.toNat_lt
  have e1 : (le r <<< 8).toNat = (le r).toNat * 256 := by
    rw [UInt32.toNat_shiftLeft]
    show (le r).toNat <<< 8 % 2 ^ 32 = _
    rw [Nat.shiftLeft_eq]
    omega
  refine ⟨?_, by rw [e1]; omega⟩
  show (b.toUInt32 ^^^ (le r <<< 8)).toNat = _
  rw [UInt32.toNat_xor, e1, UInt8.toNat_toUInt32]
  have h5 := Nat.shiftLeft_add_eq_or_of_lt (show b.toNat < 2 ^ 8 by omega) (le r).toNat
  rw [Nat.shiftLeft_eq] at h5
  show b.toNat ^^^ (le r).toNat * 2 ^ 8 = (le r).toNat * 2 ^ 8 + b.toNat
  rw [h5]
  apply Nat.eq_of_testBit_eq
  intro i
  simp only [Nat.testBit_xor, Nat.testBit_or]
  by_cases h8 : i < 8
  · have : ((le r).toNat * 2 ^ 8).testBit i = false := by rw [Nat.testBit_mul_two_pow]; simp; omega
    rw [this]; simp
  · have : b.toNat.testBit i = false := Nat.testBit_lt_two_pow (Nat.lt_of_lt_of_le (show b.toNat < 2 ^ 8 by omega) (Nat.pow_le_pow_right (by decide) (by omega)))
    rw [this]; simp
theorem le_lt : ∀ (r : Str), r.length ≤ 4 → (le r).toNat < 256 ^ r.length
  | [], _ => by simp [le]
  | b :: r, h => by
    have ih := le_lt r (by simp at h; omega)
    simp only [List.length_cons] at h ⊢
    have hb := b.toNat_lt
    have h3 : 256 ^ r.length ≤ 256 ^ 3 := Nat.pow_le_pow_right (by decide) (by omega)
    have h4 : (256 : Nat) ^ 3 = 16777216 := by decide
    rw [(le_nat b r (by omega)).1, Nat.pow_succ]
    omega
theorem le_small {r : Str} (h : r.length ≤ 3) : (le r).toNat < 16777216 := by
  have := le_lt r (by omega)
  have h3 : 256 ^ r.length ≤ 256 ^ 3 := Nat.pow_le_pow_right (by decide) h
  have h4 : (256 : Nat) ^ 3 = 16777216 := by decide
  omega
theorem le_inj : ∀ {a b : Str}, a.length = b.length → a.length ≤ 4 → le a = le b → a = b
  | [], [], _, _, _ => rfl
  | [], _ :: _, h, _, _ => by simp at h
  | _ :: _, [], h, _, _ => by simp at h
  | x :: a, y :: b, h, h4, he => by
    simp only [List.length_cons] at h h4
    have h1 := (le_nat x a (le_small (by omega))).1
    have h2 := (le_nat y b (le_small (by omega))).1
    rw [he] at h1
    have hx := x.toNat_lt
    have hy := y.toNat_lt
    have e1 : x = y := UInt8.toNat_inj.1 (by omega)
    have e2 : le a = le b := UInt32.toNat_inj.1 (by omega)
    rw [e1, le_inj (by omega) (by omega) e2]
theorem bits_add : ∀ (b a : Nat) (x : UInt32), bits a (bits b x) = bits (b + a) x
  | 0, a, x => by simp [bits]
  | b + 1, a, x => by
    show bits a (bits b (bit x)) = bits (b + 1 + a) x
    rw [bits_add b a, show b + 1 + a = (b + a) + 1 by omega]; rfl
theorem ext_le : ∀ (w : Str) (c : UInt32), w.length ≤ 4 → ext w c = bits (8 * w.length) (c ^^^ le w)
  | [], c, _ => by simp [ext, bits, le]
  | b :: r, c, h => by
    simp only [List.length_cons] at h
    have h2 := (le_nat b r (le_small (by omega))).2
    have h3 : bits 8 (le r <<< 8) = le r := UInt32.toNat_inj.1 (bits_even 8 h2)
    rw [ext_cons, ext_le r _ (by omega)]
    conv => lhs; rw [← h3, ← bits_xor, bits_add]
    rw [List.length_cons, show 8 + 8 * r.length = 8 * (r.length + 1) by omega]
    congr 1
    show c ^^^ b.toUInt32 ^^^ (le r <<< 8) = c ^^^ (b.toUInt32 ^^^ (le r <<< 8))
    rw [UInt32.xor_assoc]
theorem le_crcB (t : Str) : le (crcB t) = crc t := by
  have hc := (crc t).toNat_lt
  apply UInt32.toNat_inj.1
  unfold crcB
  rw [(le_nat _ _ (le_small (by simp))).1, (le_nat _ _ (le_small (by simp))).1, (le_nat _ _ (le_small (by simp))).1, (le_nat _ _ (le_small (by simp))).1]
  simp only [UInt8.toNat_ofNat', le]
  simp only [Nat.pow_zero, Nat.div_one, Nat.pow_succ, Nat.one_mul]
  show (((0 * 256 + _) * 256 + _) * 256 + _) * 256 + _ = _
  omega
theorem residue (t : Str) : ext (t ++ crcB t) (~~~0) = bits 32 (~~~0) := by
  rw [ext_app, ext_le _ _ (by simp [crcB]), le_crcB]
  have : ext t (~~~0) ^^^ crc t = ~~~0 := by
    unfold crc
    rw [show ~~~(ext t (~~~0)) = ext t (~~~0) ^^^ (-1) by rw [UInt32.xor_neg_one], ← UInt32.xor_assoc, UInt32.xor_self, UInt32.zero_xor]
    rfl
  rw [this]; rfl
/-- A block that ends with its checksum. -/
def Sealed (s : Str) : Prop := s.take 508 ++ crcB (s.take 508) = s
theorem sealed_eq {s b : Str} (hs : Sealed s) (hb : Sealed b) (hl : s.length = b.length) (k : Nat) (h : ∀ i (h1 : i < s.length) (h2 : i < b.length), i < k ∨ k + 4 ≤ i → s[i] = b[i]) : s = b := by
  have e0 : ext s (~~~0) = ext b (~~~0) := by rw [← hs, ← hb, residue, residue]
  have t1 : s.take k = b.take k := by
    apply List.ext_getElem
    · simp [hl]
    · intro i h1 h2
      simp only [List.length_take] at h1 h2
      rw [List.getElem_take, List.getElem_take]
      exact h i (by omega) (by omega) (.inl (by omega))
  have t2 : s.drop (k + 4) = b.drop (k + 4) := by
    apply List.ext_getElem
    · simp [hl]
    · intro i h1 h2
      simp only [List.length_drop] at h1 h2
      rw [List.getElem_drop, List.getElem_drop]
      exact h _ (by omega) (by omega) (.inr (by omega))
  have ds : s = s.take k ++ ((s.drop k).take 4 ++ s.drop (k + 4)) := by
    conv => lhs; rw [← List.take_append_drop k s, ← List.take_append_drop 4 (s.drop k), List.drop_drop]
  have db : b = s.take k ++ ((b.drop k).take 4 ++ s.drop (k + 4)) := by
    conv => lhs; rw [← List.take_append_drop k b, ← List.take_append_drop 4 (b.drop k), List.drop_drop, ← t1, ← t2]
  have e1 : ext ((s.drop k).take 4) (ext (s.take k) (~~~0)) = ext ((b.drop k).take 4) (ext (s.take k) (~~~0)) := by
    have := e0
    rw [ds, db, ext_app, ext_app, ext_app, ext_app] at this
    have t3 : (s.take k ++ ((s.drop k).take 4 ++ s.drop (k + 4))) = s := ds.symm
    exact ext_inj _ this
  have l1 : ((s.drop k).take 4).length = ((b.drop k).take 4).length := by simp [hl]
  have l2 : ((s.drop k).take 4).length ≤ 4 := by rw [List.length_take]; omega
  rw [ext_le ((s.drop k).take 4) _ l2, ext_le ((b.drop k).take 4) _ (by omega), ← l1] at e1
  have e2 := bits_inj _ e1
  have e3 := congrArg (fun x => ext (s.take k) (~~~0) ^^^ x) e2
  simp only [← UInt32.xor_assoc, UInt32.xor_self, UInt32.zero_xor] at e3
  have e4 := le_inj l1 l2 e3
  rw [ds, e4]
  exact db.symm
end Go.Proofs
/- The law PageDamage: small pages. -/
set_option linter.unusedVariables false
set_option linter.unusedSimpArgs false
namespace Go.Proofs
open Go Go.Abs
/-- Lists that are short, as a machine counts. -/
def shortG : List Freed → Int → Bool
  | [], _ => true
  | f :: r, n => if 900 < IntKind.i64.wrap (n + (f.pages.length : Int)) then false else shortG r (IntKind.i64.wrap (n + (f.pages.length : Int)))
def shortB (l : List Freed) : Bool := shortG (l.take 301) 0 && decide (l.length ≤ 300)
def smallB (p : Page) : Bool := few p.entries && (shortB p.freed && decide (p.data.length ≤ 1000))
section
variable {n : Nat} {h : AHeap}
theorem short_eq (hn : 1 ≤ n) (l : List Freed) (sz : Nat) (hz : l ≠ [] → sz = 2) (c : Bool) : C n 25 [.lst sz (l.map Freed.av) c] h = some (.ret (.bool (shortB l)), h) := by
  obtain ⟨m, rfl⟩ : ∃ m, n = m + 1 := ⟨n - 1, by omega⟩
  refine fun_pure F25 rfl rfl rfl (pure_lst freed_pure l rfl) ?_
  conv => whnf
  refine loopI (by decide) rfl (α := Nat × Int) (fun x => ⟨[(0, .lst sz (l.map Freed.av) c), (3, i64 x.2), (4, i64 x.1)], [], []⟩)
    (fun x => (x.1 ≤ l.length ∧ x.1 ≤ 301) ∧ shortG (l.take 301) 0 = shortG ((l.take 301).drop x.1) x.2) (fun x => 301 - x.1) (0, 0) ⟨⟨rfl, rfl, rfl⟩, rfl, rfl⟩ ⟨⟨Nat.zero_le _, by decide⟩, rfl⟩ (by show 301 - 0 < KK; simp only [KK]; omega) ?_
  rintro ⟨j, k⟩ ⟨⟨g1, g0⟩, g2⟩
  simp only at g1 g0 g2
  have stop : ∀ (b : Bool), b = shortB l → frz [] 64 (.bool b) = some (.bool (shortB l)) := fun b e => by rw [e]; rfl
  conv => whnf
  refine brd (fun a => ?_) (fun a => ?_)
  · have hj : j < l.length := by simp at a; omega
    conv => whnf
    refine brd (fun d => ?_) (fun d => ?_)
    · have hj2 : j ≤ 300 := by simp only at d; omega
      have e : (l.take 301).drop j = l[j] :: (l.take 301).drop (j + 1) := by
        have hlt : j < (l.take 301).length := by rw [List.length_take]; omega
        rw [List.drop_eq_getElem_cons hlt, List.getElem_take]
      rw [e] at g2
      simp only [shortG] at g2
      have el : ((l[j].pages.map i64).length : Int) = (l[j].pages.length : Int) := by rw [List.length_map]
      conv => whnf
      refine ixL freed_cells hj hz ?_
      conv => whnf
      refine zI (z := IntKind.i64.wrap (k + (l[j].pages.length : Int))) (by rw [el]) ?_
      conv => whnf
      refine brd (fun q => ?_) (fun q => ?_)
      · conv => whnf
        rw [if_pos q] at g2
        exact retP rfl (frz_bool (by unfold shortB; rw [g2]; rfl))
      · rw [if_neg q] at g2
        conv => whnf
        refine zI (z := ((j + 1 : Nat) : Int)) (by rw [wrap_i64 (by omega) (by omega)]; rfl) ?_
        exact nxI (j + 1, _) ⟨⟨hj, by omega⟩, g2⟩ (by simp only; omega) ⟨⟨rfl, rfl, rfl⟩, rfl, rfl⟩
    · have hj2 : j = 301 := by simp only at d; omega
      conv => whnf
      refine cutI (by decide) rfl (t := ⟨[(0, .lst sz (l.map Freed.av) c)], [], []⟩) ⟨rfl, rfl, rfl⟩ ?_
      conv => whnf
      refine retP rfl (frz_bool ?_)
      unfold shortB
      rw [List.length_map, show decide (l.length ≤ 300) = false by rw [decide_eq_false_iff_not]; omega, Bool.and_false]
      simp; omega
  · have hj : j = l.length := by simp at a; omega
    conv => whnf
    refine cutI (by decide) rfl (t := ⟨[(0, .lst sz (l.map Freed.av) c)], [], []⟩) ⟨rfl, rfl, rfl⟩ ?_
    conv => whnf
    refine retP rfl (frz_bool ?_)
    unfold shortB
    rw [g2, List.drop_of_length_le (by rw [List.length_take]; omega)]
    simp [shortG]; omega
theorem small_eq (hn : 2 ≤ n) (p : Page) (o1 : p.entries ≠ [] → p.esh.sz = 22) (o2 : p.freed ≠ [] → p.fsh.sz = 2) : C n 8 [.lst 10 [p.av] true] h = some (.ret (.bool (smallB p)), h) := by
  obtain ⟨m, rfl⟩ : ∃ m, n = m + 1 := ⟨n - 1, by omega⟩
  have cf : ∀ h, C m 11 [.lst p.esh.sz (p.entries.map Entry.av) p.esh.c] h = some (.ret (.bool (few p.entries)), h) := fun h => few_eq (by omega) _ _ o1 _
  have cs : ∀ h, C m 25 [.lst p.fsh.sz (p.freed.map Freed.av) p.fsh.c] h = some (.ret (.bool (shortB p.freed)), h) := fun h => short_eq (by omega) _ _ o2 _
  have hix : ∀ {q : List AV → Prop}, q p.cells → ∃ y, ([p.av] : List AV)[(0 : Int).toNat]? = some y ∧ ∃ cs, y.cells? = some cs ∧ q cs := fun hq => ⟨p.av, rfl, p.cells, rfl, hq⟩
  refine fun_pure F8 rfl rfl rfl (by simp [pureBs, AV.pureB, page_pure]) ?_
  conv => whnf
  refine loopI (by decide) rfl (α := Nat) (fun x => ⟨[(0, .lst 10 [p.av] true), (3, i64 x)], [], []⟩) (fun x => x ≤ 1 ∧ (x = 1 → smallB p = true)) (fun x => 1 - x) 0 ⟨⟨rfl, rfl⟩, rfl, rfl⟩ ⟨by decide, by simp⟩ (by show 1 - 0 < KK; simp only [KK]; omega) ?_
  rintro j ⟨g1, g2⟩
  obtain rfl | rfl : j = 0 ∨ j = 1 := by omega
  · repeat' (conv => whnf); first
      | refine ⟨by decide, rfl, p.av, rfl, p.cells, rfl, ?_⟩
      | refine clI (cf _) ?_
      | refine clI (cs _) ?_
      | refine zI (z := ((1 : Nat) : Int)) rfl ?_
      | refine retP rfl (frz_bool ?_)
      | refine nxI 1 ⟨by decide, fun _ => ?_⟩ (by decide) ⟨⟨rfl, rfl⟩, rfl, rfl⟩
      | refine brd (fun _ => ?_) (fun _ => ?_)
      | refine bre (fun _ => ?_) (fun _ => ?_)
      | refine brq (fun _ => ?_) (fun _ => ?_)
      | refine brn (fun _ => ?_) (fun _ => ?_)
      | refine br (fun _ => ?_) (fun _ => ?_)
      | refine ldI (by rfl) ?_
      | refine ldI (get_set_last _ _ _) ?_
      | refine ldI (get_last _ _) ?_
      | refine stI (by rfl) (by rfl) (by rfl) (by rfl) (by rfl) ?_
      | refine stI (get_last _ _) (by rfl) (by rfl) (by rfl) (by rfl) ?_
      | refine cutS (by decide) rfl ?_
    all_goals clear cf cs hix
    all_goals unfold smallB
    all_goals simp_all
    all_goals omega
  · conv => whnf
    refine cutI (by decide) rfl (t := ⟨[(0, .lst 10 [p.av] true)], [], []⟩) ⟨rfl, rfl, rfl⟩ ?_
    conv => whnf
    exact retP rfl (frz_bool (by rw [g2 rfl]; rfl))
end
end Go.Proofs
/- The law PageDamage: what it computes. -/
set_option linter.unusedVariables false
set_option linter.unusedSimpArgs false
namespace Go.Proofs
open Go Go.Abs
theorem decode_any {n : Nat} (hn : 10 ≤ n) (t : Str) : ∃ (q : Page) (k : Int), (∀ h, C n 10 [.str t] h = some (.ret (.tup [q.av, i64 k]), h)) ∧ (headOk t = false → k = 8) := by
  cases ht : headOk t with
  | false => exact ⟨zeroPg, 8, fun h => decode_bad (by omega) t ht, fun _ => rfl⟩
  | true =>
    obtain ⟨r, h1, h2⟩ := decode_eq hn ht
    unfold DecS at h2
    split at h2
    · subst h2
      exact ⟨zeroPg, 8, h1, fun h => by cases h⟩
    · obtain ⟨q, _, _, e⟩ := h2
      split at e
      · subst e; exact ⟨q, 0, h1, fun h => by cases h⟩
      · subst e; exact ⟨zeroPg, 8, h1, fun h => by cases h⟩
/-- A block in which bytes from a position on were changed. -/
def Near (s bs : Str) (k : Nat) : Prop := bs.length = s.length ∧ ∀ i (h1 : i < s.length) (h2 : i < bs.length), i < k ∨ k + 4 ≤ i → s[i] = bs[i]
structure B4 where
  b0 : UInt8
  b1 : UInt8
  b2 : UInt8
  b3 : UInt8
def B4.cells (b : B4) : List AV := [u8 b.b0, u8 b.b1, u8 b.b2, u8 b.b3]
def B4.av (b : B4) : AV := .agg b.cells
def B4.at (b : B4) (i : Nat) : UInt8 := match i with
  | 0 => b.b0
  | 1 => b.b1
  | 2 => b.b2
  | _ => b.b3
theorem B4.get (b : B4) {i : Nat} (h : i < 4) : b.cells[i]? = some (u8 (b.at i)) := by
  have : i = 0 ∨ i = 1 ∨ i = 2 ∨ i = 3 := by omega
  rcases this with rfl | rfl | rfl | rfl <;> rfl
theorem put_u8 {bs : Str} {k : Nat} {c : UInt8} (hk : k < bs.length) : putAt (bs.map u8) k [u8 c] = (bs.set k c).map u8 := by
  apply List.ext_getElem?
  intro i
  have hk' : k < (bs.map u8).length := by rw [List.length_map]; exact hk
  unfold putAt
  rw [List.getElem?_map, List.getElem?_set]
  by_cases h1 : i < k
  · rw [List.append_assoc, List.getElem?_append_left (by rw [List.length_take]; omega), List.getElem?_take, if_pos h1, List.getElem?_map, if_neg (by omega)]
  · by_cases h2 : k = i
    · subst h2
      rw [if_pos rfl, if_pos hk, List.append_assoc, List.getElem?_append_right (by rw [List.length_take]; omega), List.length_take, Nat.min_eq_left (by omega), Nat.sub_self]
      rfl
    · rw [if_neg h2, List.getElem?_append_right (by simp; omega), List.getElem?_drop, List.getElem?_map]
      congr 2
      simp
      omega
section
variable {m : Nat}
theorem damage_in (p : Page) (hc : p.enc.length = 512) (at' : UInt16) (by' : B4) (cut : UInt16) (more : Str) (hm : more.length ≤ 600)
    (cs : ∀ h, C m 7 [] h = some (.ret (.bool true), h)) (csm : ∀ h, C m 8 [.lst 10 [p.av] true] h = some (.ret (.bool true), h))
    (cE : ∀ h, C m 9 [p.av] h = some (.ret (.tup [.str p.enc, i64 0]), h))
    (cD : ∀ t, ∃ (q : Page) (k : Int), (∀ h, C m 10 [.str t] h = some (.ret (.tup [q.av, i64 k]), h)) ∧ (headOk t = false → k = 8))
    (hN : ∀ bs, Near p.enc bs (at'.toNat % 512) → bs ≠ p.enc → headOk bs = false) {h : AHeap} :
    C (m + 1) 3 [p.av, .int .u16 at'.toNat, by'.av, .int .u16 cut.toNat, .str more] h = some (.ret (.bool true), h) := by
  have hat := at'.toNat_lt
  have hcut := cut.toNat_lt
  refine fun_pure F3 rfl rfl rfl (by simp [pureBs, page_pure, B4.av, B4.cells, AV.pureB]) ?_
  have rest : ∀ (bs : Str), Near p.enc bs (at'.toNat % 512) → ∀ s' : LS, LS.sub ⟨[(3, .int .u16 cut.toNat), (4, .str more), (11, .bool true), (12, .str p.enc), (14, .sl 1 2 0 0 p.enc.length)], [.cells 0 (some 25) p.cells 0, .cells 0 (some 27) by'.cells 0, .cells 0 none (bs.map u8) 0], []⟩ s' → OkR Try.prog (C m) cfg0.inl KK 126 7 (cutOf c3) s' (RetQ Try.prog [.tmp 10] fun v' h' => frz h' 64 v' = some (.bool true)) := fun bs hbs s' hs' => by
    refine cutI (by decide) rfl hs' ?_
    have hl := hbs.1
    have hf : firstA [AB.cells 0 (some 25) p.cells 0, AB.cells 0 (some 27) by'.cells 0, AB.cells 0 none (bs.map u8) 0] 1 p.enc.length (.sl 1 2 0 0 p.enc.length) = some (bs.map u8) := by
      rw [← hl]; exact first_sl _ rfl
    have hc2 : cut.toNat % 512 < 512 := Nat.mod_lt _ (by decide)
    obtain ⟨q2, k2, e2, f2⟩ := cD (p.enc.take (511 - cut.toNat % 512))
    have f2' : k2 = 8 := f2 (by unfold headOk; rw [List.length_take, hc]; rw [decide_eq_false (by omega), Bool.false_and])
    subst f2'
    obtain ⟨q3, k3, e3, f3⟩ := cD (p.enc ++ more)
    have f3' : more ≠ [] → k3 = 8 := fun h => f3 (by
      have : more.length ≠ 0 := fun e => h (List.length_eq_zero_iff.1 e)
      unfold headOk
      rw [List.length_append, hc, decide_eq_false (by omega), Bool.false_and])
    conv => whnf
    refine ⟨_, bs, hf, toBytes_map _, ?_⟩
    conv => whnf
    refine brq (fun a => ?_) (fun a => ?_)
    · obtain ⟨q1, k1, e1, f1⟩ := cD bs
      have f1' : k1 = 8 := f1 (hN bs hbs a)
      subst f1'
      conv => whnf
      refine ⟨_, bs, hf, toBytes_map _, ?_⟩
      conv => whnf
      refine clI (e1 _) ?_
      conv => whnf
      refine stI (xs := q1.cells) (by rfl) (by rfl) (by rfl) (by rfl) (by rfl) ?_
      conv => whnf
      refine zI (z := (511 : Int)) (by rw [hc]; rfl) ?_
      conv => whnf
      refine zI (z := (cut.toNat : Int)) (wrap_i64 (by omega) (by omega)) ?_
      conv => whnf
      refine remI (z := ((cut.toNat % 512 : Nat) : Int)) (by rw [hc]; decide) (by rw [hc]; exact (Int.ofNat_tmod _ _).symm) ?_
      conv => whnf
      refine zI (z := ((511 - cut.toNat % 512 : Nat) : Int)) (by rw [wrap_i64 (by omega) (by omega)]; omega) ?_
      conv => whnf
      refine ss_hi (c := 511 - cut.toNat % 512) (by omega) ?_
      conv => whnf
      refine clI (e2 _) ?_
      conv => whnf
      refine stI (xs := q2.cells) (by rfl) (by rfl) (by rfl) (by rfl) (by rfl) ?_
      conv => whnf
      refine ⟨by rw [hc]; omega, ?_⟩
      conv => whnf
      refine clI (e3 _) ?_
      conv => whnf
      refine stI (xs := q3.cells) (by rfl) (by rfl) (by rfl) (by rfl) (by rfl) ?_
      conv => whnf
      refine bre (fun u => ?_) (fun u => ?_)
      · conv => whnf
        exact retP rfl (frz_bool rfl)
      · have := f3' u
        subst this
        conv => whnf
        exact retP rfl (frz_bool rfl)
    · conv => whnf
      refine zI (z := (511 : Int)) (by rw [hc]; rfl) ?_
      conv => whnf
      refine zI (z := (cut.toNat : Int)) (wrap_i64 (by omega) (by omega)) ?_
      conv => whnf
      refine remI (z := ((cut.toNat % 512 : Nat) : Int)) (by rw [hc]; decide) (by rw [hc]; exact (Int.ofNat_tmod _ _).symm) ?_
      conv => whnf
      refine zI (z := ((511 - cut.toNat % 512 : Nat) : Int)) (by rw [wrap_i64 (by omega) (by omega)]; omega) ?_
      conv => whnf
      refine ss_hi (c := 511 - cut.toNat % 512) (by omega) ?_
      conv => whnf
      refine clI (e2 _) ?_
      conv => whnf
      refine stI (xs := q2.cells) (by rfl) (by rfl) (by rfl) (by rfl) (by rfl) ?_
      conv => whnf
      refine ⟨by rw [hc]; omega, ?_⟩
      conv => whnf
      refine clI (e3 _) ?_
      conv => whnf
      refine stI (xs := q3.cells) (by rfl) (by rfl) (by rfl) (by rfl) (by rfl) ?_
      conv => whnf
      refine bre (fun u => ?_) (fun u => ?_)
      · conv => whnf
        exact retP rfl (frz_bool rfl)
      · have := f3' u
        subst this
        conv => whnf
        exact retP rfl (frz_bool rfl)
  conv => whnf
  refine clI (cs _) ?_
  conv => whnf
  refine ldI (by rfl) ?_
  conv => whnf
  refine ⟨rfl, ?_⟩
  conv => whnf
  refine clI (csm _) ?_
  conv => whnf
  refine brd (fun a => absurd a (by omega)) (fun _ => ?_)
  conv => whnf
  refine ldI (by rfl) ?_
  conv => whnf
  refine clI (cE _) ?_
  conv => whnf
  refine brq (fun a => absurd (by rw [hc]; rfl) a) (fun _ => ?_)
  conv => whnf
  refine zI (z := (at'.toNat : Int)) (wrap_i64 (by omega) (by omega)) ?_
  conv => whnf
  refine remI (z := ((at'.toNat % 512 : Nat) : Int)) (by omega) (by rw [hc]; exact (Int.ofNat_tmod _ _).symm) ?_
  conv => whnf
  have hk : at'.toNat % 512 < 512 := Nat.mod_lt _ (by decide)
  refine loopI (by decide) rfl (α := Nat × Str) (fun x => ⟨[(3, .int .u16 cut.toNat), (4, .str more), (7, .ptr 1 0 0), (11, .bool true), (12, .str p.enc), (14, .sl 1 2 0 0 p.enc.length), (15, i64 ((at'.toNat % 512 : Nat) : Int)), (16, i64 x.1)], [.cells 0 (some 25) p.cells 0, .cells 0 (some 27) by'.cells 0, .cells 0 none (x.2.map u8) 0], []⟩)
    (fun x => x.1 ≤ 4 ∧ Near p.enc x.2 (at'.toNat % 512)) (fun x => 4 - x.1) (0, p.enc) ⟨⟨rfl, rfl, rfl, rfl, rfl, rfl, rfl, rfl⟩, rfl, rfl⟩ ⟨Nat.zero_le _, rfl, fun _ _ _ _ => rfl⟩ (by show 4 - 0 < KK; simp only [KK]; omega) ?_
  rintro ⟨j, bs⟩ ⟨g1, g2⟩
  simp only at g1 g2
  conv => whnf
  refine brd (fun a => ?_) (fun a => ?_)
  · have hj : j < 4 := by simp only at a; omega
    conv => whnf
    refine zI (z := ((at'.toNat % 512 + j : Nat) : Int)) (by rw [wrap_i64 (by simp only; omega) (by simp only; omega)]; rfl) ?_
    conv => whnf
    refine brd (fun d => ?_) (fun d => ?_)
    · have hi : at'.toNat % 512 + j < p.enc.length := by omega
      have hib : at'.toNat % 512 + j < bs.length := by rw [g2.1]; exact hi
      have ex : (bs.map u8)[at'.toNat % 512 + j]? = some (u8 bs[at'.toNat % 512 + j]) := by rw [List.getElem?_map, List.getElem?_eq_getElem hib]; rfl
      have iz : ((at'.toNat % 512 + j : Nat) : Int).toNat = at'.toNat % 512 + j := by omega
      have jz : ((j : Nat) : Int).toNat = j := by omega
      have hble : Nat.ble (0 + ((at'.toNat % 512 + j : Nat) : Int).toNat * 1 + ([u8 (bs[at'.toNat % 512 + j] + by'.at j)] : List AV).length) (bs.map u8).length = true := by
        rw [iz, Nat.ble_eq, List.length_map]
        simp only [List.length_cons, List.length_nil]
        omega
      conv => whnf
      refine zI (z := ((at'.toNat % 512 + j : Nat) : Int)) (by rw [wrap_i64 (by simp only; omega) (by simp only; omega)]; rfl) ?_
      conv => whnf
      refine zI (z := ((at'.toNat % 512 + j : Nat) : Int)) (by rw [wrap_i64 (by simp only; omega) (by simp only; omega)]; rfl) ?_
      conv => whnf
      refine ⟨by omega, by omega, rfl, ?_⟩
      conv => whnf
      refine ldI (by rfl) ?_
      refine wpartI (v := u8 bs[at'.toNat % 512 + j]) (by unfold partR; rw [if_neg (by decide), iz, Nat.zero_add, Nat.mul_one]; exact ex) ?_
      conv => whnf
      refine ⟨by simp only; omega, by simp only; omega, ?_⟩
      conv => whnf
      refine ldI (by rfl) ?_
      refine wpartI (v := u8 (by'.at j)) (by unfold partR; rw [if_neg (by decide)]; simp only [jz, Nat.zero_add, Nat.mul_one]; exact by'.get hj) ?_
      conv => whnf
      refine zI (z := ((bs[at'.toNat % 512 + j] + by'.at j).toNat : Int)) (by rw [UInt8.toNat_add]; simp [IntKind.wrap, IntKind.bits, IntKind.signed]) ?_
      conv => whnf
      refine ⟨by omega, by omega, rfl, ?_⟩
      conv => whnf
      refine stI (xs := [u8 (bs[at'.toNat % 512 + j] + by'.at j)]) (by rfl) (by rfl) (by rfl) hble (by rfl) ?_
      conv => whnf
      refine zI (z := ((j + 1 : Nat) : Int)) (by rw [wrap_i64 (by simp only; omega) (by simp only; omega)]; rfl) ?_
      have hput : putAt (bs.map u8) (0 + ((at'.toNat % 512 + j : Nat) : Int).toNat * 1) [u8 (bs[at'.toNat % 512 + j] + by'.at j)] = (bs.set (at'.toNat % 512 + j) (bs[at'.toNat % 512 + j] + by'.at j)).map u8 := by
        rw [iz, Nat.zero_add, Nat.mul_one]
        exact put_u8 hib
      refine nxI (j + 1, bs.set (at'.toNat % 512 + j) (bs[at'.toNat % 512 + j] + by'.at j)) ⟨hj, by rw [List.length_set]; exact g2.1, fun i h1 h2 hi2 => ?_⟩ (by simp only; omega) ⟨⟨rfl, rfl, rfl, rfl, rfl, rfl, rfl, rfl⟩, by simp only; rw [← hput]; rfl, rfl⟩
      rw [List.getElem_set_ne (by omega)]
      exact g2.2 i h1 (by rw [List.length_set] at h2; exact h2) hi2
    · conv => whnf
      exact rest bs g2 _ ⟨⟨rfl, rfl, rfl, rfl, rfl⟩, rfl, rfl⟩
  · conv => whnf
    exact rest bs g2 _ ⟨⟨rfl, rfl, rfl, rfl, rfl⟩, rfl, rfl⟩
end
end Go.Proofs
/- Arguments as they are read: entries. -/
set_option linter.unusedVariables false
set_option linter.unusedSimpArgs false
namespace Go.Proofs
open Go Go.Abs Go.ChangeShapes Go.WideShapes Go.ChangeAt Go.RowKit

theorem ty3 : Try.prog.underlying 3 = some (.int .i64) := by kernel_rfl
theorem ty5 : Try.prog.underlying 5 = some (.int .u8) := by kernel_rfl
theorem ty9 : Try.prog.underlying 9 = some .string := by kernel_rfl
theorem ty4 : Try.prog.underlying 4 = some .bool := by kernel_rfl
theorem ty22 : Try.prog.underlying 22 = some (.slice 51) := by kernel_rfl
theorem ty49 : Try.prog.underlying 49 = some (.array 16 5) := by kernel_rfl
theorem sz51 : Try.prog.cellsOf 51 = 22 := by kernel_rfl
theorem sz49 : Try.prog.cellsOf 49 = 16 := by kernel_rfl
theorem sz5 : Try.prog.cellsOf 5 = 1 := by kernel_rfl
theorem own : ownKnob Try.prog.godebug = none := by kernel_rfl
theorem laid : laidOutB Try.prog = true := by kernel_rfl

section
variable {H : Type} {enc : TypeId × Value → H} {W : World} {base : Nat} {sp : Nat → Bool} {held : Bool} {fuel : Nat} {cs : List Value} {x : DataW H × List MemPlace}
theorem take_one {i : Nat} {v : Value} (h : (cs.drop i).take 1 = [v]) : cs[i]? = some v := by
  have : ((cs.drop i).take 1)[0]? = some v := by rw [h]; rfl
  simpa using this
theorem rd_dg (h : DataW.trod enc Try.prog W base sp held fuel 49 cs = some x) : ∃ d : Dg, VRs (cellsW W) noBM d.cells cs := by
  obtain ⟨xs, m, _, _, hl, hx, hi⟩ := DataW.trod_array ty49 h
  rw [sz49] at hl
  rw [sz5] at hi
  have hb : ∀ i, i < 16 → ∃ b : UInt8, cs[i]? = some (.int .u8 b.toNat) := fun i hi' => by
    have h1 := hi i hi'
    rw [List.getElem?_eq_getElem (by omega)] at h1
    obtain ⟨b, h2⟩ := rd_u8 ty5 h1
    rw [Nat.mul_one] at h2
    exact ⟨b, take_one h2⟩
  obtain ⟨b0, g0⟩ := hb 0 (by omega)
  obtain ⟨b1, g1⟩ := hb 1 (by omega)
  obtain ⟨b2, g2⟩ := hb 2 (by omega)
  obtain ⟨b3, g3⟩ := hb 3 (by omega)
  obtain ⟨b4, g4⟩ := hb 4 (by omega)
  obtain ⟨b5, g5⟩ := hb 5 (by omega)
  obtain ⟨b6, g6⟩ := hb 6 (by omega)
  obtain ⟨b7, g7⟩ := hb 7 (by omega)
  obtain ⟨b8, g8⟩ := hb 8 (by omega)
  obtain ⟨b9, g9⟩ := hb 9 (by omega)
  obtain ⟨b10, g10⟩ := hb 10 (by omega)
  obtain ⟨b11, g11⟩ := hb 11 (by omega)
  obtain ⟨b12, g12⟩ := hb 12 (by omega)
  obtain ⟨b13, g13⟩ := hb 13 (by omega)
  obtain ⟨b14, g14⟩ := hb 14 (by omega)
  obtain ⟨b15, g15⟩ := hb 15 (by omega)
  refine ⟨⟨b0, b1, b2, b3, b4, b5, b6, b7, b8, b9, b10, b11, b12, b13, b14, b15⟩, VRs_get (by rw [hl]; rfl) fun i a v ha hv => ?_⟩
  have hi16 : i < 16 := by
    rcases Nat.lt_or_ge i 16 with h | h
    · exact h
    · rw [List.getElem?_eq_none (by omega)] at hv; cases hv
  have : i = 0 ∨ i = 1 ∨ i = 2 ∨ i = 3 ∨ i = 4 ∨ i = 5 ∨ i = 6 ∨ i = 7 ∨ i = 8 ∨ i = 9 ∨ i = 10 ∨ i = 11 ∨ i = 12 ∨ i = 13 ∨ i = 14 ∨ i = 15 := by omega
  rcases this with rfl | rfl | rfl | rfl | rfl | rfl | rfl | rfl | rfl | rfl | rfl | rfl | rfl | rfl | rfl | rfl
  all_goals
    first
      | rw [g0] at hv | rw [g1] at hv | rw [g2] at hv | rw [g3] at hv | rw [g4] at hv | rw [g5] at hv | rw [g6] at hv | rw [g7] at hv | rw [g8] at hv | rw [g9] at hv | rw [g10] at hv | rw [g11] at hv | rw [g12] at hv | rw [g13] at hv | rw [g14] at hv | rw [g15] at hv
    cases hv
    cases ha
    unfold VR; rfl

theorem rd_entry (h : DataW.trod enc Try.prog W base sp held fuel 51 cs = some x) : ∃ e : Entry, VRs (cellsW W) noBM e.cells cs ∧ True := by
  obtain ⟨fs, hfs, f0, f1, f2, f3, f4, f5, f6, h0, h1, h2, h3, h4, h5, h6, t0, t1, t2, t3, t4, t5, t6, o0, o1, o2, o3, o4, o5, o6⟩ :
      ∃ fs : Array Field, Try.prog.underlying 51 = some (.struct fs) ∧ ∃ (f0 f1 f2 f3 f4 f5 f6 : Field), fs[0]? = some f0 ∧ fs[1]? = some f1 ∧ fs[2]? = some f2 ∧ fs[3]? = some f3 ∧ fs[4]? = some f4 ∧ fs[5]? = some f5 ∧ fs[6]? = some f6 ∧
        f0.type = 9 ∧ f1.type = 9 ∧ f2.type = 3 ∧ f3.type = 3 ∧ f4.type = 3 ∧ f5.type = 3 ∧ f6.type = 49 ∧ f0.offset = 0 ∧ f1.offset = 1 ∧ f2.offset = 2 ∧ f3.offset = 3 ∧ f4.offset = 4 ∧ f5.offset = 5 ∧ f6.offset = 6 := by
    refine ⟨_, Try.underlying51, _, _, _, _, _, _, _, rfl, rfl, rfl, rfl, rfl, rfl, rfl, rfl, rfl, rfl, rfl, rfl, rfl, rfl, rfl, rfl, rfl, rfl, rfl, rfl, rfl⟩
  obtain ⟨xs, n, _, _, hl, hx, hi⟩ := DataW.trod_struct hfs h
  rw [sz51] at hl
  have hsz : 7 ≤ fs.size := (Array.getElem?_eq_some_iff.1 h6).1
  have get : ∀ (i : Nat) (f : Field), fs[i]? = some f → ∃ y, DataW.trod enc Try.prog W base sp held n f.type ((cs.drop f.offset).take (Try.prog.cellsOf f.type)) = some y := fun i f hf => by
    have h := hi i f hf
    have : i < fs.size := (Array.getElem?_eq_some_iff.1 hf).1
    rw [List.getElem?_eq_getElem (by omega)] at h
    exact ⟨_, h⟩
  have s9 : Try.prog.cellsOf 9 = 1 := by kernel_rfl
  have s3 : Try.prog.cellsOf 3 = 1 := by kernel_rfl
  obtain ⟨_, y0⟩ := get 0 f0 h0
  obtain ⟨_, y1⟩ := get 1 f1 h1
  obtain ⟨_, y2⟩ := get 2 f2 h2
  obtain ⟨_, y3⟩ := get 3 f3 h3
  obtain ⟨_, y4⟩ := get 4 f4 h4
  obtain ⟨_, y5⟩ := get 5 f5 h5
  obtain ⟨_, y6⟩ := get 6 f6 h6
  rw [t0, o0, s9] at y0
  rw [t1, o1, s9] at y1
  rw [t2, o2, s3] at y2
  rw [t3, o3, s3] at y3
  rw [t4, o4, s3] at y4
  rw [t5, o5, s3] at y5
  rw [t6, o6, sz49] at y6
  obtain ⟨k, e0⟩ := rd_str ty9 y0
  obtain ⟨v, e1⟩ := rd_str ty9 y1
  obtain ⟨n2, e2, _⟩ := rd_int ty3 y2
  obtain ⟨n3, e3, _⟩ := rd_int ty3 y3
  obtain ⟨n4, e4, _⟩ := rd_int ty3 y4
  obtain ⟨n5, e5, _⟩ := rd_int ty3 y5
  obtain ⟨d, e6⟩ := rd_dg y6
  have hcs : cs = [.string ⟨k.toArray⟩, .string ⟨v.toArray⟩, .int .i64 n2, .int .i64 n3, .int .i64 n4, .int .i64 n5] ++ (cs.drop 6).take 16 := by
    have g0 := take_one e0
    have g1 := take_one e1
    have g2 := take_one e2
    have g3 := take_one e3
    have g4 := take_one e4
    have g5 := take_one e5
    apply List.ext_getElem?
    intro i
    have : i = 0 ∨ i = 1 ∨ i = 2 ∨ i = 3 ∨ i = 4 ∨ i = 5 ∨ 6 ≤ i := by omega
    rcases this with rfl | rfl | rfl | rfl | rfl | rfl | h
    · exact g0
    · exact g1
    · exact g2
    · exact g3
    · exact g4
    · exact g5
    · rw [List.getElem?_append_right (by simpa using h)]
      simp only [List.length_cons, List.length_nil]
      rw [List.getElem?_take]
      by_cases h' : i - 6 < 16
      · rw [if_pos h', List.getElem?_drop]
        show cs[i]? = cs[6 + (i - 6)]?
        rw [show 6 + (i - 6) = i by omega]
      · rw [if_neg h', List.getElem?_eq_none (by omega)]
  refine ⟨⟨k, v, n2, n3, n4, n5, d⟩, ?_, trivial⟩
  rw [hcs]
  show VRs (cellsW W) noBM ([.str k, .str v, i64 n2, i64 n3, i64 n4, i64 n5] ++ d.cells) _
  refine VRs_app ?_ e6
  repeat' (first | exact VRs_one (by unfold VR; rfl) | (refine @VRs_app _ _ [_] _ [_] _ (VRs_one (by unfold VR; rfl)) ?_))

/-- A slice of entries. -/
theorem rd_entries (h : DataW.trod enc Try.prog W base sp held fuel 22 cs = some x) : ∃ (l : List Entry) (v : Value), cs = [v] ∧ VR (cellsW W) noBM (.lst 22 (l.map Entry.av) false) v := by
  obtain ⟨l, v, h1, h2, _⟩ := rd_slice (g := Entry.cells) (ok := fun _ => True) ty22 sz51 (by decide) (fun fuel cs x h => rd_entry h) h
  exact ⟨l, v, h1, h2⟩
end
end Go.Proofs
/- Arguments as they are read: pages. -/
set_option linter.unusedVariables false
set_option linter.unusedSimpArgs false
namespace Go.Proofs
open Go Go.Abs Go.ChangeShapes Go.WideShapes Go.ChangeAt Go.RowKit
theorem tyPage : ∃ fs : Array Field, Try.prog.underlying 25 = some (.struct fs) ∧ ∃ (f0 f1 f2 f3 f4 f5 f6 f7 f8 f9 : Field), fs[0]? = some f0 ∧ fs[1]? = some f1 ∧ fs[2]? = some f2 ∧ fs[3]? = some f3 ∧ fs[4]? = some f4 ∧ fs[5]? = some f5 ∧ fs[6]? = some f6 ∧ fs[7]? = some f7 ∧ fs[8]? = some f8 ∧ fs[9]? = some f9 ∧
    f0.type = 3 ∧ f1.type = 3 ∧ f2.type = 3 ∧ f3.type = 3 ∧ f4.type = 3 ∧ f5.type = 4 ∧ f6.type = 22 ∧ f7.type = 3 ∧ f8.type = 9 ∧ f9.type = 23 ∧ f0.offset = 0 ∧ f1.offset = 1 ∧ f2.offset = 2 ∧ f3.offset = 3 ∧ f4.offset = 4 ∧ f5.offset = 5 ∧ f6.offset = 6 ∧ f7.offset = 7 ∧ f8.offset = 8 ∧ f9.offset = 9 :=
  ⟨_, Try.underlying25, _, _, _, _, _, _, _, _, _, _, rfl, rfl, rfl, rfl, rfl, rfl, rfl, rfl, rfl, rfl, rfl, rfl, rfl, rfl, rfl, rfl, rfl, rfl, rfl, rfl, rfl, rfl, rfl, rfl, rfl, rfl, rfl, rfl, rfl, rfl⟩
theorem tyFreed : ∃ fs : Array Field, Try.prog.underlying 109 = some (.struct fs) ∧ ∃ (f0 f1 : Field), fs[0]? = some f0 ∧ fs[1]? = some f1 ∧ f0.type = 3 ∧ f1.type = 107 ∧ f0.offset = 0 ∧ f1.offset = 1 :=
  ⟨_, Try.underlying109, _, _, rfl, rfl, rfl, rfl, rfl, rfl⟩
theorem tyInts : Try.prog.underlying 107 = some (.slice 3) := by kernel_rfl
theorem tyFreeds : Try.prog.underlying 23 = some (.slice 109) := by kernel_rfl
theorem szPage : Try.prog.cellsOf 25 = 10 := by kernel_rfl
theorem szFreed : Try.prog.cellsOf 109 = 2 := by kernel_rfl
theorem s3 : Try.prog.cellsOf 3 = 1 := by kernel_rfl
theorem s4 : Try.prog.cellsOf 4 = 1 := by kernel_rfl
theorem s9 : Try.prog.cellsOf 9 = 1 := by kernel_rfl
theorem sEs : Try.prog.cellsOf 22 = 1 := by kernel_rfl
theorem sFs : Try.prog.cellsOf 23 = 1 := by kernel_rfl
theorem sIs : Try.prog.cellsOf 107 = 1 := by kernel_rfl
theorem ER_ints {S : SM} {m : BM} {sz : Nat} : ∀ {l : List Int} {B q : Nat}, (∀ i k, l[i]? = some k → S B (q + i * sz) = some (.int .i64 k)) → ER S m sz (l.map i64) B q
  | [], _, _, _ => by unfold ER; trivial
  | k :: l, B, q, h => by
    show ER S m sz (i64 k :: l.map i64) B q
    unfold ER
    refine ⟨⟨_, by simpa using h 0 k rfl, by unfold VR; rfl⟩, ER_ints fun i k' he => ?_⟩
    have := h (i + 1) k' (by simpa using he)
    rwa [show q + (i + 1) * sz = q + sz + i * sz by rw [Nat.add_mul]; omega] at this
section
variable {H : Type} {enc : TypeId × Value → H} {W : World} {base : Nat} {sp : Nat → Bool} {held : Bool} {fuel : Nat} {cs : List Value} {x : DataW H × List MemPlace}
theorem rd_ints (h : DataW.trod enc Try.prog W base sp held fuel 107 cs = some x) : ∃ (l : List Int) (v : Value), cs = [v] ∧ VR (cellsW W) noBM (.lst 1 (l.map i64) false) v ∧ l.length < 9223372036854775808 := by
  rcases DataW.trod_slice tyInts h with ⟨rfl, _⟩ | ⟨a, len, cap, elems, rest, n, _, rfl, _, hb, hlc, hcm, hel, hi, _, _⟩
  · exact ⟨[], _, rfl, by unfold VR; exact ⟨none, 0, rfl, Nat.le_refl _, (fun h => by cases h), fun h => (h rfl).elim⟩, by decide⟩
  · rw [s3] at hi
    obtain ⟨l, hl, hg⟩ := list_of (p := fun i (k : Int) => W.cells? base (a.add (i * 1)) 1 = some [.int .i64 k]) len fun i hil => by
      have h1 := hi i hil
      have h2 : elems[i]? = some (elems[i]'(by omega)) := List.getElem?_eq_getElem (by omega)
      rw [h2] at h1
      obtain ⟨cs', h3, h4⟩ := Option.bind_eq_some_iff.1 h1
      obtain ⟨k, rfl, _⟩ := rd_int ty3 h4
      exact ⟨k, h3⟩
    refine ⟨l, _, rfl, ?_, by rw [hl]; unfold maxLen at hcm; omega⟩
    unfold VR
    refine ⟨some a, cap, by simp [hl], by simpa [hl] using hlc, (fun h => by cases h), fun hne => ?_⟩
    have hpos : 0 < len := by
      rcases Nat.eq_zero_or_pos len with h | h
      · subst h
        have : l = [] := List.length_eq_zero_iff.1 hl
        subst this
        exact (hne rfl).elim
      · exact h
    have hspot : a.spot = none := by
      have h1 := hg 0 l[0] (List.getElem?_eq_getElem (by omega))
      obtain ⟨_, h3, h4⟩ := World.cells?_some h1
      have h5 := h4 0 (by decide)
      have := World.cell?_spot h5
      simpa [Addr.add] using this
    obtain ⟨B, q, spot⟩ := a
    simp only at hspot
    subst hspot
    refine ⟨B, q, rfl, ER_ints fun i k hk => ?_⟩
    have h1 := hg i k hk
    obtain ⟨_, h3, h4⟩ := World.cells?_some h1
    have h6 := h4 0 (by decide)
    have e7 : ((⟨B, q, none⟩ : Addr).add (i * 1)).add 0 = ⟨B, q + i * 1, none⟩ := by
      unfold Addr.add
      by_cases e1 : i = 0 <;> simp [e1]
    rw [e7] at h6
    exact h6
theorem two_of {v0 v1 : Value} (hl : cs.length = 2) (g0 : cs[0]? = some v0) (g1 : cs[1]? = some v1) : cs = [v0, v1] := by
  match cs, hl with
  | [a, b], _ => simp at g0 g1; rw [g0, g1]
theorem rd_freed (h : DataW.trod enc Try.prog W base sp held fuel 109 cs = some x) : ∃ f : Freed, VRs (cellsW W) noBM f.cells cs ∧ (f.Ok ∧ f.pages.length < 9223372036854775808) := by
  obtain ⟨fs, hfs, f0, f1, h0, h1, t0, t1, o0, o1⟩ := tyFreed
  obtain ⟨xs, n, _, _, hl, hx, hi⟩ := DataW.trod_struct hfs h
  rw [szFreed] at hl
  have get : ∀ (i : Nat) (f : Field), fs[i]? = some f → ∃ y, DataW.trod enc Try.prog W base sp held n f.type ((cs.drop f.offset).take (Try.prog.cellsOf f.type)) = some y := fun i f hf => by
    have h := hi i f hf
    have : i < fs.size := (Array.getElem?_eq_some_iff.1 hf).1
    rw [List.getElem?_eq_getElem (by omega)] at h
    exact ⟨_, h⟩
  obtain ⟨_, y0⟩ := get 0 f0 h0
  obtain ⟨_, y1⟩ := get 1 f1 h1
  rw [t0, o0, s3] at y0
  rw [t1, o1, sIs] at y1
  obtain ⟨k, e0, _⟩ := rd_int ty3 y0
  obtain ⟨l, v, e1, g1, gl⟩ := rd_ints y1
  have hcs := two_of hl (take_one e0) (take_one e1)
  refine ⟨⟨k, ⟨1, false⟩, l⟩, ?_, fun _ => rfl, gl⟩
  rw [hcs]
  exact @VRs_app _ _ [_] _ [_] _ (VRs_one (a := i64 k) (by unfold VR; rfl)) (VRs_one g1)
theorem rd_freeds (h : DataW.trod enc Try.prog W base sp held fuel 23 cs = some x) : ∃ (l : List Freed) (v : Value), cs = [v] ∧ VR (cellsW W) noBM (.lst 2 (l.map Freed.av) false) v ∧ ∀ f ∈ l, f.Ok ∧ f.pages.length < 9223372036854775808 := by
  obtain ⟨l, v, h1, h2, h3⟩ := rd_slice (g := Freed.cells) (ok := fun f => f.Ok ∧ f.pages.length < 9223372036854775808) tyFreeds szFreed (by decide) (fun fuel cs x h => rd_freed h) h
  exact ⟨l, v, h1, h2, h3⟩
theorem ten_of {v0 v1 v2 v3 v4 v5 v6 v7 v8 v9 : Value} (hl : cs.length = 10) (g0 : cs[0]? = some v0) (g1 : cs[1]? = some v1) (g2 : cs[2]? = some v2) (g3 : cs[3]? = some v3) (g4 : cs[4]? = some v4) (g5 : cs[5]? = some v5) (g6 : cs[6]? = some v6) (g7 : cs[7]? = some v7) (g8 : cs[8]? = some v8) (g9 : cs[9]? = some v9) : cs = [v0, v1, v2, v3, v4, v5, v6, v7, v8, v9] := by
  match cs, hl with
  | [a, b, c, d, e, f, g, h, i, j], _ => simp at g0 g1 g2 g3 g4 g5 g6 g7 g8 g9; rw [g0, g1, g2, g3, g4, g5, g6, g7, g8, g9]
/-- A page. -/
theorem rd_page (h : DataW.trod enc Try.prog W base sp held fuel 25 cs = some x) : ∃ p : Page, VRs (cellsW W) noBM p.cells cs ∧ (p.entries ≠ [] → p.esh.sz = 22) ∧ (p.freed ≠ [] → p.fsh.sz = 2) ∧ ∀ f ∈ p.freed, f.Ok ∧ f.pages.length < 9223372036854775808 := by
  obtain ⟨fs, hfs, f0, f1, f2, f3, f4, f5, f6, f7, f8, f9, h0, h1, h2, h3, h4, h5, h6, h7, h8, h9, t0, t1, t2, t3, t4, t5, t6, t7, t8, t9, o0, o1, o2, o3, o4, o5, o6, o7, o8, o9⟩ := tyPage
  obtain ⟨xs, n, _, _, hl, hx, hi⟩ := DataW.trod_struct hfs h
  rw [szPage] at hl
  have get : ∀ (i : Nat) (f : Field), fs[i]? = some f → ∃ y, DataW.trod enc Try.prog W base sp held n f.type ((cs.drop f.offset).take (Try.prog.cellsOf f.type)) = some y := fun i f hf => by
    have h := hi i f hf
    have : i < fs.size := (Array.getElem?_eq_some_iff.1 hf).1
    rw [List.getElem?_eq_getElem (by omega)] at h
    exact ⟨_, h⟩
  obtain ⟨_, y0⟩ := get 0 f0 h0
  obtain ⟨_, y1⟩ := get 1 f1 h1
  obtain ⟨_, y2⟩ := get 2 f2 h2
  obtain ⟨_, y3⟩ := get 3 f3 h3
  obtain ⟨_, y4⟩ := get 4 f4 h4
  obtain ⟨_, y5⟩ := get 5 f5 h5
  obtain ⟨_, y6⟩ := get 6 f6 h6
  obtain ⟨_, y7⟩ := get 7 f7 h7
  obtain ⟨_, y8⟩ := get 8 f8 h8
  obtain ⟨_, y9⟩ := get 9 f9 h9
  rw [t0, o0, s3] at y0
  rw [t1, o1, s3] at y1
  rw [t2, o2, s3] at y2
  rw [t3, o3, s3] at y3
  rw [t4, o4, s3] at y4
  rw [t5, o5, s4] at y5
  rw [t6, o6, sEs] at y6
  rw [t7, o7, s3] at y7
  rw [t8, o8, s9] at y8
  rw [t9, o9, sFs] at y9
  obtain ⟨n0, e0, _⟩ := rd_int ty3 y0
  obtain ⟨n1, e1, _⟩ := rd_int ty3 y1
  obtain ⟨n2, e2, _⟩ := rd_int ty3 y2
  obtain ⟨n3, e3, _⟩ := rd_int ty3 y3
  obtain ⟨n4, e4, _⟩ := rd_int ty3 y4
  obtain ⟨b5, e5⟩ := rd_bool ty4 y5
  obtain ⟨es, v6, e6, g6⟩ := rd_entries y6
  obtain ⟨n7, e7, _⟩ := rd_int ty3 y7
  obtain ⟨s8, e8⟩ := rd_str ty9 y8
  obtain ⟨fr, v9, e9, g9, ok9⟩ := rd_freeds y9
  have hcs := ten_of hl (take_one e0) (take_one e1) (take_one e2) (take_one e3) (take_one e4) (take_one e5) (take_one e6) (take_one e7) (take_one e8) (take_one e9)
  refine ⟨⟨n0, n1, n2, n3, n4, b5, ⟨22, false⟩, es, n7, s8, ⟨2, false⟩, fr⟩, ?_, fun _ => rfl, fun _ => rfl, ok9⟩
  rw [hcs]
  show VRs (cellsW W) noBM [i64 n0, i64 n1, i64 n2, i64 n3, i64 n4, .bool b5, .lst 22 (es.map Entry.av) false, i64 n7, .str s8, .lst 2 (fr.map Freed.av) false] _
  have fi : ∀ k : Int, VR (cellsW W) noBM (i64 k) (.int .i64 k) := fun k => by unfold VR; rfl
  have fb : VR (cellsW W) noBM (.bool b5) (.bool b5) := by unfold VR; rfl
  have fs : VR (cellsW W) noBM (.str s8) (.string ⟨s8.toArray⟩) := by unfold VR; rfl
  exact @VRs_app _ _ [_] _ [_] _ (VRs_one (fi n0)) (@VRs_app _ _ [_] _ [_] _ (VRs_one (fi n1)) (@VRs_app _ _ [_] _ [_] _ (VRs_one (fi n2)) (@VRs_app _ _ [_] _ [_] _ (VRs_one (fi n3)) (@VRs_app _ _ [_] _ [_] _ (VRs_one (fi n4)) (@VRs_app _ _ [_] _ [_] _ (VRs_one fb) (@VRs_app _ _ [_] _ [_] _ (VRs_one g6) (@VRs_app _ _ [_] _ [_] _ (VRs_one (fi n7)) (@VRs_app _ _ [_] _ [_] _ (VRs_one fs) (VRs_one g9)))))))))
end
end Go.Proofs
/- The chapter's examples hold: by runs of the small machine. -/
set_option linter.unusedVariables false
set_option linter.unusedSimpArgs false
namespace Go.Proofs
open Go Go.Abs
def ex : AV := .agg [.int .i64 (1), .int .i64 (2), .int .i64 (1), .int .i64 (0), .int .i64 (0), .bool true, .lst 22 [.agg [.str [97, 98], .str [120], .int .i64 (0), .int .i64 (0), .int .i64 (0), .int .i64 (0), .int .u8 (0), .int .u8 (0), .int .u8 (0), .int .u8 (0), .int .u8 (0), .int .u8 (0), .int .u8 (0), .int .u8 (0), .int .u8 (0), .int .u8 (0), .int .u8 (0), .int .u8 (0), .int .u8 (0), .int .u8 (0), .int .u8 (0), .int .u8 (0)], .agg [.str [97, 99], .str [121, 122], .int .i64 (0), .int .i64 (0), .int .i64 (0), .int .i64 (0), .int .u8 (0), .int .u8 (0), .int .u8 (0), .int .u8 (0), .int .u8 (0), .int .u8 (0), .int .u8 (0), .int .u8 (0), .int .u8 (0), .int .u8 (0), .int .u8 (0), .int .u8 (0), .int .u8 (0), .int .u8 (0), .int .u8 (0), .int .u8 (0)]] true, .int .i64 (0), .str [], .lst 0 [] true]
def st : AV := .str [85, 1, 0, 0, 0, 2, 0, 0, 0, 0, 0, 1, 0, 0, 1, 1, 0, 2, 97, 0, 23, 0, 28, 1, 98, 0, 1, 120, 1, 99, 0, 2, 121, 122, 0, 0, 0, 0, 0, 0, 0, 0, 0, 0, 0, 0, 0, 0, 0, 0, 0, 0, 0, 0, 0, 0, 0, 0, 0, 0, 0, 0, 0, 0, 0, 0, 0, 0, 0, 0, 0, 0, 0, 0, 0, 0, 0, 0, 0, 0, 0, 0, 0, 0, 0, 0, 0, 0, 0, 0, 0, 0, 0, 0, 0, 0, 0, 0, 0, 0, 0, 0, 0, 0, 0, 0, 0, 0, 0, 0, 0, 0, 0, 0, 0, 0, 0, 0, 0, 0, 0, 0, 0, 0, 0, 0, 0, 0, 0, 0, 0, 0, 0, 0, 0, 0, 0, 0, 0, 0, 0, 0, 0, 0, 0, 0, 0, 0, 0, 0, 0, 0, 0, 0, 0, 0, 0, 0, 0, 0, 0, 0, 0, 0, 0, 0, 0, 0, 0, 0, 0, 0, 0, 0, 0, 0, 0, 0, 0, 0, 0, 0, 0, 0, 0, 0, 0, 0, 0, 0, 0, 0, 0, 0, 0, 0, 0, 0, 0, 0, 0, 0, 0, 0, 0, 0, 0, 0, 0, 0, 0, 0, 0, 0, 0, 0, 0, 0, 0, 0, 0, 0, 0, 0, 0, 0, 0, 0, 0, 0, 0, 0, 0, 0, 0, 0, 0, 0, 0, 0, 0, 0, 0, 0, 0, 0, 0, 0, 0, 0, 0, 0, 0, 0, 0, 0, 0, 0, 0, 0, 0, 0, 0, 0, 0, 0, 0, 0, 0, 0, 0, 0, 0, 0, 0, 0, 0, 0, 0, 0, 0, 0, 0, 0, 0, 0, 0, 0, 0, 0, 0, 0, 0, 0, 0, 0, 0, 0, 0, 0, 0, 0, 0, 0, 0, 0, 0, 0, 0, 0, 0, 0, 0, 0, 0, 0, 0, 0, 0, 0, 0, 0, 0, 0, 0, 0, 0, 0, 0, 0, 0, 0, 0, 0, 0, 0, 0, 0, 0, 0, 0, 0, 0, 0, 0, 0, 0, 0, 0, 0, 0, 0, 0, 0, 0, 0, 0, 0, 0, 0, 0, 0, 0, 0, 0, 0, 0, 0, 0, 0, 0, 0, 0, 0, 0, 0, 0, 0, 0, 0, 0, 0, 0, 0, 0, 0, 0, 0, 0, 0, 0, 0, 0, 0, 0, 0, 0, 0, 0, 0, 0, 0, 0, 0, 0, 0, 0, 0, 0, 0, 0, 0, 0, 0, 0, 0, 0, 0, 0, 0, 0, 0, 0, 0, 0, 0, 0, 0, 0, 0, 0, 0, 0, 0, 0, 0, 0, 0, 0, 0, 0, 0, 0, 0, 0, 0, 0, 0, 0, 0, 0, 0, 0, 0, 0, 0, 0, 0, 0, 0, 0, 0, 0, 0, 0, 0, 0, 0, 0, 0, 0, 0, 0, 0, 0, 0, 0, 0, 0, 0, 0, 0, 0, 0, 0, 0, 0, 0, 0, 0, 0, 0, 0, 0, 0, 0, 0, 0, 0, 0, 0, 0, 0, 0, 0, 0, 0, 0, 53, 146, 233, 230]

theorem enc_run : CN Try.prog cfg1 20 9 [ex] [] = some (.ret (.tup [st, .int .i64 0]), []) := by kernel_rfl
def sum2 : FuncId → List AV → Option AV := fun f args => cond (Nat.beq f 9) (cond (beqVs args [ex]) (some (.tup [st, .int .i64 0])) none) (sum1 f args)
def cfg2 : Cfg := ⟨inl0, sum2⟩
theorem enc_pure : PureCalls Try.prog 9 [ex] (.ret (.tup [st, .int .i64 0])) := pure_of_CN sum1_ok rfl enc_run
theorem sum2_ok : SumOk Try.prog cfg2 := fun f args v h => by
  change sum2 f args = some v at h
  unfold sum2 at h
  cases hf : Nat.beq f 9 with
  | false => rw [hf] at h; exact sum1_ok f args v h
  | true =>
    rw [hf] at h
    have : f = 9 := Nat.eq_of_beq_eq_true hf
    subst this
    simp only [cond] at h
    cases hb : beqVs args [ex] with
    | false => rw [hb] at h; cases h
    | true =>
      rw [hb] at h
      have := beqVs_eq args hb
      subst this
      cases h
      exact enc_pure
theorem sane_run : CN Try.prog cfg2 20 7 [] [] = some (.ret (.bool true), []) := by kernel_rfl
theorem sane_pure : PureCalls Try.prog 7 [] (.ret (.bool true)) := pure_of_CN sum2_ok rfl sane_run
end Go.Proofs
/- What is known holds. -/
set_option linter.unusedVariables false
set_option linter.unusedSimpArgs false
namespace Go.Proofs
open Go Go.Abs
theorem sum0_ok : SumOk Try.prog cfg0 := fun f args v h => by
  change sum0 f args = some v at h
  unfold sum0 at h
  cases hf : Nat.beq f 7 with
  | false => rw [hf] at h; exact sum1_ok f args v h
  | true =>
    rw [hf] at h
    have : f = 7 := Nat.eq_of_beq_eq_true hf
    subst this
    simp only [cond] at h
    split at h
    · cases h; exact sane_pure
    · cases h
end Go.Proofs
/- The law PageDamage: for every input it returns true. -/
set_option linter.unusedVariables false
set_option linter.unusedSimpArgs false
namespace Go.Proofs
open Go Go.Abs Go.ChangeShapes Go.WideShapes Go.ChangeAt Go.RowKit
theorem head_sealed {s : Str} (h : headOk s = true) : s.length = 512 ∧ Sealed s := by
  unfold headOk at h
  simp only [Bool.and_eq_true, decide_eq_true_eq] at h
  exact ⟨h.1, h.2.2.1⟩
theorem enc_sealed {p : Page} (hc : p.check = true) : Sealed p.enc := by
  unfold Sealed Page.enc
  have : (p.full ++ crcB p.full).take 508 = p.full := by
    rw [List.take_append_of_le_length (by rw [full_len hc]; decide), List.take_of_length_le (by rw [full_len hc]; decide)]
  rw [this]
theorem near_bad {p : Page} (hc : p.check = true) {bs : Str} {k : Nat} (hn : Near p.enc bs k) (hne : bs ≠ p.enc) : headOk bs = false := by
  cases hb : headOk bs with
  | false => rfl
  | true => exact (hne (sealed_eq (enc_sealed hc) (head_sealed hb).2 hn.1.symm k hn.2).symm).elim
theorem small_ok {p : Page} (h : smallB p = true) (o1 : p.entries ≠ [] → p.esh.sz = 22) (o2 : p.freed ≠ [] → p.fsh.sz = 2) (o3 : ∀ f ∈ p.freed, f.Ok ∧ f.pages.length < 9223372036854775808) : p.Ok := by
  unfold smallB shortB at h
  simp only [Bool.and_eq_true, decide_eq_true_eq] at h
  obtain ⟨h1, ⟨_, h2⟩, h3⟩ := h
  obtain ⟨h4, h5⟩ := few_iff.1 h1
  exact ⟨o1, o2, by omega, by omega, by omega, fun e he => by have := h5 e he; exact ⟨by omega, by omega⟩, o3⟩
theorem pageDamage_eq {n : Nat} {h : AHeap} (hn : 12 ≤ n) (p : Page) (o1 : p.entries ≠ [] → p.esh.sz = 22) (o2 : p.freed ≠ [] → p.fsh.sz = 2) (o3 : ∀ f ∈ p.freed, f.Ok ∧ f.pages.length < 9223372036854775808) (at' : UInt16) (by' : B4) (cut : UInt16) (more : Str) :
    C n 3 [p.av, .int .u16 at'.toNat, by'.av, .int .u16 cut.toNat, .str more] h = some (.ret (.bool true), h) := by
  obtain ⟨m, rfl⟩ : ∃ m, n = m + 1 := ⟨n - 1, by omega⟩
  have cs : ∀ h, C m 7 [] h = some (.ret (.bool true), h) := fun h => sane_eq (by omega) h
  have csm : ∀ h, C m 8 [.lst 10 [p.av] true] h = some (.ret (.bool (smallB p)), h) := fun h => small_eq (by omega) p o1 o2
  have hpure : pureBs [p.av, .int .u16 at'.toNat, by'.av, .int .u16 cut.toNat, .str more] = true := by simp [pureBs, page_pure, B4.av, B4.cells, AV.pureB]
  cases hs : smallB p with
  | false =>
    rw [hs] at csm
    refine fun_pure F3 rfl rfl rfl hpure ?_
    conv => whnf
    refine clI (cs _) ?_
    conv => whnf
    refine ldI (by rfl) ?_
    conv => whnf
    refine ⟨rfl, ?_⟩
    conv => whnf
    refine clI (csm _) ?_
    conv => whnf
    exact retP rfl (frz_bool rfl)
  | true =>
    rw [hs] at csm
    have ok := small_ok hs o1 o2 o3
    have cE := fun h => encode_eq (n := m) (h := h) (by omega) p ok
    by_cases hm : more.length ≤ 600
    · cases hc : p.check with
      | true =>
        rw [hc] at cE
        exact damage_in p (enc_len hc) at' by' cut more hm cs csm cE (fun t => decode_any (by omega) t) (fun bs h1 h2 => near_bad hc h1 h2)
      | false =>
        rw [hc] at cE
        refine fun_pure F3 rfl rfl rfl hpure ?_
        conv => whnf
        refine clI (cs _) ?_
        conv => whnf
        refine ldI (by rfl) ?_
        conv => whnf
        refine ⟨rfl, ?_⟩
        conv => whnf
        refine clI (csm _) ?_
        conv => whnf
        refine brd (fun a => absurd a (by omega)) (fun _ => ?_)
        conv => whnf
        refine ldI (by rfl) ?_
        conv => whnf
        refine clI (cE _) ?_
        conv => whnf
        exact retP rfl (frz_bool rfl)
    · refine fun_pure F3 rfl rfl rfl hpure ?_
      conv => whnf
      refine clI (cs _) ?_
      conv => whnf
      refine ldI (by rfl) ?_
      conv => whnf
      refine ⟨rfl, ?_⟩
      conv => whnf
      refine clI (csm _) ?_
      conv => whnf
      refine brd (fun _ => ?_) (fun a => absurd (by omega) a)
      conv => whnf
      exact retP rfl (frz_bool rfl)

theorem tyB4 : Try.prog.underlying 27 = some (.array 4 5) := by kernel_rfl
theorem szB4 : Try.prog.cellsOf 27 = 4 := by kernel_rfl
theorem ty16 : Try.prog.underlying 26 = some (.int .u16) := by kernel_rfl
section
variable {H : Type} {enc : TypeId × Value → H} {W : World} {base : Nat} {sp : Nat → Bool} {held : Bool} {fuel : Nat} {cs : List Value} {x : DataW H × List MemPlace}
theorem four_of {v0 v1 v2 v3 : Value} (hl : cs.length = 4) (g0 : cs[0]? = some v0) (g1 : cs[1]? = some v1) (g2 : cs[2]? = some v2) (g3 : cs[3]? = some v3) : cs = [v0, v1, v2, v3] := by
  match cs, hl with
  | [a, b, c, d], _ => simp at g0 g1 g2 g3; rw [g0, g1, g2, g3]
theorem rd_b4 (h : DataW.trod enc Try.prog W base sp held fuel 27 cs = some x) : ∃ d : B4, VRs (cellsW W) noBM d.cells cs := by
  obtain ⟨xs, m, _, _, hl, hx, hi⟩ := DataW.trod_array tyB4 h
  rw [szB4] at hl
  rw [sz5] at hi
  have hb : ∀ i, i < 4 → ∃ b : UInt8, cs[i]? = some (.int .u8 b.toNat) := fun i hi' => by
    have h1 := hi i hi'
    rw [List.getElem?_eq_getElem (by omega)] at h1
    obtain ⟨b, h2⟩ := rd_u8 ty5 h1
    rw [Nat.mul_one] at h2
    exact ⟨b, take_one h2⟩
  obtain ⟨b0, g0⟩ := hb 0 (by omega)
  obtain ⟨b1, g1⟩ := hb 1 (by omega)
  obtain ⟨b2, g2⟩ := hb 2 (by omega)
  obtain ⟨b3, g3⟩ := hb 3 (by omega)
  refine ⟨⟨b0, b1, b2, b3⟩, ?_⟩
  rw [four_of hl g0 g1 g2 g3]
  have fi : ∀ k : UInt8, VR (cellsW W) noBM (u8 k) (.int .u8 k.toNat) := fun k => by unfold VR; rfl
  exact @VRs_app _ _ [_] _ [_] _ (VRs_one (fi b0)) (@VRs_app _ _ [_] _ [_] _ (VRs_one (fi b1)) (@VRs_app _ _ [_] _ [_] _ (VRs_one (fi b2)) (VRs_one (fi b3))))
theorem rd_u16 (h : DataW.trod enc Try.prog W base sp held fuel 26 cs = some x) : ∃ b : UInt16, cs = [.int .u16 b.toNat] := by
  obtain ⟨n, rfl, hw⟩ := rd_int ty16 h
  refine ⟨UInt16.ofNat n.toNat, ?_⟩
  have h2 : 0 ≤ n ∧ n ≤ 65535 := by simpa [Lit.wf, IntKind.min, IntKind.max, IntKind.signed, IntKind.bits] using hw
  have : (UInt16.ofNat n.toNat).toNat = n.toNat := by
    rw [UInt16.toNat_ofNat']; omega
  rw [this]
  congr 1
  congr 1
  omega
end
theorem okWide_array {P : Program} {w : World} {r : Reach} {base : Nat} {t e : TypeId} {n : Nat} {v : Value} (ht : P.underlying t = some (.array n e)) (h : Value.okWide P w r base t v) : ∃ cs, v = .agg cs := by
  simp only [Value.okWide, ht] at h
  obtain ⟨cs, h1, _⟩ := h
  exact ⟨cs, h1⟩

set_option maxRecDepth 100000 in
theorem pageDamage_calls {H : Type} {enc : TypeId × Value → H} {W : World} {base : Nat} {args : Array Value} {ds gs : List (DataW H)} {before : List MemPlace}
    (hval : ∀ (j : Nat) t v, Try.f3.params[j]? = some t → args[j]? = some v → Value.okWide Try.prog W .any base t v)
    (hW : DataW.Whole enc Try.prog Try.f3.params.toList [] false W args.toList ds gs before) : ∃ xs : List AV, VRs (cellsW W) noBM xs args.toList ∧ PureCalls Try.prog 3 xs (.ret (.bool true)) := by
  obtain ⟨p, q, hA0, _⟩ := hW
  have hA : DataW.TrodAll enc Try.prog W 0 (fun _ => true) true [25, 26, 27, 26, 9] args.toList ds p := hA0
  rw [show Try.f3.params = #[25, 26, 27, 26, 9] by kernel_rfl] at hval
  obtain ⟨args⟩ := args
  simp only at hA
  obtain ⟨v0, vs0, d0, ds0, p0, q0, rfl, rfl, rfl, ⟨_, h0⟩, r0⟩ := trodAll_cons hA
  obtain ⟨v1, vs1, d1, ds1, p1, q1, rfl, rfl, rfl, ⟨_, h1⟩, r1⟩ := trodAll_cons r0
  obtain ⟨v2, vs2, d2, ds2, p2, q2, rfl, rfl, rfl, ⟨_, h2⟩, r2⟩ := trodAll_cons r1
  obtain ⟨v3, vs3, d3, ds3, p3, q3, rfl, rfl, rfl, ⟨_, h3⟩, r3⟩ := trodAll_cons r2
  obtain ⟨v4, vs4, d4, ds4, p4, q4, rfl, rfl, rfl, ⟨_, h4⟩, r4⟩ := trodAll_cons r3
  obtain ⟨rfl, rfl, rfl⟩ := trodAll_nil r4
  obtain ⟨_, tP, _⟩ := tyPage
  obtain ⟨c0, rfl, _⟩ := okWide_struct tP (hval 0 _ v0 rfl rfl)
  obtain ⟨k1, rfl⟩ := okWide_int ty16 (hval 1 _ v1 rfl rfl)
  obtain ⟨c2, rfl⟩ := okWide_array tyB4 (hval 2 _ v2 rfl rfl)
  obtain ⟨k3, rfl⟩ := okWide_int ty16 (hval 3 _ v3 rfl rfl)
  obtain ⟨b, rfl⟩ := okWide_string ty9 (hval 4 9 v4 rfl rfl)
  obtain ⟨pg, g0, o1, o2, o3⟩ := rd_page h0
  obtain ⟨at', e1⟩ := rd_u16 h1
  cases e1
  obtain ⟨b4, g2⟩ := rd_b4 h2
  obtain ⟨cut, e3⟩ := rd_u16 h3
  cases e3
  have f0 : VR (cellsW W) noBM pg.av (.agg c0) := by unfold Page.av VR; exact ⟨c0, rfl, g0⟩
  have f2 : VR (cellsW W) noBM b4.av (.agg c2) := by unfold B4.av VR; exact ⟨c2, rfl, g2⟩
  have f1 : VR (cellsW W) noBM (.int .u16 at'.toNat) (.int .u16 at'.toNat) := by unfold VR; rfl
  have f3 : VR (cellsW W) noBM (.int .u16 cut.toNat) (.int .u16 cut.toNat) := by unfold VR; rfl
  have f4 : VR (cellsW W) noBM (.str b.data.toList) (.string b) := by unfold VR; simp
  refine ⟨[pg.av, .int .u16 at'.toNat, b4.av, .int .u16 cut.toNat, .str b.data.toList], @VRs_app _ _ [_] _ [_] _ (VRs_one f0) (@VRs_app _ _ [_] _ [_] _ (VRs_one f1) (@VRs_app _ _ [_] _ [_] _ (VRs_one f2) (@VRs_app _ _ [_] _ [_] _ (VRs_one f3) (VRs_one f4)))), ?_⟩
  exact pure_of_CN (n := 13) sum0_ok rfl (pageDamage_eq (by omega) pg o1 o2 o3 at' b4 cut b.data.toList)

set_option maxRecDepth 100000 in
theorem pageDamage_lifted (os : Os) (started : os.Started) (H : Type) (enc : TypeId × Value → H) :
    ReturnsInHanded {} Try.checked os 3 .any (Ytfddiediieblhaa.Rows.pageDamageSpec.pre6 enc Try.prog Try.f3 Ytfddiediieblhaa.Rows.pageDamageRow.domain false) (Ytfddiediieblhaa.Rows.pageDamageSpec.post enc Try.prog Try.f3 false true false false) := by
  refine returnsInHanded_of_change (C := Try.checked) own started (by kernel_rfl) Try.func3
    (ChangeSpec.witness6 (enc := enc) (C := Try.checked) false ⟨#[], #[.agg #[.int .i64 0, .int .i64 0, .int .i64 0, .int .i64 0, .int .i64 0, .bool false, .slice none 0 0, .int .i64 0, .string ByteArray.empty, .slice none 0 0], .int .u16 0, .agg #[.int .u8 0, .int .u8 0, .int .u8 0, .int .u8 0], .int .u16 0, .string ByteArray.empty], []⟩ 8 (by kernel_rfl) (by kernel_rfl) (by kernel_rfl) (by kernel_rfl)) ?_
  intro W base args ds gs before hval hW _ _
  obtain ⟨xs, hv, hp⟩ := pageDamage_calls hval hW
  refine law_call laid (by kernel_rfl) (tb := 4) (by kernel_rfl) ty4 rfl (fun ds hd => ?_) hW hv hp
  match ds, hd with
  | [_, _, _, _, _], _ => rfl
end Go.Proofs
namespace Go.Proofs.Ytfddiediieblhaa
open Go Go.Abs
/-- The law PageDamage, for every input. -/
theorem pageDamage_holds : Rows.PageDamageSaid :=
  OpenClaim.holds_of_wide 3 Try.f3 rfl rfl rfl rfl rfl rfl rfl ⟨rfl, rfl, rfl, rfl, rfl⟩ rfl rfl rfl rfl rfl (by kernel_rfl) Try.func3 (by kernel_rfl)
    (of_decide_eq_true (by kernel_rfl)) (by unfold Func.isWrapper; first | (rw [if_pos (by decide +kernel)]; kernel_rfl) | (rw [if_neg (by decide +kernel)]; exact ⟨rfl, rfl⟩))
    (fun os started H enc _ => pageDamage_lifted os started H enc)
#print axioms pageDamage_holds
end Go.Proofs.Ytfddiediieblhaa
