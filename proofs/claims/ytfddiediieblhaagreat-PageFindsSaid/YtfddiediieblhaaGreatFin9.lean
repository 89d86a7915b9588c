/- Texts put together: Rk, Rl, Rm, La, Ha, Ga, Tc, Td, Te, Pa, Pb, Gb, Wf. -/
import Derived.Test.YtfddiediieblhaaGreatFin8
import Derived.Test.YtfddiediieblhaaGreatFin7
/- Contracts: lists of freed pages that are read. -/
set_option linter.unusedVariables false
set_option linter.unusedSimpArgs false
namespace Go.Proofs
open Go Go.Abs
/-- A list of numbers in memory. -/
def Inr (h : AHeap) (ps : List Nat) (L : AV) (I : List Nat) : Prop := (L = .lst 0 [] true ∧ ps = []) ∨ ∃ eb ver frz, L = .sl 1 eb ver 0 ps.length ∧ h[eb]? = some (.cells ver (some 3) (ps.map fun p : Nat => i64 p) frz) ∧ eb ∈ I
theorem Inr.stays {h h' : AHeap} {ps : List Nat} {L : AV} {I I' : List Nat} (r : Inr h ps L I) (e : ∀ x ∈ I, h'[x]? = h[x]?) (hs : ∀ x ∈ I, x ∈ I') : Inr h' ps L I' := by
  rcases r with r | ⟨eb, ver, frz, r1, r2, r3⟩
  · exact .inl r
  · exact .inr ⟨eb, ver, frz, r1, by rw [e eb r3]; exact r2, hs eb r3⟩
theorem Inr.scal {h : AHeap} {ps : List Nat} {L : AV} {I : List Nat} (r : Inr h ps L I) : AV.scal L = true := by
  rcases r with ⟨rfl, _⟩ | ⟨eb, ver, frz, rfl, _⟩ <;> rfl
theorem row1_flat : ∀ ps : List Nat, (row1 ps).flatten = ps.map fun p : Nat => i64 p
  | [] => rfl
  | p :: r => by
    have := row1_flat r
    simp only [row1, List.map_cons, List.flatten_cons] at this ⊢
    rw [this]; rfl
theorem GBuf.inr {h : AHeap} {X : Nat} {L : AV} {ps : List Nat} {G : List Nat} (g : GBuf 3 1 h X L (row1 ps) G) : Inr h ps L G := by
  rcases g.2 with ⟨h1, h2, h3⟩ | ⟨eb, ver, frz, h1, h2, h3, h4, h5⟩
  · left
    refine ⟨h1, ?_⟩
    cases ps with
    | nil => rfl
    | cons a r => simp [row1] at h2
  · right
    refine ⟨eb, ver, frz, ?_, ?_, by rw [h5]; simp⟩
    · rw [h1]; simp [row1]
    · rw [h2, row1_flat]
theorem two_scal {x : Int} {L : AV} (h : AV.scal L = true) : ([i64 x, L] : List AV).all AV.scal = true := by
  simp only [List.all_cons, List.all_nil, h, Bool.and_true]; rfl
theorem two_cells {x : Int} {L : AV} (h : AV.scal L = true) : AV.cells? (.agg [i64 x, L]) = some [i64 x, L] := by
  show (if ([i64 x, L] : List AV).all AV.scal = true then some [i64 x, L] else none) = _
  rw [if_pos (two_scal h)]
abbrev FT : Type := Nat × List Nat × AV
def rowF (t : FT) : List AV := [i64 t.1, t.2.2]
def ofF (t : FT) : Nat × List Nat := (t.1, t.2.1)
/-- A list of freed pages in memory: the slice, the lists in it. -/
structure LV (h : AHeap) (Y : Nat) (LL : AV) (ts : List FT) (G I : List Nat) : Prop where
  buf : GBuf 165 2 h Y LL (ts.map rowF) G
  inr : ∀ t ∈ ts, Inr h t.2.1 t.2.2 I
theorem LV.stays {h h' : AHeap} {Y : Nat} {LL : AV} {ts : List FT} {G I : List Nat} (v : LV h Y LL ts G I) (e : ∀ x ∈ G, x ≠ Y → h'[x]? = h[x]?) (ei : ∀ x ∈ I, h'[x]? = h[x]?) : LV h' Y LL ts G I :=
  ⟨v.buf.stays e, fun t ht => (v.inr t ht).stays ei fun _ h => h⟩
section
variable {hp : AHeap} {b : Nat} {s : Str}
theorem freeds_loop {m : Nat} (hm : 4 ≤ m) (r : RDs hp b s) {Y : Nat} {next : Int} (y0 : hp[Y]? = some (.cells 0 (some 176) [i64 next, .lst 0 [] true] 0)) (k : Nat) (hk : k < 65536) {Q : Ex → LS → Prop} {st : LS}
    (hs : LS.sub ⟨[(0, .ptr b 0 0), (11, .ptr Y 0 0), (68, i64 k), (69, i64 0)], hp, []⟩ st)
    (hE : ∀ ts t G I LL h, pfreeds k s = some (ts.map ofF, t) → RDs h b t → h[Y]? = some (.cells 0 (some 176) [i64 next, LL] 0) → LV h Y LL ts G I → Keep hp h [b, Y] → (∀ z ∈ G, z = Y ∨ hp.length ≤ z) → (∀ z ∈ I, hp.length ≤ z) → ∀ L, subL [(11, .ptr Y 0 0)] L → Q (.exit 3) ⟨L, h, []⟩)
    (hP : ∀ h L, pfreeds k s = none → Keep hp h [b, Y] → Q (.pan badV) ⟨L, h, []⟩) :
    OkR Tryz.prog (C m) cfg0.inl KK 95 7 (.loop (c119.lp 0)) st Q := by
  have hbl := r.lt
  have hYl := lt_of_get y0
  have hbY : b ≠ Y := by
    rintro rfl
    obtain ⟨all, a, q, _⟩ := r
    rw [q] at y0; cases y0
  refine loopI (by decide) rfl (α := Nat × List FT × Str × List Nat × List Nat × AV × AHeap) (fun y => ⟨[(0, .ptr b 0 0), (11, .ptr Y 0 0), (68, i64 k), (69, i64 y.1)], y.2.2.2.2.2.2, []⟩)
    (fun y => y.1 ≤ k ∧ y.2.2.2.2.2.2[Y]? = some (.cells 0 (some 176) [i64 next, y.2.2.2.2.2.1] 0) ∧ LV y.2.2.2.2.2.2 Y y.2.2.2.2.2.1 y.2.1 y.2.2.2.1 y.2.2.2.2.1 ∧ RDs y.2.2.2.2.2.2 b y.2.2.1 ∧ Keep hp y.2.2.2.2.2.2 [b, Y] ∧ (∀ z ∈ y.2.2.2.1, z = Y ∨ hp.length ≤ z) ∧ (∀ z ∈ y.2.2.2.2.1, hp.length ≤ z ∧ z ∉ y.2.2.2.1 ∧ z < y.2.2.2.2.2.2.length) ∧ y.2.1.length = y.1 ∧ pfreeds k s = (pfreeds (k - y.1) y.2.2.1).map fun q => (y.2.1.map ofF ++ q.1, q.2))
    (fun y => k - y.1) (0, [], s, [Y], [], .lst 0 [] true, hp) hs ⟨Nat.zero_le _, y0, ⟨⟨by simp, .inl ⟨rfl, rfl, rfl⟩⟩, by simp⟩, r, Keep.refl _ _, fun z hz => .inl (by simpa using hz), by simp, rfl, by simp⟩ (by show k - 0 < KK; simp only [KK]; omega) ?_
  rintro ⟨j, ts, s1, G1, I1, LL, h1⟩ ⟨g1, g2, g3, g4, g5, g6, g7, g8, g9⟩
  simp only at g1 g2 g3 g4 g5 g6 g7 g8 g9
  have bG1 : b ∉ G1 := fun q => by
    rcases g6 _ q with q | q
    · exact hbY q
    · omega
  have bI1 : b ∉ I1 := fun q => by have := (g7 _ q).1; omega
  conv => whnf
  refine brd (fun a => ?_) (fun a => ?_)
  · have hj : j < k := by simp only at a; omega
    obtain ⟨d, hd⟩ : ∃ d, k - j = d + 1 := ⟨k - j - 1, by omega⟩
    have hd' : k - (j + 1) = d := by omega
    rw [hd] at g9
    simp only [pfreeds] at g9
    conv => whnf
    refine rnumC (n := m) (hp := h1) (by omega) g4 6 (by omega) (fun h2 q2 r2 k2 => ?_) (fun q => ?_)
    · have k02 : Keep hp h2 [b, Y] := g5.trans k2 (fun z hz => .inl (by simp at hz; simp [hz]))
      conv => whnf
      refine stI (get_last _ _) (by rfl) (by rfl) (by rfl) (by rfl) ?_
      have es2 : (h2 ++ [AB.cells 0 (some 165) [i64 0, .lst 0 [] true] 0]).set h2.length (AB.cells 0 (some 165) [i64 (unnum (s1.take 6)), .lst 0 [] true] 0) = h2 ++ [AB.cells 0 (some 165) [i64 (unnum (s1.take 6)), .lst 0 [] true] 0] := by simp
      have hbX : b ≠ h2.length := by have := r2.lt; omega
      have hYX : Y ≠ h2.length := by have := k2.1; have := lt_of_get g2; omega
      have x3 : ((h2 ++ [AB.cells 0 (some 165) [i64 0, .lst 0 [] true] 0]).set h2.length (AB.cells 0 (some 165) [i64 (unnum (s1.take 6)), .lst 0 [] true] 0))[h2.length]? = some (AB.cells 0 (some 165) [i64 (unnum (s1.take 6)), .lst 0 [] true] 0) := by rw [es2]; exact get_last _ _
      have kx : Keep h2 ((h2 ++ [AB.cells 0 (some 165) [i64 0, .lst 0 [] true] 0]).set h2.length (AB.cells 0 (some 165) [i64 (unnum (s1.take 6)), .lst 0 [] true] 0)) [] := by rw [es2]; exact Keep.app _ _ _
      have r3 := r2.stays kx (by simp)
      have k03 := k02.trans kx (by simp)
      conv => whnf
      refine rnumC (n := m) (hp := (h2 ++ [AB.cells 0 (some 165) [i64 0, .lst 0 [] true] 0]).set h2.length (AB.cells 0 (some 165) [i64 (unnum (s1.take 6)), .lst 0 [] true] 0)) (by omega) r3 2 (by omega) (fun h4 q4 r4 k4 => ?_) (fun q => ?_)
      · have x4 := k4.get x3 (by simpa using hbX.symm)
        have k04 : Keep hp h4 [b, Y] := k03.trans k4 (fun z hz => .inl (by simp at hz; simp [hz]))
        have lz : unnum ((s1.drop 6).take 2) < 65536 := Nat.lt_of_lt_of_eq (unnum_lt 2 _ (by rw [List.length_take]; omega)) (by decide)
        have hX1 : h1.length ≤ h2.length := k2.1
        conv => whnf
        refine rpages_loop (hp := h4) hm r4 (X := h2.length) (ver := (unnum (s1.take 6) : Nat)) ⟨_, x4, ⟨by simp [row1], .inl ⟨rfl, rfl, rfl⟩⟩⟩ _ lz (.ptr Y 0 0) (i64 k) (i64 j) ⟨⟨rfl, rfl, rfl, rfl, rfl, rfl, rfl⟩, rfl, rfl⟩ (fun ps t G5 h5 e5 r5 x5 k5 g5' L5 hL5 => ?_) (fun h5 L5 e5 k5 => ?_)
        · have k15 : Keep h1 h5 [b] := ((k2.trans kx (by simp)).trans k4 (fun z hz => .inl hz)).trans k5 (fun z hz => by
            simp at hz
            rcases hz with rfl | rfl
            · exact .inl (by simp)
            · exact .inr hX1)
          have y5 := k15.get g2 (by simpa using hbY.symm)
          have lG1 := g3.buf.lt (lt_of_get g2)
          have l5 : LV h5 Y LL ts G1 I1 := g3.stays (fun x hx _ => k15.2 x (lG1 x hx) (by simp; rintro rfl; exact bG1 hx)) (fun x hx => k15.2 x (g7 x hx).2.2 (by simp; rintro rfl; exact bI1 hx))
          have lG5 := x5.lt
          obtain ⟨L, x5a, x5b⟩ := x5.ex
          have hi := x5b.inr
          have hsc := hi.scal
          have l14 : h1.length ≤ h4.length := ((k2.trans kx (by simp)).trans k4 (fun z hz => .inl hz)).1
          have gG5 : ∀ z ∈ G5, h1.length ≤ z := fun z hz => by
            rcases g5' z hz with q | q
            · omega
            · omega
          obtain ⟨v, oh, ea, hp2, G', ehp2, p1, p2, p3, p4, xs, p5, p6⟩ := gbuf_app (x := .lst 2 [.agg [i64 (unnum (s1.take 6)), L]] true) l5.buf (lt_of_get y5) rfl (first_agg _ rfl (two_cells hsc)) ⟨rfl, two_scal hsc⟩ (by simp only [List.length_map]; omega)
          subst p6
          have f5 := p1.trans y5
          have nxt : ∀ (L' : LT), subL [(0, .ptr b 0 0), (11, .ptr Y 0 0), (68, i64 k), (69, i64 ((j + 1 : Nat) : Int))] L' → ∃ y : Nat × List FT × Str × List Nat × List Nat × AV × AHeap, (y.1 ≤ k ∧ y.2.2.2.2.2.2[Y]? = some (.cells 0 (some 176) [i64 next, y.2.2.2.2.2.1] 0) ∧ LV y.2.2.2.2.2.2 Y y.2.2.2.2.2.1 y.2.1 y.2.2.2.1 y.2.2.2.2.1 ∧ RDs y.2.2.2.2.2.2 b y.2.2.1 ∧ Keep hp y.2.2.2.2.2.2 [b, Y] ∧ (∀ z ∈ y.2.2.2.1, z = Y ∨ hp.length ≤ z) ∧ (∀ z ∈ y.2.2.2.2.1, hp.length ≤ z ∧ z ∉ y.2.2.2.1 ∧ z < y.2.2.2.2.2.2.length) ∧ y.2.1.length = y.1 ∧ pfreeds k s = (pfreeds (k - y.1) y.2.2.1).map fun q => (y.2.1.map ofF ++ q.1, q.2)) ∧ k - y.1 < k - j ∧ LS.sub ⟨[(0, .ptr b 0 0), (11, .ptr Y 0 0), (68, i64 k), (69, i64 y.1)], y.2.2.2.2.2.2, []⟩ ⟨L', hp2.set Y (.cells 0 (some 176) (putAt [i64 next, LL] 1 [v]) 0), []⟩ := fun L' hL => by
            have kS : Keep h5 (hp2.set Y (.cells 0 (some 176) (putAt [i64 next, LL] 1 [v]) 0)) G1 := p3.set' (.inl l5.buf.mem)
            have eY : (hp2.set Y (.cells 0 (some 176) (putAt [i64 next, LL] 1 [v]) 0))[Y]? = some (.cells 0 (some 176) [i64 next, v] 0) := by rw [List.getElem?_set_self (lt_of_get f5)]; rfl
            have n5 : ∀ z ∈ G5, z ∉ G1 := fun z hz q => by have := gG5 z hz; have := lG1 z q; omega
            have sI : ∀ x ∈ I1, (hp2.set Y (.cells 0 (some 176) (putAt [i64 next, LL] 1 [v]) 0))[x]? = h5[x]? := fun x hx => kS.2 x (by have := (g7 x hx).2.2; have := k15.1; omega) (g7 x hx).2.1
            have s5 : ∀ x ∈ G5, (hp2.set Y (.cells 0 (some 176) (putAt [i64 next, LL] 1 [v]) 0))[x]? = h5[x]? := fun x hx => kS.2 x (lG5 x hx) (n5 x hx)
            have hl1 := g5.1
            have hl2 := k15.1
            have hl3 := kS.1
            refine ⟨(j + 1, ts ++ [(unnum (s1.take 6), ps, L)], t, G', I1 ++ G5, v, _), ⟨hj, eY, ⟨?_, fun u hu => ?_⟩, r5.stays kS bG1, ?_, fun z hz => ?_, fun z hz => ?_, by simp [g8], ?_⟩, by simp only; omega, hL, rfl, rfl⟩
            · rw [List.map_append]
              exact p2.stays fun y hy hn => by rw [List.getElem?_set_ne (Ne.symm hn)]
            · rcases List.mem_append.1 hu with hu | hu
              · exact (l5.inr u hu).stays sI fun x hx => List.mem_append.2 (.inl hx)
              · simp at hu
                subst hu
                exact hi.stays s5 fun x hx => List.mem_append.2 (.inr hx)
            · exact (g5.trans k15 (fun z hz => .inl (by simp at hz; simp [hz]))).trans kS (fun z hz => by
                rcases g6 z hz with q | q
                · exact .inl (by simp [q])
                · exact .inr q)
            · rcases p4 z hz with q | q
              · exact g6 z q
              · exact .inr (by omega)
            · rcases List.mem_append.1 hz with q | q
              · obtain ⟨a1, a2, a3⟩ := g7 z q
                refine ⟨a1, fun q2 => ?_, by simp only; omega⟩
                rcases p4 z q2 with q3 | q3
                · exact a2 q3
                · omega
              · have a1 := gG5 z q
                have a2 := lG5 z q
                refine ⟨by omega, fun q2 => ?_, by simp only; omega⟩
                rcases p4 z q2 with q3 | q3
                · exact n5 z q q3
                · omega
            · simp only
              rw [g9, hd']
              have e1 : pnum 6 s1 = some (unnum (s1.take 6), s1.drop 6) := by simp only [pnum, if_pos q2]
              have e2 : pnum 2 (s1.drop 6) = some (unnum ((s1.drop 6).take 2), (s1.drop 6).drop 2) := by simp only [pnum, if_pos q4]
              rw [e1]
              simp only [Option.bind_some]
              rw [e2]
              simp only [Option.bind_some]
              rw [e5]
              simp only [Option.bind_some, Option.map_map]
              cases pfreeds d t with
              | none => rfl
              | some r => simp [ofF]
          conv => whnf
          refine cutI (by decide) rfl (t := ⟨[(0, .ptr b 0 0), (11, .ptr Y 0 0), (12, .ptr h2.length 0 0), (68, i64 k), (69, i64 j)], h5, []⟩) ⟨hL5, rfl, rfl⟩ ?_
          subst ehp2
          rcases hi with ⟨rfl, e⟩ | ⟨eb, ver', frz', rfl, i1, i2⟩
          · conv => whnf
            refine ldI y5 ?_
            conv => whnf
            refine ldI x5a ?_
            conv => whnf
            refine ⟨rfl, ?_⟩
            refine ⟨_, ea, ?_⟩
            cases oh with
            | none =>
              conv => whnf
              refine stI f5 p5 (by rfl) (by rfl) (by rfl) ?_
              refine cutI (by decide) rfl (t := ⟨[(0, .ptr b 0 0), (11, .ptr Y 0 0), (68, i64 k), (69, i64 j)], _, []⟩) ⟨⟨rfl, rfl, rfl, rfl⟩, rfl, rfl⟩ ?_
              conv => whnf
              refine zI (z := ((j + 1 : Nat) : Int)) (by rw [wrap_i64 (by omega) (by omega)]; rfl) ?_
              exact nxt _ ⟨rfl, rfl, rfl, rfl⟩
            | some h9 =>
              conv => whnf
              refine stI f5 p5 (by rfl) (by rfl) (by rfl) ?_
              refine cutI (by decide) rfl (t := ⟨[(0, .ptr b 0 0), (11, .ptr Y 0 0), (68, i64 k), (69, i64 j)], _, []⟩) ⟨⟨rfl, rfl, rfl, rfl⟩, rfl, rfl⟩ ?_
              conv => whnf
              refine zI (z := ((j + 1 : Nat) : Int)) (by rw [wrap_i64 (by omega) (by omega)]; rfl) ?_
              exact nxt _ ⟨rfl, rfl, rfl, rfl⟩
          · conv => whnf
            refine ldI y5 ?_
            conv => whnf
            refine ldI x5a ?_
            conv => whnf
            refine ⟨rfl, ?_⟩
            refine ⟨_, ea, ?_⟩
            cases oh with
            | none =>
              conv => whnf
              refine stI f5 p5 (by rfl) (by rfl) (by rfl) ?_
              refine cutI (by decide) rfl (t := ⟨[(0, .ptr b 0 0), (11, .ptr Y 0 0), (68, i64 k), (69, i64 j)], _, []⟩) ⟨⟨rfl, rfl, rfl, rfl⟩, rfl, rfl⟩ ?_
              conv => whnf
              refine zI (z := ((j + 1 : Nat) : Int)) (by rw [wrap_i64 (by omega) (by omega)]; rfl) ?_
              exact nxt _ ⟨rfl, rfl, rfl, rfl⟩
            | some h9 =>
              conv => whnf
              refine stI f5 p5 (by rfl) (by rfl) (by rfl) ?_
              refine cutI (by decide) rfl (t := ⟨[(0, .ptr b 0 0), (11, .ptr Y 0 0), (68, i64 k), (69, i64 j)], _, []⟩) ⟨⟨rfl, rfl, rfl, rfl⟩, rfl, rfl⟩ ?_
              conv => whnf
              refine zI (z := ((j + 1 : Nat) : Int)) (by rw [wrap_i64 (by omega) (by omega)]; rfl) ?_
              exact nxt _ ⟨rfl, rfl, rfl, rfl⟩
        · conv => whnf
          refine hP _ _ ?_ (k04.trans k5 (fun z hz => ?_))
          · rw [g9]
            simp only [pnum, if_pos q2, if_pos q4, Option.bind_some, e5, Option.bind_none, Option.map_none]
          · simp at hz
            rcases hz with rfl | rfl
            · exact .inl (by simp)
            · exact .inr k02.1
      · conv => whnf
        exact hP _ _ (by rw [g9]; simp only [pnum, if_pos q2, Option.bind_some, if_neg (Nat.not_le.2 q), Option.bind_none, Option.map_none]) k03
    · conv => whnf
      exact hP _ _ (by rw [g9]; simp only [pnum, if_neg (Nat.not_le.2 q), Option.bind_none, Option.map_none]) g5
  · have hj : j = k := by simp only at a; omega
    subst hj
    conv => whnf
    refine hE ts s1 G1 I1 LL h1 ?_ g4 g2 g3 g5 g6 (fun z hz => (g7 z hz).1) _ rfl
    rw [g9, Nat.sub_self]
    simp [pfreeds]
end
end Go.Proofs
/- Contracts: bodies of lists that are read. -/
set_option linter.unusedVariables false
set_option linter.unusedSimpArgs false
namespace Go.Proofs
open Go Go.Abs
section
variable {n : Nat} {hp : AHeap} {b : Nat} {s : Str}
def ListR (hp : AHeap) (b : Nat) (x : Nat × List (Nat × List Nat)) (t : Str) (r : CRes) (h : AHeap) : Prop :=
  ∃ Y LL ts G I, r = .ret (.ifc 176 (.agg [i64 x.1, LL])) ∧ x.2 = ts.map ofF ∧ RDs h b t ∧ LV h Y LL ts G I ∧ Keep hp h [b] ∧ (∀ z ∈ G, hp.length ≤ z) ∧ (∀ z ∈ I, hp.length ≤ z)
theorem list_rd (hn : 5 ≤ n) (r : RDs hp b s) (kind : Int) (k1 : kind ≠ 1) (k2 : kind ≠ 2) (k3 : kind ≠ 3) :
    ∃ r h, C n 119 [.ptr b 0 0, i64 kind] hp = some (r, h) ∧ StepR (plist s) (ListR hp b) (fun h => Keep hp h [b]) r h := by
  obtain ⟨m, rfl⟩ : ∃ m, n = m + 1 := ⟨n - 1, by omega⟩
  refine fun_inlE (n := m) (c := cfg0) F119 rfl rfl ?_
  have hb := r.lt
  have bad : ∀ (h : AHeap), plist s = none → Keep hp h [b] → StepR (plist s) (ListR hp b) (fun h => Keep hp h [b]) (.pan badV) h := fun h q k => by
    rw [q]
    exact ⟨rfl, k⟩
  conv => whnf
  refine bre (fun e => absurd e k1) (fun _ => ?_)
  conv => whnf
  refine bre (fun e => absurd e k2) (fun _ => ?_)
  conv => whnf
  refine bre (fun e => absurd e k3) (fun _ => ?_)
  refine cutS (by decide) rfl ?_
  conv => whnf
  refine rnumC (n := m) (hp := hp) (by omega) r 4 (by omega) (fun h1 q1 r1 k1 => ?_) (fun q => bad _ (by simp only [plist, pnum, if_neg (Nat.not_le.2 q), Option.bind_none]) (Keep.refl _ _))
  conv => whnf
  refine stI (get_last _ _) (by rfl) (by rfl) (by rfl) (by rfl) ?_
  have es1 : (h1 ++ [AB.cells 0 (some 176) [i64 0, .lst 0 [] true] 0]).set h1.length (AB.cells 0 (some 176) [i64 (unnum (s.take 4)), .lst 0 [] true] 0) = h1 ++ [AB.cells 0 (some 176) [i64 (unnum (s.take 4)), .lst 0 [] true] 0] := by simp
  have hbX : h1.length ≠ b := by have := r1.lt; omega
  have hbX' : h1.length ∉ [b] := by simpa using hbX
  have x2 : ((h1 ++ [AB.cells 0 (some 176) [i64 0, .lst 0 [] true] 0]).set h1.length (AB.cells 0 (some 176) [i64 (unnum (s.take 4)), .lst 0 [] true] 0))[h1.length]? = some (AB.cells 0 (some 176) [i64 (unnum (s.take 4)), .lst 0 [] true] 0) := by rw [es1]; exact get_last _ _
  have kx : Keep h1 ((h1 ++ [AB.cells 0 (some 176) [i64 0, .lst 0 [] true] 0]).set h1.length (AB.cells 0 (some 176) [i64 (unnum (s.take 4)), .lst 0 [] true] 0)) [] := by rw [es1]; exact Keep.app _ _ _
  have r2 := r1.stays kx (by simp)
  have k02 := k1.trans kx (by simp)
  conv => whnf
  refine rnumC (n := m) (hp := (h1 ++ [AB.cells 0 (some 176) [i64 0, .lst 0 [] true] 0]).set h1.length (AB.cells 0 (some 176) [i64 (unnum (s.take 4)), .lst 0 [] true] 0)) (by omega) r2 2 (by omega) (fun h3 q3 r3 k3 => ?_) (fun q => bad _ (by simp only [plist, pnum, if_pos q1, Option.bind_some, if_neg (Nat.not_le.2 q), Option.bind_none]) k02)
  have k03 := k02.trans k3 (fun z hz => .inl hz)
  have x3 := k3.get x2 hbX'
  have lz : unnum ((s.drop 4).take 2) < 65536 := Nat.lt_of_lt_of_eq (unnum_lt 2 _ (by rw [List.length_take]; omega)) (by decide)
  have e0 : plist s = (pfreeds (unnum ((s.drop 4).take 2)) ((s.drop 4).drop 2)).map fun d => ((unnum (s.take 4), d.1), d.2) := by
    simp only [plist, pnum, if_pos q1, if_pos q3, Option.bind_some]
  have l13 : hp.length ≤ h1.length := k1.1
  have l3 : hp.length ≤ h3.length := k03.1
  conv => whnf
  refine freeds_loop (hp := h3) (by omega) r3 (Y := h1.length) (next := (unnum (s.take 4) : Nat)) x3 _ lz ⟨⟨rfl, rfl, rfl, rfl⟩, rfl, rfl⟩ (fun ts t G I LL h e5 r5 y5 l5 k5 g5 i5 L5 hL5 => ?_) (fun h L e5 k5 => ?_)
  · refine cutI (by decide) rfl (t := ⟨[(11, .ptr h1.length 0 0)], h, []⟩) ⟨hL5, rfl, rfl⟩ ?_
    conv => whnf
    refine ldI y5 ?_
    refine ⟨_, rfl, ?_⟩
    show StepR (plist s) (ListR hp b) (fun h => Keep hp h [b]) (.ret _) _
    rw [e0, e5]
    refine ⟨h1.length, LL, ts, G, I, rfl, rfl, r5, l5, k03.trans k5 (fun z hz => ?_), fun z hz => ?_, fun z hz => ?_⟩
    · simp at hz
      rcases hz with rfl | rfl
      · exact .inl (by simp)
      · exact .inr l13
    · rcases g5 z hz with q | q
      · omega
      · omega
    · have := i5 z hz
      omega
  · refine bad h (by rw [e0, e5]; rfl) (k03.trans k5 (fun z hz => ?_))
    simp at hz
    rcases hz with rfl | rfl
    · exact .inl (by simp)
    · exact .inr l13
end
end Go.Proofs
/- What is read, taken out of its memory. -/
set_option linter.unusedVariables false
set_option linter.unusedSimpArgs false
namespace Go.Proofs
open Go Go.Abs
theorem chunk_rows {sz : Nat} : ∀ {rows : List (List AV)}, (∀ r ∈ rows, r.length = sz) → chunk sz rows.length rows.flatten = rows
  | [], _ => rfl
  | a :: r, h => by
    have h1 := h a (List.mem_cons_self ..)
    show (a ++ r.flatten).take sz :: chunk sz r.length ((a ++ r.flatten).drop sz) = _
    rw [← h1, List.take_left', List.drop_left']
    · rw [h1, chunk_rows fun x hx => h x (List.mem_cons_of_mem _ hx)]
    · rfl
    · rfl
theorem rows_len {sz : Nat} : ∀ {rows : List (List AV)}, (∀ r ∈ rows, r.length = sz) → rows.flatten.length = rows.length * sz
  | [], _ => by simp
  | a :: r, h => by
    have h1 := h a (List.mem_cons_self ..)
    have h2 := rows_len fun x hx => h x (List.mem_cons_of_mem _ hx)
    simp only [List.flatten_cons, List.length_append, List.length_cons, h1, h2]
    rw [Nat.add_mul]; omega
theorem allM_app {f : AV → Option AV} : ∀ {a a' b b' : List AV}, allM f a = some a' → allM f b = some b' → allM f (a ++ b) = some (a' ++ b')
  | [], a', b, b', h1, h2 => by
    unfold allM at h1
    cases h1
    exact h2
  | x :: xs, a', b, b', h1, h2 => by
    unfold allM at h1
    split at h1
    · rename_i y ys hx hxs
      cases h1
      show allM f (x :: (xs ++ b)) = _
      unfold allM
      rw [hx, allM_app hxs h2]
      rfl
    · cases h1
theorem frz_sl {h : AHeap} {n sz eb ver frz : Nat} {el : Option TypeId} {rows rows' : List (List AV)} (hz : sz ≠ 1) (hb : h[eb]? = some (.cells ver el rows.flatten frz)) (hr : ∀ r ∈ rows, r.length = sz) (ha : allM (Abs.frz h n) rows.flatten = some rows'.flatten)
    (hr' : ∀ r ∈ rows', r.length = sz ∧ r.all AV.scal = true) (hl : rows'.length = rows.length) : Abs.frz h (n + 1) (.sl sz eb ver 0 rows.length) = some (.lst sz (rows'.map .agg) false) := by
  unfold Abs.frz
  simp only [hb]
  have hlen := rows_len hr
  rw [if_pos ⟨trivial, by rw [hlen]; omega⟩]
  have h1 : (rows.flatten.drop 0).take (rows.length * sz) = rows.flatten := by rw [List.drop_zero]; exact List.take_of_length_le (by rw [hlen]; exact Nat.le_refl _)
  rw [h1, ha]
  simp only
  have h2 := (flatten_len hr').2
  rw [if_pos h2]
  unfold elemsA
  rw [if_neg hz]
  have e : isAggD (TypeDesc.struct #[]) = true := rfl
  simp only [e, if_true]
  rw [← hl, chunk_rows fun r hm => (hr' r hm).1]
theorem frz_sl1 {h : AHeap} {n eb ver frz : Nat} {el : Option TypeId} {ps : List Nat} (hb : h[eb]? = some (.cells ver el (ps.map fun p : Nat => i64 p) frz)) : Abs.frz h (n + 2) (.sl 1 eb ver 0 ps.length) = some (.lst 1 (ps.map fun p : Nat => i64 p) false) := by
  unfold Abs.frz
  simp only [hb]
  have hlen : (ps.map fun p : Nat => i64 p).length = ps.length * 1 := by simp
  rw [if_pos ⟨trivial, by rw [hlen]; omega⟩]
  have h1 : ((ps.map fun p : Nat => i64 p).drop 0).take (ps.length * 1) = ps.map fun p : Nat => i64 p := by rw [List.drop_zero]; exact List.take_of_length_le (by rw [hlen]; exact Nat.le_refl _)
  have h2 : allM (Abs.frz h (n + 1)) (ps.map fun p : Nat => i64 p) = some (ps.map fun p : Nat => i64 p) := allM_id fun x hx => by
    obtain ⟨p, _, rfl⟩ := List.mem_map.1 hx
    rfl
  rw [h1, h2]
  simp only
  rw [if_pos (by rw [List.all_eq_true]; intro x hx; obtain ⟨p, _, rfl⟩ := List.mem_map.1 hx; rfl)]
  rfl
theorem cells_frz {n : Nat} (e : Entry) : ∀ x ∈ e.cells, FrzOk (n + 1) x := fun x hx => by
  simp only [Entry.cells, Dg.cells, List.mem_cons, List.not_mem_nil, or_false] at hx
  rcases hx with rfl | rfl | rfl | rfl | rfl | rfl | rfl | rfl | rfl | rfl | rfl | rfl | rfl | rfl | rfl | rfl | rfl | rfl | rfl | rfl | rfl | rfl <;> intro h <;> rfl
/-- Entries that were read. -/
theorem frz_ents {h : AHeap} {X : Nat} {L : AV} {es : List Entry} {G : List Nat} (g : GBuf 56 22 h X L (es.map Entry.cells) G) (n : Nat) : ∃ sh : Sh, Abs.frz h (n + 2) L = some (.lst sh.sz (es.map Entry.av) sh.c) ∧ (es ≠ [] → sh.sz = 22) := by
  have hr : ∀ r ∈ es.map Entry.cells, r.length = 22 ∧ r.all AV.scal = true := g.1
  rcases g.2 with ⟨rfl, h2, _⟩ | ⟨eb, ver, frz, rfl, h2, _⟩
  · have : es = [] := by simpa using h2
    subst this
    exact ⟨⟨0, true⟩, rfl, fun h => (h rfl).elim⟩
  · refine ⟨⟨22, false⟩, ?_, fun _ => rfl⟩
    rw [frz_sl (by decide) h2 (fun r hm => (hr r hm).1) (allM_id fun x hx => ?_) hr rfl]
    · rw [List.map_map]; rfl
    · obtain ⟨r, hm, hx⟩ := List.mem_flatten.1 hx
      obtain ⟨e, _, rfl⟩ := List.mem_map.1 hm
      exact cells_frz e x hx h
theorem frz_inr {h : AHeap} {ps : List Nat} {L : AV} {I : List Nat} (r : Inr h ps L I) (n : Nat) : ∃ sh : Sh, Abs.frz h (n + 2) L = some (.lst sh.sz ((ps.map fun p : Nat => (p : Int)).map i64) sh.c) ∧ (ps ≠ [] → sh.sz = 1) := by
  rcases r with ⟨rfl, rfl⟩ | ⟨eb, ver, frz, rfl, h2, _⟩
  · exact ⟨⟨0, true⟩, rfl, fun h => (h rfl).elim⟩
  · refine ⟨⟨1, false⟩, ?_, fun _ => rfl⟩
    rw [frz_sl1 h2, List.map_map]
    rfl
def FreedIs (f : Freed) (t : Nat × List Nat) : Prop := f.ver = t.1 ∧ f.pages = t.2.map (fun p : Nat => (p : Int)) ∧ f.Ok
inductive FsAre : List Freed → List (Nat × List Nat) → Prop
  | nil : FsAre [] []
  | cons {f : Freed} {t : Nat × List Nat} {fs : List Freed} {ts : List (Nat × List Nat)} (h : FreedIs f t) (r : FsAre fs ts) : FsAre (f :: fs) (t :: ts)
theorem FsAre.length_eq : ∀ {fs : List Freed} {ts : List (Nat × List Nat)}, FsAre fs ts → fs.length = ts.length
  | _, _, .nil => rfl
  | _, _, .cons _ r => by simp [r.length_eq]
theorem frz_rows {h : AHeap} {I : List Nat} (n : Nat) : ∀ {ts : List FT}, (∀ t ∈ ts, Inr h t.2.1 t.2.2 I) → ∃ fs : List Freed, allM (Abs.frz h (n + 2)) (ts.map rowF).flatten = some (fs.map Freed.cells).flatten ∧ FsAre fs (ts.map ofF)
  | [], _ => ⟨[], rfl, .nil⟩
  | t :: r, hi => by
    obtain ⟨fs, h1, h2⟩ := frz_rows n fun u hu => hi u (List.mem_cons_of_mem _ hu)
    obtain ⟨sh, h3, h4⟩ := frz_inr (hi t (List.mem_cons_self ..)) n
    refine ⟨⟨t.1, sh, t.2.1.map fun p : Nat => (p : Int)⟩ :: fs, ?_, .cons ⟨rfl, rfl, fun q => h4 fun e => q (by show List.map _ t.2.1 = []; rw [e]; rfl)⟩ h2⟩
    refine allM_app (a := rowF t) (a' := Freed.cells ⟨t.1, sh, t.2.1.map fun p : Nat => (p : Int)⟩) ?_ h1
    show allM (Abs.frz h (n + 2)) [i64 t.1, t.2.2] = some [i64 t.1, _]
    unfold allM allM
    rw [h3]
    rfl
theorem frz_list {h : AHeap} {Y : Nat} {LL : AV} {ts : List FT} {G I : List Nat} (v : LV h Y LL ts G I) (n : Nat) : ∃ (sh : Sh) (fs : List Freed), Abs.frz h (n + 3) LL = some (.lst sh.sz (fs.map Freed.av) sh.c) ∧ (fs ≠ [] → sh.sz = 2) ∧ FsAre fs (ts.map ofF) := by
  obtain ⟨fs, h1, h2⟩ := frz_rows n v.inr
  rcases v.buf.2 with ⟨rfl, h3, _⟩ | ⟨eb, ver, frz, rfl, h3, _⟩
  · have : ts = [] := by simpa using h3
    subst this
    exact ⟨⟨0, true⟩, [], rfl, fun h => (h rfl).elim, .nil⟩
  · refine ⟨⟨2, false⟩, fs, ?_, fun _ => rfl, h2⟩
    have e := h2.length_eq
    rw [frz_sl (by decide) h3 (fun r hm => (v.buf.1 r hm).1) h1 (fun r hm => by
      obtain ⟨f, _, rfl⟩ := List.mem_map.1 hm
      exact ⟨rfl, rfl⟩) (by simpa using e)]
    rw [List.map_map]; rfl
section
variable {n : Nat} {f : FuncId} {rc : RC} {args : List AV} {np nt d : Nat} {rs : List ResultVar}
/-- A function in a memory of its own: it ends somehow. -/
theorem fun_pureX {S : CRes → Prop} (F : FunIs Tryz.prog cfg0.inl f np nt d rs rc) (hi : cfg0.inl f = false) (hs : cfg0.sum f args = none) (hl : args.length = np) (hp : pureBs args = true)
    (W : Wp Tryz.prog (C n) cfg0.inl KK nt d rc ⟨paramL 0 args, [], []⟩ (EndQ Tryz.prog (C n) cfg0.inl rs (fun r h => ∃ r', OutR r' r h ∧ S r'))) : ∃ r', (∀ h, C (n + 1) f args h = some (r', h)) ∧ S r' := by
  obtain ⟨r, h', h1, r', ho, h2⟩ := body_wp2 F hl W
  have hlt : f < Tryz.prog.funcs.size := by
    obtain ⟨fn, hfn, _⟩ := F.fn
    rcases Nat.lt_or_ge f Tryz.prog.funcs.size with h | h
    · exact h
    · rw [Array.getElem?_eq_none h] at hfn; cases hfn
  refine ⟨r', fun h => ?_, h2⟩
  show CN _ _ _ _ _ _ = _
  unfold CN callN
  simp only [hi, hs, Bool.false_eq_true, if_false, hp, hlt, decide_true, Bool.and_self, if_true]
  unfold pureA
  change bodyA _ (callN _ _ _ _ _) (drawA _ _ (callN _ _ _ _ _)) _ _ _ _ = _ at h1
  rw [h1]
  cases r with
  | ret v => obtain ⟨w, e1, e2⟩ := ho; subst e2; simp only [CRes.map?, e1, Option.map_some]
  | pan v => obtain ⟨w, e1, e2⟩ := ho; subst e2; simp only [CRes.map?, e1, Option.map_some]
end
end Go.Proofs
/- The looked-up text of the functions. -/
namespace Go.Proofs
open Go Go.Abs
/- f67 understory/page.read: 61 temporaries, depth 6, 1 parameters, results [*t2, *t3] -/
def c67 : RC :=
 (.seq (.ops [(oP 2 (.alloc 25 [(.int .i64 0), (.int .i64 0), (.int .i64 0), (.int .i64 0), (.int .i64 0), (.bool false), (.lst 0 [] true), (.int .i64 0), (.str []), (.lst 0 [] true)])),
 (oP 3 (.alloc 4 [(.bool false)]))])
 (.seq (.ops [(oP 8 (.mkFn (.func 118) [] [(.t 2), (.t 3)])),
 ⟨none, none, .dfr { callee := .value (.tmp 8), args := #[], argTypes := #[] }⟩])
 (.seq (.ops [(mV 9 0),
 (oP 10 (.sliceS (.t 9) none (some (.c (.int .i64 508))))),
 (oP 11 (.build [(.str []), (.int .i64 0)] [(0, 1, (.t 10)), (1, 1, (.c (.int .i64 1)))])),
 (oP 12 (.build [(.str []), (.int .i64 0)] [(0, 2, (.t 11))])),
 (oP 13 (.box 145 (.t 12))),
 (mV 4 13)])
 (.seq (.ops [(mV 14 4),
 (oP 15 (.callF 78 [(.t 14), (.c (.int .i64 1))])),
 (oP 16 (.fieldAddr 0 (.t 2))),
 (oU (.store 1 (.t 16) (.t 15)))])
 (.seq (.ops [(mV 17 4),
 (oP 18 (.callF 78 [(.t 17), (.c (.int .i64 4))])),
 (oP 19 (.fieldAddr 1 (.t 2))),
 (oU (.store 1 (.t 19) (.t 18)))])
 (.seq (.ops [(mV 20 4),
 (oP 21 (.callF 78 [(.t 20), (.c (.int .i64 6))])),
 (oP 22 (.fieldAddr 2 (.t 2))),
 (oU (.store 1 (.t 22) (.t 21)))])
 (.cut (.seq (.seq (.ops [(mV 23 4),
 (oP 24 (.fieldAddr 0 (.t 2))),
 (oP 25 (.load false 1 (.t 24))),
 (oP 26 (.callF 119 [(.t 23), (.t 25)]))])
 (.block 0
 (.seq (.ops [(oP 27 (.asrt 178 true true (.t 26))),
 (oP 28 (.extract (.t 27) 1)),
 (oP 29 (.extract (.t 27) 0))])
 (.cond (.t 28)
 (.seq (.ops [(oP 5 (.alloc 178 [(.int .i64 0), (.int .i64 0), (.bool false), (.lst 0 [] true)])),
 (oU (.store 4 (.t 5) (.t 29)))])
 (.draw [((oP 30 (.fieldAddr 0 (.t 5))), 0),
 ((oP 31 (.load false 1 (.t 30))), 1),
 ((oP 32 (.fieldAddr 1 (.t 5))), 0),
 ((oP 33 (.load false 1 (.t 32))), 1),
 ((oP 34 (.fieldAddr 2 (.t 5))), 0),
 ((oP 35 (.load false 1 (.t 34))), 1),
 ((oP 36 (.fieldAddr 3 (.t 5))), 0),
 ((oP 37 (.load false 1 (.t 36))), 1),
 ((oP 38 (.fieldAddr 3 (.t 2))), 0),
 ((oU (.store 1 (.t 38) (.t 31))), 2),
 ((oP 39 (.fieldAddr 4 (.t 2))), 0),
 ((oU (.store 1 (.t 39) (.t 33))), 2),
 ((oP 40 (.fieldAddr 5 (.t 2))), 0),
 ((oU (.store 1 (.t 40) (.t 35))), 2),
 ((oP 41 (.fieldAddr 6 (.t 2))), 0),
 ((oU (.store 1 (.t 41) (.t 37))), 3)]))
 (.seq (.ops [(oP 42 (.asrt 174 true true (.t 26))),
 (oP 43 (.extract (.t 42) 1)),
 (oP 44 (.extract (.t 42) 0))])
 (.cond (.t 43)
 (.seq (.ops [(oP 6 (.alloc 174 [(.int .i64 0), (.str [])])),
 (oU (.store 2 (.t 6) (.t 44)))])
 (.draw [((oP 45 (.fieldAddr 0 (.t 6))), 0),
 ((oP 46 (.load false 1 (.t 45))), 1),
 ((oP 47 (.fieldAddr 1 (.t 6))), 0),
 ((oP 48 (.load false 1 (.t 47))), 1),
 ((oP 49 (.fieldAddr 7 (.t 2))), 0),
 ((oU (.store 1 (.t 49) (.t 46))), 2),
 ((oP 50 (.fieldAddr 8 (.t 2))), 0),
 ((oU (.store 1 (.t 50) (.t 48))), 3)]))
 (.seq (.ops [(oP 51 (.asrt 176 true true (.t 26))),
 (oP 52 (.extract (.t 51) 1)),
 (oP 53 (.extract (.t 51) 0))])
 (.cond (.t 52)
 (.seq (.ops [(oP 7 (.alloc 176 [(.int .i64 0), (.lst 0 [] true)])),
 (oU (.store 2 (.t 7) (.t 53)))])
 (.draw [((oP 54 (.fieldAddr 0 (.t 7))), 0),
 ((oP 55 (.load false 1 (.t 54))), 1),
 ((oP 56 (.fieldAddr 1 (.t 7))), 0),
 ((oP 57 (.load false 1 (.t 56))), 1),
 ((oP 58 (.fieldAddr 7 (.t 2))), 0),
 ((oU (.store 1 (.t 58) (.t 55))), 2),
 ((oP 59 (.fieldAddr 9 (.t 2))), 0),
 ((oU (.store 1 (.t 59) (.t 57))), 3)]))
 .skip))))))))
 (.seq (.ops [(oP 60 (.load true 10 (.t 2))),
 (oU (.store 10 (.t 2) (.t 60))),
 (oU (.store 1 (.t 3) (.c (.bool true))))])
 .ret)))))))))
theorem F67 : FI 67 1 61 6 [.cell 2 25, .cell 3 4] c67 := ⟨⟨Tryz.f67, Tryz.func67, by kernel_rfl, by kernel_rfl, by kernel_rfl⟩, by kernel_rfl, by decide, by kernel_rfl⟩
/- f118 understory/page.read$1: 17 temporaries, depth 5, 0 parameters, results [] -/
def c118 : RC :=
 (.seq (.ops [(oP 5 (.raw { dst := (some 5), op := (.call { callee := .builtin .recover, args := #[], argTypes := #[] }), type := 20, pos := "block.go:262", after := #[], guard := none })),
 (mV 2 5)])
 (.seq (.ops [(mV 6 2),
 (oP 7 (.isNilI true (.t 6)))])
 (.cond (.t 7)
 (.seq (.seq (.ops [(mV 9 2),
 (oP 10 (.asrt 190 true true (.t 9))),
 (mV 8 10),
 (oP 11 (.extract (.t 8) 0)),
 (oP 12 (.extract (.t 8) 1)),
 (oP 3 (.alloc 190 [])),
 (oU (.store 0 (.t 3) (.t 11))),
 (mV 4 12)])
 (.seq (.ops [(mV 13 4),
 (oP 14 (.un .not (.t 13)))])
 (.cond (.t 14)
 (.ops [(mV 15 2),
 ⟨none, none, .pan (.t 15)⟩])
 .skip)))
 (.ops [(oP 16 (.build [(.int .i64 0), (.int .i64 0), (.int .i64 0), (.int .i64 0), (.int .i64 0), (.bool false), (.lst 0 [] true), (.int .i64 0), (.str []), (.lst 0 [] true)] [])),
 (oU (.store 10 (.t 0) (.t 16))),
 (oU (.store 1 (.t 1) (.c (.bool false))))]))
 .skip)))
theorem F118 : FI 118 2 17 5 [] c118 := ⟨⟨Tryz.f118, Tryz.func118, by kernel_rfl, by kernel_rfl, by kernel_rfl⟩, by kernel_rfl, by decide, by kernel_rfl⟩
end Go.Proofs
/- The looked-up text of the functions. -/
namespace Go.Proofs
open Go Go.Abs
/- f18 understory/page.Head: 42 temporaries, depth 6, 1 parameters, results [t2, t3, t4, t5] -/
def c18 : RC :=
 (.seq (.ops [(oP 2 (.mv (.c (.int .i64 0)))),
 (oP 3 (.mv (.c (.int .i64 0)))),
 (oP 4 (.mv (.c (.int .i64 0)))),
 (oP 5 (.mv (.c (.int .i64 0))))])
 (.seq (.seq (.ops [(mV 7 0),
 (oP 8 (.lenS (.t 7))),
 (oP 9 (.bin .neq (.t 8) (.c (.int .i64 512)))),
 (mV 10 9),
 (oG 11 10 false (.mv (.t 0))),
 (oG 12 10 false (.indexS (.t 11) (.c (.int .i64 0)))),
 (oG 13 10 false (.bin .neq (.t 12) (.c (.int .u8 85)))),
 (oP 14 (.pick (.t 10) (.c (.bool true)) (.t 13))),
 (mV 15 14),
 (oG 16 15 false (.mv (.t 0))),
 (oG 17 15 false (.sliceS (.t 16) none (some (.c (.int .i64 508))))),
 (oG 18 15 false (.callF 62 [(.t 17)])),
 (oG 19 15 false (.mv (.t 0))),
 (oG 20 15 false (.bin .neq (.t 18) (.t 19))),
 (oP 21 (.pick (.t 15) (.c (.bool true)) (.t 20))),
 (mV 22 21),
 (oG 23 22 false (.mv (.t 0))),
 (oG 24 22 false (.indexS (.t 23) (.c (.int .i64 1)))),
 (oG 25 22 false (.toInt .i64 (.t 24))),
 (oG 26 22 false (.callF 71 [(.t 25), (.c (.int .i64 1)), (.c (.int .i64 4))])),
 (oG 27 22 false (.un .not (.t 26))),
 (oP 28 (.pick (.t 22) (.c (.bool true)) (.t 27)))])
 (.cond (.t 28)
 (.seq (.ops [(oP 2 (.mv (.c (.int .i64 0)))),
 (oP 3 (.mv (.c (.int .i64 0)))),
 (oP 4 (.mv (.c (.int .i64 0)))),
 (oP 5 (.mv (.c (.int .i64 8))))])
 .ret)
 .skip))
 (.seq (.ops [(mV 29 0),
 (oP 30 (.build [(.str []), (.int .i64 0)] [(0, 1, (.t 29)), (1, 1, (.c (.int .i64 1)))])),
 (oP 31 (.build [(.str []), (.int .i64 0)] [(0, 2, (.t 30))])),
 (oP 32 (.box 145 (.t 31))),
 (mV 6 32)])
 (.seq (.ops [(mV 33 6),
 (oP 34 (.callF 78 [(.t 33), (.c (.int .i64 1))])),
 (mV 2 34)])
 (.seq (.ops [(mV 35 6),
 (oP 36 (.callF 78 [(.t 35), (.c (.int .i64 4))])),
 (mV 3 36)])
 (.seq (.ops [(mV 37 6),
 (oP 38 (.callF 78 [(.t 37), (.c (.int .i64 6))])),
 (mV 4 38)])
 (.seq (.ops [(mV 39 2),
 (mV 40 3),
 (mV 41 4),
 (mV 2 39),
 (mV 3 40),
 (mV 4 41),
 (oP 5 (.mv (.c (.int .i64 0))))])
 .ret)))))))
theorem F18 : FI 18 1 42 6 [.tmp 2, .tmp 3, .tmp 4, .tmp 5] c18 := ⟨⟨Tryz.f18, Tryz.func18, by kernel_rfl, by kernel_rfl, by kernel_rfl⟩, by kernel_rfl, by decide, by kernel_rfl⟩
/- f14 understory/page.Decode: 48 temporaries, depth 6, 1 parameters, results [*t2, t3] -/
def c14 : RC :=
 (.seq (.ops [(oP 2 (.alloc 25 [(.int .i64 0), (.int .i64 0), (.int .i64 0), (.int .i64 0), (.int .i64 0), (.bool false), (.lst 0 [] true), (.int .i64 0), (.str []), (.lst 0 [] true)])),
 (oP 3 (.mv (.c (.int .i64 0))))])
 (.seq (.seq (.ops [(mV 13 0),
 (oP 14 (.callF 18 [(.t 13)])),
 (mV 12 14),
 (oP 15 (.extract (.t 12) 0)),
 (oP 16 (.extract (.t 12) 1)),
 (oP 17 (.extract (.t 12) 2)),
 (oP 18 (.extract (.t 12) 3)),
 (mV 4 15),
 (mV 5 16),
 (mV 6 17),
 (mV 7 18)])
 (.seq (.ops [(mV 19 7),
 (oP 20 (.bin .neq (.t 19) (.c (.int .i64 0))))])
 (.cond (.t 20)
 (.seq (.ops [(oP 21 (.build [(.int .i64 0), (.int .i64 0), (.int .i64 0), (.int .i64 0), (.int .i64 0), (.bool false), (.lst 0 [] true), (.int .i64 0), (.str []), (.lst 0 [] true)] [])),
 (mV 22 7),
 (oU (.store 10 (.t 2) (.t 21))),
 (mV 3 22)])
 .ret)
 .skip)))
 (.seq (.ops [(mV 24 0),
 (oP 25 (.callF 67 [(.t 24)])),
 (mV 23 25),
 (oP 26 (.extract (.t 23) 0)),
 (oP 27 (.extract (.t 23) 1)),
 (oP 8 (.alloc 25 [(.int .i64 0), (.int .i64 0), (.int .i64 0), (.int .i64 0), (.int .i64 0), (.bool false), (.lst 0 [] true), (.int .i64 0), (.str []), (.lst 0 [] true)])),
 (oU (.store 10 (.t 8) (.t 26))),
 (mV 9 27)])
 (.seq (.seq (.ops [(mV 28 9),
 (oP 29 (.un .not (.t 28))),
 (mV 30 29),
 (oG 31 30 false (.load true 10 (.t 8))),
 (oG 32 30 false (.callF 16 [(.t 31)])),
 (oG 33 30 false (.bin .neq (.t 32) (.c (.int .i64 0)))),
 (oP 34 (.pick (.t 30) (.c (.bool true)) (.t 33)))])
 (.cond (.t 34)
 (.seq (.ops [(oP 35 (.build [(.int .i64 0), (.int .i64 0), (.int .i64 0), (.int .i64 0), (.int .i64 0), (.bool false), (.lst 0 [] true), (.int .i64 0), (.str []), (.lst 0 [] true)] [])),
 (oU (.store 10 (.t 2) (.t 35))),
 (oP 3 (.mv (.c (.int .i64 8))))])
 .ret)
 .skip))
 (.seq (.ops [(oP 37 (.load true 10 (.t 8))),
 (oP 38 (.callF 12 [(.t 37)])),
 (mV 36 38),
 (oP 39 (.extract (.t 36) 0)),
 (oP 40 (.extract (.t 36) 1)),
 (mV 10 39),
 (mV 11 40)])
 (.seq (.seq (.ops [(mV 41 10),
 (oP 42 (.callF 68 [(.t 41)])),
 (mV 43 0),
 (oP 44 (.callF 68 [(.t 43)])),
 (oP 45 (.cmp true 136 (.t 42) (.t 44)))])
 (.cond (.t 45)
 (.seq (.ops [(oP 46 (.build [(.int .i64 0), (.int .i64 0), (.int .i64 0), (.int .i64 0), (.int .i64 0), (.bool false), (.lst 0 [] true), (.int .i64 0), (.str []), (.lst 0 [] true)] [])),
 (oU (.store 10 (.t 2) (.t 46))),
 (oP 3 (.mv (.c (.int .i64 8))))])
 .ret)
 .skip))
 (.seq (.ops [(oP 47 (.load true 10 (.t 8))),
 (oU (.store 10 (.t 2) (.t 47))),
 (oP 3 (.mv (.c (.int .i64 0))))])
 .ret)))))))
theorem F14 : FI 14 1 48 6 [.cell 2 25, .tmp 3] c14 := ⟨⟨Tryz.f14, Tryz.func14, by kernel_rfl, by kernel_rfl, by kernel_rfl⟩, by kernel_rfl, by decide, by kernel_rfl⟩
end Go.Proofs
/- The looked-up text of the functions. -/
namespace Go.Proofs
open Go Go.Abs
/- f73 understory/page.plain: 22 temporaries, depth 5, 1 parameters, results [t2] -/
def c73 : RC :=
 (.seq (.ops [(oP 1 (.box 25 (.t 0))),
 (oP 2 (.mv (.c (.bool false))))])
 (.seq (.ops [(oP 3 (.fieldAddr 3 (.t 1))),
 (oP 4 (.load false 1 (.t 3))),
 (oP 5 (.bin .eql (.t 4) (.c (.int .i64 0)))),
 (mV 6 5),
 (oG 7 6 true (.fieldAddr 4 (.t 1))),
 (oG 8 6 true (.load false 1 (.t 7))),
 (oG 9 6 true (.bin .eql (.t 8) (.c (.int .i64 0)))),
 (oP 10 (.pick (.t 6) (.t 9) (.c (.bool false)))),
 (mV 11 10),
 (oG 12 11 true (.fieldAddr 5 (.t 1))),
 (oG 13 11 true (.load false 1 (.t 12))),
 (oG 14 11 true (.un .not (.t 13))),
 (oP 15 (.pick (.t 11) (.t 14) (.c (.bool false)))),
 (mV 16 15),
 (oG 17 16 true (.fieldAddr 6 (.t 1))),
 (oG 18 16 true (.load false 1 (.t 17))),
 (oG 19 16 true (.lenL (.t 18))),
 (oG 20 16 true (.bin .eql (.t 19) (.c (.int .i64 0)))),
 (oP 21 (.pick (.t 16) (.t 20) (.c (.bool false)))),
 (mV 2 21)])
 .ret))
theorem F73 : FI 73 1 22 5 [.tmp 2] c73 := ⟨⟨Tryz.f73, Tryz.func73, by kernel_rfl, by kernel_rfl, by kernel_rfl⟩, by kernel_rfl, by decide, by kernel_rfl⟩
/- f74 understory/page.linked: 9 temporaries, depth 4, 1 parameters, results [t2] -/
def c74 : RC :=
 (.seq (.ops [(oP 2 (.mv (.c (.bool false))))])
 (.seq (.ops [(mV 3 0),
 (oP 4 (.bin .eql (.t 3) (.c (.int .i64 0)))),
 (mV 5 4),
 (oG 6 5 false (.mv (.t 0))),
 (oG 7 5 false (.callF 70 [(.t 6)])),
 (oP 8 (.pick (.t 5) (.c (.bool true)) (.t 7))),
 (mV 2 8)])
 .ret))
theorem F74 : FI 74 1 9 4 [.tmp 2] c74 := ⟨⟨Tryz.f74, Tryz.func74, by kernel_rfl, by kernel_rfl, by kernel_rfl⟩, by kernel_rfl, by decide, by kernel_rfl⟩
/- f75 understory/page.freed: 66 temporaries, depth 7, 1 parameters, results [t2] -/
def c75 : RC :=
 (.seq (.ops [(oP 2 (.mv (.c (.bool false))))])
 (.seq (.seq (.ops [(mV 7 0),
 (oP 8 (.lenL (.t 7))),
 (oP 9 (.mv (.c (.int .i64 0))))])
 (.block 0
 (.loop
 (.seq (.ops [(oP 10 (.bin .lss (.t 9) (.t 8)))])
 (.seq (.cond (.t 10)
 .skip
 (.exit 0))
 (.seq (.block 1
 (.seq (.ops [(mV 11 9),
 (oP 12 (.indexAddrL 2 (.t 7) (.t 9))),
 (oP 13 (.load true 2 (.t 12))),
 (oP 4 (.alloc 165 [(.int .i64 0), (.lst 0 [] true)])),
 (mV 3 11),
 (oU (.store 2 (.t 4) (.t 13)))])
 (.seq (.seq (.draw [((oP 14 (.fieldAddr 0 (.t 4))), 0),
 ((oP 15 (.load false 1 (.t 14))), 1),
 ((oP 16 (.callF 71 [(.t 15), (.c (.int .i64 0)), (.c (.int .i64 1099511627776))])), 0),
 ((oP 17 (.un .not (.t 16))), 0),
 ((mV 18 17), 0),
 ((oG 19 18 false (.fieldAddr 1 (.t 4))), 0),
 ((oG 20 18 false (.load false 1 (.t 19))), 1),
 ((oG 21 18 false (.lenL (.t 20))), 0),
 ((oG 22 18 false (.bin .eql (.t 21) (.c (.int .i64 0)))), 0),
 ((oP 23 (.pick (.t 18) (.c (.bool true)) (.t 22))), 0),
 ((mV 24 23), 0),
 ((oG 25 24 false (.mv (.t 3))), 0),
 ((oG 26 24 false (.bin .gtr (.t 25) (.c (.int .i64 0)))), 0),
 ((oG 27 24 false (.mv (.t 26))), 0),
 ((oG 28 27 true (.mv (.t 0))), 0),
 ((oG 29 27 true (.mv (.t 3))), 0),
 ((oG 30 27 true (.bin .sub (.t 29) (.c (.int .i64 1)))), 0),
 ((oG 31 27 true (.indexAddrL 2 (.t 28) (.t 30))), 0),
 ((oG 32 27 true (.fieldAddr 0 (.t 31))), 0),
 ((oG 33 27 true (.load false 1 (.t 32))), 1),
 ((oG 34 27 true (.fieldAddr 0 (.t 4))), 0),
 ((oG 35 27 true (.load false 1 (.t 34))), 1),
 ((oG 36 27 true (.bin .geq (.t 33) (.t 35))), 0),
 ((oG 37 24 false (.pick (.t 27) (.t 36) (.c (.bool false)))), 0),
 ((oP 38 (.pick (.t 24) (.c (.bool true)) (.t 37))), 0)])
 (.cond (.t 38)
 (.seq (.ops [(oP 2 (.mv (.c (.bool false))))])
 .ret)
 .skip))
 (.cut (.seq (.ops [(oP 39 (.fieldAddr 1 (.t 4))),
 (oP 40 (.load false 1 (.t 39))),
 (oP 41 (.lenL (.t 40))),
 (oP 42 (.mv (.c (.int .i64 0))))])
 (.block 2
 (.loop
 (.seq (.ops [(oP 43 (.bin .lss (.t 42) (.t 41)))])
 (.seq (.cond (.t 43)
 .skip
 (.exit 2))
 (.seq (.block 3
 (.seq (.ops [(mV 44 42),
 (oP 45 (.indexAddrL 1 (.t 40) (.t 42))),
 (oP 46 (.load false 1 (.t 45))),
 (mV 5 44),
 (mV 6 46)])
 (.seq (.ops [(mV 47 6),
 (oP 48 (.callF 70 [(.t 47)])),
 (oP 49 (.un .not (.t 48))),
 (mV 50 49),
 (oG 51 50 false (.mv (.t 5))),
 (oG 52 50 false (.bin .gtr (.t 51) (.c (.int .i64 0)))),
 (oG 53 50 false (.mv (.t 52))),
 (oG 54 53 true (.fieldAddr 1 (.t 4))),
 (oG 55 53 true (.load false 1 (.t 54))),
 (oG 56 53 true (.mv (.t 5))),
 (oG 57 53 true (.bin .sub (.t 56) (.c (.int .i64 1)))),
 (oG 58 53 true (.indexAddrL 1 (.t 55) (.t 57))),
 (oG 59 53 true (.load false 1 (.t 58))),
 (oG 60 53 true (.mv (.t 6))),
 (oG 61 53 true (.bin .geq (.t 59) (.t 60))),
 (oG 62 50 false (.pick (.t 53) (.t 61) (.c (.bool false)))),
 (oP 63 (.pick (.t 50) (.c (.bool true)) (.t 62)))])
 (.cond (.t 63)
 (.seq (.ops [(oP 2 (.mv (.c (.bool false))))])
 .ret)
 .skip))))
 (.ops [(oP 64 (.bin .add (.t 42) (.c (.int .i64 1)))),
 (mV 42 64)])))))))))))
 (.cut (.ops [(oP 65 (.bin .add (.t 9) (.c (.int .i64 1)))),
 (mV 9 65)]))))))))
 (.cut (.seq (.ops [(oP 2 (.mv (.c (.bool true))))])
 .ret))))
theorem F75 : FI 75 1 66 7 [.tmp 2] c75 := ⟨⟨Tryz.f75, Tryz.func75, by kernel_rfl, by kernel_rfl, by kernel_rfl⟩, by kernel_rfl, by decide, by kernel_rfl⟩
/- f76 understory/page.listed: 21 temporaries, depth 5, 1 parameters, results [t2] -/
def c76 : RC :=
 (.seq (.ops [(oP 2 (.mv (.c (.int .i64 0))))])
 (.seq (.ops [(oP 3 (.mv (.c (.int .i64 6))))])
 (.seq (.seq (.ops [(mV 6 0),
 (oP 7 (.lenL (.t 6))),
 (oP 8 (.mv (.c (.int .i64 0))))])
 (.block 0
 (.loop
 (.seq (.ops [(oP 9 (.bin .lss (.t 8) (.t 7)))])
 (.seq (.cond (.t 9)
 .skip
 (.exit 0))
 (.seq (.block 1
 (.seq (.ops [(oP 10 (.indexAddrL 2 (.t 6) (.t 8))),
 (oP 11 (.load true 2 (.t 10))),
 (oP 5 (.alloc 165 [(.int .i64 0), (.lst 0 [] true)])),
 (oU (.store 2 (.t 5) (.t 11)))])
 (.ops [(mV 12 3),
 (oP 13 (.fieldAddr 1 (.t 5))),
 (oP 14 (.load false 1 (.t 13))),
 (oP 15 (.lenL (.t 14))),
 (oP 16 (.bin .mul (.c (.int .i64 4)) (.t 15))),
 (oP 17 (.bin .add (.c (.int .i64 8)) (.t 16))),
 (oP 18 (.bin .add (.t 12) (.t 17))),
 (mV 3 18)])))
 (.ops [(oP 19 (.bin .add (.t 8) (.c (.int .i64 1)))),
 (mV 8 19)])))))))
 (.cut (.seq (.ops [(mV 20 3),
 (mV 2 20)])
 .ret)))))
theorem F76 : FI 76 1 21 5 [.tmp 2] c76 := ⟨⟨Tryz.f76, Tryz.func76, by kernel_rfl, by kernel_rfl, by kernel_rfl⟩, by kernel_rfl, by decide, by kernel_rfl⟩
/- f16 understory/page.Check: 102 temporaries, depth 7, 1 parameters, results [t2] -/
def c16 : RC :=
 (.seq (.ops [(oP 1 (.box 25 (.t 0))),
 (oP 2 (.mv (.c (.int .i64 0))))])
 (.seq (.seq (.ops [(oP 4 (.fieldAddr 1 (.t 1))),
 (oP 5 (.load false 1 (.t 4))),
 (oP 6 (.callF 70 [(.t 5)])),
 (oP 7 (.un .not (.t 6))),
 (mV 8 7),
 (oG 9 8 false (.fieldAddr 2 (.t 1))),
 (oG 10 8 false (.load false 1 (.t 9))),
 (oG 11 8 false (.callF 71 [(.t 10), (.c (.int .i64 0)), (.c (.int .i64 1099511627776))])),
 (oG 12 8 false (.un .not (.t 11))),
 (oP 13 (.pick (.t 8) (.c (.bool true)) (.t 12)))])
 (.cond (.t 13)
 (.seq (.ops [(oP 2 (.mv (.c (.int .i64 2))))])
 .ret)
 .skip))
 (.seq (.ops [(oP 3 (.mv (.c (.bool false))))])
 (.seq (.seq (.ops [(oP 14 (.fieldAddr 0 (.t 1))),
 (oP 15 (.load false 1 (.t 14)))])
 (.block 0
 (.seq (.seq (.ops [(oP 17 (.bin .eql (.t 15) (.c (.int .i64 1)))),
 (mV 16 17)])
 (.cond (.t 16)
 .skip
 (.ops [(oP 18 (.bin .eql (.t 15) (.c (.int .i64 2)))),
 (mV 16 18)])))
 (.cond (.t 16)
 (.ops [(oP 19 (.fieldAddr 3 (.t 1))),
 (oP 20 (.load false 1 (.t 19))),
 (oP 21 (.callF 71 [(.t 20), (.c (.int .i64 0)), (.c (.int .i64 255))])),
 (mV 22 21),
 (oG 23 22 true (.fieldAddr 0 (.t 1))),
 (oG 24 22 true (.load false 1 (.t 23))),
 (oG 25 22 true (.bin .eql (.t 24) (.c (.int .i64 1)))),
 (oG 26 22 true (.fieldAddr 4 (.t 1))),
 (oG 27 22 true (.load false 1 (.t 26))),
 (oG 28 22 true (.bin .eql (.t 27) (.c (.int .i64 0)))),
 (oG 29 22 true (.cmp false 4 (.t 25) (.t 28))),
 (oP 30 (.pick (.t 22) (.t 29) (.c (.bool false)))),
 (mV 31 30),
 (oG 32 31 true (.fieldAddr 6 (.t 1))),
 (oG 33 31 true (.load false 1 (.t 32))),
 (oG 34 31 true (.fieldAddr 4 (.t 1))),
 (oG 35 31 true (.load false 1 (.t 34))),
 (oG 36 31 true (.callF 72 [(.t 33), (.t 35)])),
 (oP 37 (.pick (.t 31) (.t 36) (.c (.bool false)))),
 (mV 38 37),
 (oG 39 38 true (.fieldAddr 7 (.t 1))),
 (oG 40 38 true (.load false 1 (.t 39))),
 (oG 41 38 true (.bin .eql (.t 40) (.c (.int .i64 0)))),
 (oP 42 (.pick (.t 38) (.t 41) (.c (.bool false)))),
 (mV 43 42),
 (oG 44 43 true (.fieldAddr 8 (.t 1))),
 (oG 45 43 true (.load false 1 (.t 44))),
 (oG 46 43 true (.bin .eql (.t 45) (.c (.str [])))),
 (oP 47 (.pick (.t 43) (.t 46) (.c (.bool false)))),
 (mV 48 47),
 (oG 49 48 true (.fieldAddr 9 (.t 1))),
 (oG 50 48 true (.load false 1 (.t 49))),
 (oG 51 48 true (.lenL (.t 50))),
 (oG 52 48 true (.bin .eql (.t 51) (.c (.int .i64 0)))),
 (oP 53 (.pick (.t 48) (.t 52) (.c (.bool false)))),
 (mV 3 53)])
 (.seq (.ops [(oP 55 (.bin .eql (.t 15) (.c (.int .i64 3)))),
 (mV 54 55)])
 (.cond (.t 54)
 (.ops [(oP 56 (.load true 10 (.t 1))),
 (oP 57 (.callF 73 [(.t 56)])),
 (mV 58 57),
 (oG 59 58 true (.fieldAddr 7 (.t 1))),
 (oG 60 58 true (.load false 1 (.t 59))),
 (oG 61 58 true (.callF 74 [(.t 60)])),
 (oP 62 (.pick (.t 58) (.t 61) (.c (.bool false)))),
 (mV 63 62),
 (oG 64 63 true (.fieldAddr 8 (.t 1))),
 (oG 65 63 true (.load false 1 (.t 64))),
 (oG 66 63 true (.lenS (.t 65))),
 (oG 67 63 true (.callF 71 [(.t 66), (.c (.int .i64 1)), (.c (.int .i64 490))])),
 (oP 68 (.pick (.t 63) (.t 67) (.c (.bool false)))),
 (mV 69 68),
 (oG 70 69 true (.fieldAddr 9 (.t 1))),
 (oG 71 69 true (.load false 1 (.t 70))),
 (oG 72 69 true (.lenL (.t 71))),
 (oG 73 69 true (.bin .eql (.t 72) (.c (.int .i64 0)))),
 (oP 74 (.pick (.t 69) (.t 73) (.c (.bool false)))),
 (mV 3 74)])
 (.seq (.ops [(oP 76 (.bin .eql (.t 15) (.c (.int .i64 4)))),
 (mV 75 76)])
 (.cond (.t 75)
 (.ops [(oP 77 (.load true 10 (.t 1))),
 (oP 78 (.callF 73 [(.t 77)])),
 (mV 79 78),
 (oG 80 79 true (.fieldAddr 7 (.t 1))),
 (oG 81 79 true (.load false 1 (.t 80))),
 (oG 82 79 true (.callF 74 [(.t 81)])),
 (oP 83 (.pick (.t 79) (.t 82) (.c (.bool false)))),
 (mV 84 83),
 (oG 85 84 true (.fieldAddr 8 (.t 1))),
 (oG 86 84 true (.load false 1 (.t 85))),
 (oG 87 84 true (.bin .eql (.t 86) (.c (.str [])))),
 (oP 88 (.pick (.t 84) (.t 87) (.c (.bool false)))),
 (mV 89 88),
 (oG 90 89 true (.fieldAddr 9 (.t 1))),
 (oG 91 89 true (.load false 1 (.t 90))),
 (oG 92 89 true (.callF 75 [(.t 91)])),
 (oP 93 (.pick (.t 89) (.t 92) (.c (.bool false)))),
 (mV 94 93),
 (oG 95 94 true (.fieldAddr 9 (.t 1))),
 (oG 96 94 true (.load false 1 (.t 95))),
 (oG 97 94 true (.callF 76 [(.t 96)])),
 (oG 98 94 true (.bin .leq (.t 97) (.c (.int .i64 496)))),
 (oP 99 (.pick (.t 94) (.t 98) (.c (.bool false)))),
 (mV 3 99)])
 .skip))))))))
 (.seq (.seq (.ops [(mV 100 3),
 (oP 101 (.un .not (.t 100)))])
 (.cond (.t 101)
 (.seq (.ops [(oP 2 (.mv (.c (.int .i64 2))))])
 .ret)
 .skip))
 (.seq (.ops [(oP 2 (.mv (.c (.int .i64 0))))])
 .ret))))))
theorem F16 : FI 16 1 102 7 [.tmp 2] c16 := ⟨⟨Tryz.f16, Tryz.func16, by kernel_rfl, by kernel_rfl, by kernel_rfl⟩, by kernel_rfl, by decide, by kernel_rfl⟩
/- f58 understory/page.bodyOf: 31 temporaries, depth 6, 1 parameters, results [t2] -/
def c58 : RC :=
 (.seq (.ops [(oP 1 (.box 25 (.t 0))),
 (oP 2 (.mv (.c .nili)))])
 (.seq (.seq (.ops [(oP 3 (.fieldAddr 0 (.t 1))),
 (oP 4 (.load false 1 (.t 3)))])
 (.block 0
 (.seq (.ops [(oP 6 (.bin .eql (.t 4) (.c (.int .i64 3)))),
 (mV 5 6)])
 (.cond (.t 5)
 (.seq (.ops [(oP 7 (.fieldAddr 7 (.t 1))),
 (oP 8 (.load false 1 (.t 7))),
 (oP 9 (.fieldAddr 8 (.t 1))),
 (oP 10 (.load false 1 (.t 9))),
 (oP 11 (.build [(.int .i64 0), (.str [])] [(0, 1, (.t 8)), (1, 1, (.t 10))])),
 (oP 12 (.mkIfc 174 (.t 11))),
 (mV 2 12)])
 .ret)
 (.seq (.ops [(oP 14 (.bin .eql (.t 4) (.c (.int .i64 4)))),
 (mV 13 14)])
 (.cond (.t 13)
 (.seq (.ops [(oP 15 (.fieldAddr 7 (.t 1))),
 (oP 16 (.load false 1 (.t 15))),
 (oP 17 (.fieldAddr 9 (.t 1))),
 (oP 18 (.load false 1 (.t 17))),
 (oP 19 (.build [(.int .i64 0), (.lst 0 [] true)] [(0, 1, (.t 16)), (1, 1, (.t 18))])),
 (oP 20 (.mkIfc 176 (.t 19))),
 (mV 2 20)])
 .ret)
 .skip))))))
 (.seq (.ops [(oP 21 (.fieldAddr 3 (.t 1))),
 (oP 22 (.load false 1 (.t 21))),
 (oP 23 (.fieldAddr 4 (.t 1))),
 (oP 24 (.load false 1 (.t 23))),
 (oP 25 (.fieldAddr 5 (.t 1))),
 (oP 26 (.load false 1 (.t 25))),
 (oP 27 (.fieldAddr 6 (.t 1))),
 (oP 28 (.load false 1 (.t 27))),
 (oP 29 (.build [(.int .i64 0), (.int .i64 0), (.bool false), (.lst 0 [] true)] [(0, 1, (.t 22)), (1, 1, (.t 24)), (2, 1, (.t 26)), (3, 1, (.t 28))])),
 (oP 30 (.mkIfc 178 (.t 29))),
 (mV 2 30)])
 .ret)))
theorem F58 : FI 58 1 31 6 [.tmp 2] c58 := ⟨⟨Tryz.f58, Tryz.func58, by kernel_rfl, by kernel_rfl, by kernel_rfl⟩, by kernel_rfl, by decide, by kernel_rfl⟩
/- f62 understory/page.ended: 21 temporaries, depth 5, 1 parameters, results [t2] -/
def c62 : RC :=
 (.seq (.ops [(oP 2 (.mv (.c (.str []))))])
 (.seq (.ops [(mV 4 0),
 (oP 5 (.callF 112 [(.t 4)])),
 (mV 3 5)])
 (.seq (.ops [(mV 6 0),
 (mV 7 3),
 (oP 8 (.toInt .u8 (.t 7))),
 (mV 9 3),
 (oP 10 (.bin .shr (.t 9) (.c (.int .u64 8)))),
 (oP 11 (.toInt .u8 (.t 10))),
 (mV 12 3),
 (oP 13 (.bin .shr (.t 12) (.c (.int .u64 16)))),
 (oP 14 (.toInt .u8 (.t 13))),
 (mV 15 3),
 (oP 16 (.bin .shr (.t 15) (.c (.int .u64 24)))),
 (oP 17 (.toInt .u8 (.t 16))),
 (oP 18 (.mkLst 1 false 4 [(.int .u8 0)] [(0, 1, (.t 8)), (1, 1, (.t 11)), (2, 1, (.t 14)), (3, 1, (.t 17))])),
 (oP 19 (.bytesStr (.t 18))),
 (oP 20 (.bin .add (.t 6) (.t 19))),
 (mV 2 20)])
 .ret)))
theorem F62 : FI 62 1 21 5 [.tmp 2] c62 := ⟨⟨Tryz.f62, Tryz.func62, by kernel_rfl, by kernel_rfl, by kernel_rfl⟩, by kernel_rfl, by decide, by kernel_rfl⟩
/- f68 understory/page.blockOf: 8 temporaries, depth 4, 1 parameters, results [*t2] -/
def c68 : RC :=
 (.seq (.ops [(oP 2 (.alloc 136 [(.int .u8 0), (.int .u8 0), (.int .u8 0), (.int .u8 0), (.int .u8 0), (.int .u8 0), (.int .u8 0), (.int .u8 0), (.int .u8 0), (.int .u8 0), (.int .u8 0), (.int .u8 0), (.int .u8 0), (.int .u8 0), (.int .u8 0), (.int .u8 0), (.int .u8 0), (.int .u8 0), (.int .u8 0), (.int .u8 0), (.int .u8 0), (.int .u8 0), (.int .u8 0), (.int .u8 0), (.int .u8 0), (.int .u8 0), (.int .u8 0), (.int .u8 0), (.int .u8 0), (.int .u8 0), (.int .u8 0), (.int .u8 0), (.int .u8 0), (.int .u8 0), (.int .u8 0), (.int .u8 0), (.int .u8 0), (.int .u8 0), (.int .u8 0), (.int .u8 0), (.int .u8 0), (.int .u8 0), (.int .u8 0), (.int .u8 0), (.int .u8 0), (.int .u8 0), (.int .u8 0), (.int .u8 0), (.int .u8 0), (.int .u8 0), (.int .u8 0), (.int .u8 0), (.int .u8 0), (.int .u8 0), (.int .u8 0), (.int .u8 0), (.int .u8 0), (.int .u8 0), (.int .u8 0), (.int .u8 0), (.int .u8 0), (.int .u8 0), (.int .u8 0), (.int .u8 0), (.int .u8 0), (.int .u8 0), (.int .u8 0), (.int .u8 0), (.int .u8 0), (.int .u8 0), (.int .u8 0), (.int .u8 0), (.int .u8 0), (.int .u8 0), (.int .u8 0), (.int .u8 0), (.int .u8 0), (.int .u8 0), (.int .u8 0), (.int .u8 0), (.int .u8 0), (.int .u8 0), (.int .u8 0), (.int .u8 0), (.int .u8 0), (.int .u8 0), (.int .u8 0), (.int .u8 0), (.int .u8 0), (.int .u8 0), (.int .u8 0), (.int .u8 0), (.int .u8 0), (.int .u8 0), (.int .u8 0), (.int .u8 0), (.int .u8 0), (.int .u8 0), (.int .u8 0), (.int .u8 0), (.int .u8 0), (.int .u8 0), (.int .u8 0), (.int .u8 0), (.int .u8 0), (.int .u8 0), (.int .u8 0), (.int .u8 0), (.int .u8 0), (.int .u8 0), (.int .u8 0), (.int .u8 0), (.int .u8 0), (.int .u8 0), (.int .u8 0), (.int .u8 0), (.int .u8 0), (.int .u8 0), (.int .u8 0), (.int .u8 0), (.int .u8 0), (.int .u8 0), (.int .u8 0), (.int .u8 0), (.int .u8 0), (.int .u8 0), (.int .u8 0), (.int .u8 0), (.int .u8 0), (.int .u8 0), (.int .u8 0), (.int .u8 0), (.int .u8 0), (.int .u8 0), (.int .u8 0), (.int .u8 0), (.int .u8 0), (.int .u8 0), (.int .u8 0), (.int .u8 0), (.int .u8 0), (.int .u8 0), (.int .u8 0), (.int .u8 0), (.int .u8 0), (.int .u8 0), (.int .u8 0), (.int .u8 0), (.int .u8 0), (.int .u8 0), (.int .u8 0), (.int .u8 0), (.int .u8 0), (.int .u8 0), (.int .u8 0), (.int .u8 0), (.int .u8 0), (.int .u8 0), (.int .u8 0), (.int .u8 0), (.int .u8 0), (.int .u8 0), (.int .u8 0), (.int .u8 0), (.int .u8 0), (.int .u8 0), (.int .u8 0), (.int .u8 0), (.int .u8 0), (.int .u8 0), (.int .u8 0), (.int .u8 0), (.int .u8 0), (.int .u8 0), (.int .u8 0), (.int .u8 0), (.int .u8 0), (.int .u8 0), (.int .u8 0), (.int .u8 0), (.int .u8 0), (.int .u8 0), (.int .u8 0), (.int .u8 0), (.int .u8 0), (.int .u8 0), (.int .u8 0), (.int .u8 0), (.int .u8 0), (.int .u8 0), (.int .u8 0), (.int .u8 0), (.int .u8 0), (.int .u8 0), (.int .u8 0), (.int .u8 0), (.int .u8 0), (.int .u8 0), (.int .u8 0), (.int .u8 0), (.int .u8 0), (.int .u8 0), (.int .u8 0), (.int .u8 0), (.int .u8 0), (.int .u8 0), (.int .u8 0), (.int .u8 0), (.int .u8 0), (.int .u8 0), (.int .u8 0), (.int .u8 0), (.int .u8 0), (.int .u8 0), (.int .u8 0), (.int .u8 0), (.int .u8 0), (.int .u8 0), (.int .u8 0), (.int .u8 0), (.int .u8 0), (.int .u8 0), (.int .u8 0), (.int .u8 0), (.int .u8 0), (.int .u8 0), (.int .u8 0), (.int .u8 0), (.int .u8 0), (.int .u8 0), (.int .u8 0), (.int .u8 0), (.int .u8 0), (.int .u8 0), (.int .u8 0), (.int .u8 0), (.int .u8 0), (.int .u8 0), (.int .u8 0), (.int .u8 0), (.int .u8 0), (.int .u8 0), (.int .u8 0), (.int .u8 0), (.int .u8 0), (.int .u8 0), (.int .u8 0), (.int .u8 0), (.int .u8 0), (.int .u8 0), (.int .u8 0), (.int .u8 0), (.int .u8 0), (.int .u8 0), (.int .u8 0), (.int .u8 0), (.int .u8 0), (.int .u8 0), (.int .u8 0), (.int .u8 0), (.int .u8 0), (.int .u8 0), (.int .u8 0), (.int .u8 0), (.int .u8 0), (.int .u8 0), (.int .u8 0), (.int .u8 0), (.int .u8 0), (.int .u8 0), (.int .u8 0), (.int .u8 0), (.int .u8 0), (.int .u8 0), (.int .u8 0), (.int .u8 0), (.int .u8 0), (.int .u8 0), (.int .u8 0), (.int .u8 0), (.int .u8 0), (.int .u8 0), (.int .u8 0), (.int .u8 0), (.int .u8 0), (.int .u8 0), (.int .u8 0), (.int .u8 0), (.int .u8 0), (.int .u8 0), (.int .u8 0), (.int .u8 0), (.int .u8 0), (.int .u8 0), (.int .u8 0), (.int .u8 0), (.int .u8 0), (.int .u8 0), (.int .u8 0), (.int .u8 0), (.int .u8 0), (.int .u8 0), (.int .u8 0), (.int .u8 0), (.int .u8 0), (.int .u8 0), (.int .u8 0), (.int .u8 0), (.int .u8 0), (.int .u8 0), (.int .u8 0), (.int .u8 0), (.int .u8 0), (.int .u8 0), (.int .u8 0), (.int .u8 0), (.int .u8 0), (.int .u8 0), (.int .u8 0), (.int .u8 0), (.int .u8 0), (.int .u8 0), (.int .u8 0), (.int .u8 0), (.int .u8 0), (.int .u8 0), (.int .u8 0), (.int .u8 0), (.int .u8 0), (.int .u8 0), (.int .u8 0), (.int .u8 0), (.int .u8 0), (.int .u8 0), (.int .u8 0), (.int .u8 0), (.int .u8 0), (.int .u8 0), (.int .u8 0), (.int .u8 0), (.int .u8 0), (.int .u8 0), (.int .u8 0), (.int .u8 0), (.int .u8 0), (.int .u8 0), (.int .u8 0), (.int .u8 0), (.int .u8 0), (.int .u8 0), (.int .u8 0), (.int .u8 0), (.int .u8 0), (.int .u8 0), (.int .u8 0), (.int .u8 0), (.int .u8 0), (.int .u8 0), (.int .u8 0), (.int .u8 0), (.int .u8 0), (.int .u8 0), (.int .u8 0), (.int .u8 0), (.int .u8 0), (.int .u8 0), (.int .u8 0), (.int .u8 0), (.int .u8 0), (.int .u8 0), (.int .u8 0), (.int .u8 0), (.int .u8 0), (.int .u8 0), (.int .u8 0), (.int .u8 0), (.int .u8 0), (.int .u8 0), (.int .u8 0), (.int .u8 0), (.int .u8 0), (.int .u8 0), (.int .u8 0), (.int .u8 0), (.int .u8 0), (.int .u8 0), (.int .u8 0), (.int .u8 0), (.int .u8 0), (.int .u8 0), (.int .u8 0), (.int .u8 0), (.int .u8 0), (.int .u8 0), (.int .u8 0), (.int .u8 0), (.int .u8 0), (.int .u8 0), (.int .u8 0), (.int .u8 0), (.int .u8 0), (.int .u8 0), (.int .u8 0), (.int .u8 0), (.int .u8 0), (.int .u8 0), (.int .u8 0), (.int .u8 0), (.int .u8 0), (.int .u8 0), (.int .u8 0), (.int .u8 0), (.int .u8 0), (.int .u8 0), (.int .u8 0), (.int .u8 0), (.int .u8 0), (.int .u8 0), (.int .u8 0), (.int .u8 0), (.int .u8 0), (.int .u8 0), (.int .u8 0), (.int .u8 0), (.int .u8 0), (.int .u8 0), (.int .u8 0), (.int .u8 0), (.int .u8 0), (.int .u8 0), (.int .u8 0), (.int .u8 0), (.int .u8 0), (.int .u8 0), (.int .u8 0), (.int .u8 0), (.int .u8 0), (.int .u8 0), (.int .u8 0), (.int .u8 0), (.int .u8 0), (.int .u8 0), (.int .u8 0), (.int .u8 0), (.int .u8 0), (.int .u8 0), (.int .u8 0), (.int .u8 0), (.int .u8 0), (.int .u8 0), (.int .u8 0), (.int .u8 0), (.int .u8 0), (.int .u8 0), (.int .u8 0), (.int .u8 0), (.int .u8 0), (.int .u8 0), (.int .u8 0), (.int .u8 0), (.int .u8 0), (.int .u8 0), (.int .u8 0), (.int .u8 0), (.int .u8 0), (.int .u8 0), (.int .u8 0), (.int .u8 0), (.int .u8 0), (.int .u8 0), (.int .u8 0), (.int .u8 0), (.int .u8 0), (.int .u8 0), (.int .u8 0), (.int .u8 0), (.int .u8 0), (.int .u8 0), (.int .u8 0), (.int .u8 0), (.int .u8 0), (.int .u8 0), (.int .u8 0), (.int .u8 0), (.int .u8 0), (.int .u8 0), (.int .u8 0), (.int .u8 0), (.int .u8 0), (.int .u8 0), (.int .u8 0), (.int .u8 0), (.int .u8 0), (.int .u8 0), (.int .u8 0), (.int .u8 0), (.int .u8 0), (.int .u8 0), (.int .u8 0), (.int .u8 0), (.int .u8 0), (.int .u8 0), (.int .u8 0), (.int .u8 0), (.int .u8 0), (.int .u8 0), (.int .u8 0), (.int .u8 0), (.int .u8 0), (.int .u8 0), (.int .u8 0), (.int .u8 0)]))])
 (.seq (.ops [(oP 3 (.alloc 136 [(.int .u8 0), (.int .u8 0), (.int .u8 0), (.int .u8 0), (.int .u8 0), (.int .u8 0), (.int .u8 0), (.int .u8 0), (.int .u8 0), (.int .u8 0), (.int .u8 0), (.int .u8 0), (.int .u8 0), (.int .u8 0), (.int .u8 0), (.int .u8 0), (.int .u8 0), (.int .u8 0), (.int .u8 0), (.int .u8 0), (.int .u8 0), (.int .u8 0), (.int .u8 0), (.int .u8 0), (.int .u8 0), (.int .u8 0), (.int .u8 0), (.int .u8 0), (.int .u8 0), (.int .u8 0), (.int .u8 0), (.int .u8 0), (.int .u8 0), (.int .u8 0), (.int .u8 0), (.int .u8 0), (.int .u8 0), (.int .u8 0), (.int .u8 0), (.int .u8 0), (.int .u8 0), (.int .u8 0), (.int .u8 0), (.int .u8 0), (.int .u8 0), (.int .u8 0), (.int .u8 0), (.int .u8 0), (.int .u8 0), (.int .u8 0), (.int .u8 0), (.int .u8 0), (.int .u8 0), (.int .u8 0), (.int .u8 0), (.int .u8 0), (.int .u8 0), (.int .u8 0), (.int .u8 0), (.int .u8 0), (.int .u8 0), (.int .u8 0), (.int .u8 0), (.int .u8 0), (.int .u8 0), (.int .u8 0), (.int .u8 0), (.int .u8 0), (.int .u8 0), (.int .u8 0), (.int .u8 0), (.int .u8 0), (.int .u8 0), (.int .u8 0), (.int .u8 0), (.int .u8 0), (.int .u8 0), (.int .u8 0), (.int .u8 0), (.int .u8 0), (.int .u8 0), (.int .u8 0), (.int .u8 0), (.int .u8 0), (.int .u8 0), (.int .u8 0), (.int .u8 0), (.int .u8 0), (.int .u8 0), (.int .u8 0), (.int .u8 0), (.int .u8 0), (.int .u8 0), (.int .u8 0), (.int .u8 0), (.int .u8 0), (.int .u8 0), (.int .u8 0), (.int .u8 0), (.int .u8 0), (.int .u8 0), (.int .u8 0), (.int .u8 0), (.int .u8 0), (.int .u8 0), (.int .u8 0), (.int .u8 0), (.int .u8 0), (.int .u8 0), (.int .u8 0), (.int .u8 0), (.int .u8 0), (.int .u8 0), (.int .u8 0), (.int .u8 0), (.int .u8 0), (.int .u8 0), (.int .u8 0), (.int .u8 0), (.int .u8 0), (.int .u8 0), (.int .u8 0), (.int .u8 0), (.int .u8 0), (.int .u8 0), (.int .u8 0), (.int .u8 0), (.int .u8 0), (.int .u8 0), (.int .u8 0), (.int .u8 0), (.int .u8 0), (.int .u8 0), (.int .u8 0), (.int .u8 0), (.int .u8 0), (.int .u8 0), (.int .u8 0), (.int .u8 0), (.int .u8 0), (.int .u8 0), (.int .u8 0), (.int .u8 0), (.int .u8 0), (.int .u8 0), (.int .u8 0), (.int .u8 0), (.int .u8 0), (.int .u8 0), (.int .u8 0), (.int .u8 0), (.int .u8 0), (.int .u8 0), (.int .u8 0), (.int .u8 0), (.int .u8 0), (.int .u8 0), (.int .u8 0), (.int .u8 0), (.int .u8 0), (.int .u8 0), (.int .u8 0), (.int .u8 0), (.int .u8 0), (.int .u8 0), (.int .u8 0), (.int .u8 0), (.int .u8 0), (.int .u8 0), (.int .u8 0), (.int .u8 0), (.int .u8 0), (.int .u8 0), (.int .u8 0), (.int .u8 0), (.int .u8 0), (.int .u8 0), (.int .u8 0), (.int .u8 0), (.int .u8 0), (.int .u8 0), (.int .u8 0), (.int .u8 0), (.int .u8 0), (.int .u8 0), (.int .u8 0), (.int .u8 0), (.int .u8 0), (.int .u8 0), (.int .u8 0), (.int .u8 0), (.int .u8 0), (.int .u8 0), (.int .u8 0), (.int .u8 0), (.int .u8 0), (.int .u8 0), (.int .u8 0), (.int .u8 0), (.int .u8 0), (.int .u8 0), (.int .u8 0), (.int .u8 0), (.int .u8 0), (.int .u8 0), (.int .u8 0), (.int .u8 0), (.int .u8 0), (.int .u8 0), (.int .u8 0), (.int .u8 0), (.int .u8 0), (.int .u8 0), (.int .u8 0), (.int .u8 0), (.int .u8 0), (.int .u8 0), (.int .u8 0), (.int .u8 0), (.int .u8 0), (.int .u8 0), (.int .u8 0), (.int .u8 0), (.int .u8 0), (.int .u8 0), (.int .u8 0), (.int .u8 0), (.int .u8 0), (.int .u8 0), (.int .u8 0), (.int .u8 0), (.int .u8 0), (.int .u8 0), (.int .u8 0), (.int .u8 0), (.int .u8 0), (.int .u8 0), (.int .u8 0), (.int .u8 0), (.int .u8 0), (.int .u8 0), (.int .u8 0), (.int .u8 0), (.int .u8 0), (.int .u8 0), (.int .u8 0), (.int .u8 0), (.int .u8 0), (.int .u8 0), (.int .u8 0), (.int .u8 0), (.int .u8 0), (.int .u8 0), (.int .u8 0), (.int .u8 0), (.int .u8 0), (.int .u8 0), (.int .u8 0), (.int .u8 0), (.int .u8 0), (.int .u8 0), (.int .u8 0), (.int .u8 0), (.int .u8 0), (.int .u8 0), (.int .u8 0), (.int .u8 0), (.int .u8 0), (.int .u8 0), (.int .u8 0), (.int .u8 0), (.int .u8 0), (.int .u8 0), (.int .u8 0), (.int .u8 0), (.int .u8 0), (.int .u8 0), (.int .u8 0), (.int .u8 0), (.int .u8 0), (.int .u8 0), (.int .u8 0), (.int .u8 0), (.int .u8 0), (.int .u8 0), (.int .u8 0), (.int .u8 0), (.int .u8 0), (.int .u8 0), (.int .u8 0), (.int .u8 0), (.int .u8 0), (.int .u8 0), (.int .u8 0), (.int .u8 0), (.int .u8 0), (.int .u8 0), (.int .u8 0), (.int .u8 0), (.int .u8 0), (.int .u8 0), (.int .u8 0), (.int .u8 0), (.int .u8 0), (.int .u8 0), (.int .u8 0), (.int .u8 0), (.int .u8 0), (.int .u8 0), (.int .u8 0), (.int .u8 0), (.int .u8 0), (.int .u8 0), (.int .u8 0), (.int .u8 0), (.int .u8 0), (.int .u8 0), (.int .u8 0), (.int .u8 0), (.int .u8 0), (.int .u8 0), (.int .u8 0), (.int .u8 0), (.int .u8 0), (.int .u8 0), (.int .u8 0), (.int .u8 0), (.int .u8 0), (.int .u8 0), (.int .u8 0), (.int .u8 0), (.int .u8 0), (.int .u8 0), (.int .u8 0), (.int .u8 0), (.int .u8 0), (.int .u8 0), (.int .u8 0), (.int .u8 0), (.int .u8 0), (.int .u8 0), (.int .u8 0), (.int .u8 0), (.int .u8 0), (.int .u8 0), (.int .u8 0), (.int .u8 0), (.int .u8 0), (.int .u8 0), (.int .u8 0), (.int .u8 0), (.int .u8 0), (.int .u8 0), (.int .u8 0), (.int .u8 0), (.int .u8 0), (.int .u8 0), (.int .u8 0), (.int .u8 0), (.int .u8 0), (.int .u8 0), (.int .u8 0), (.int .u8 0), (.int .u8 0), (.int .u8 0), (.int .u8 0), (.int .u8 0), (.int .u8 0), (.int .u8 0), (.int .u8 0), (.int .u8 0), (.int .u8 0), (.int .u8 0), (.int .u8 0), (.int .u8 0), (.int .u8 0), (.int .u8 0), (.int .u8 0), (.int .u8 0), (.int .u8 0), (.int .u8 0), (.int .u8 0), (.int .u8 0), (.int .u8 0), (.int .u8 0), (.int .u8 0), (.int .u8 0), (.int .u8 0), (.int .u8 0), (.int .u8 0), (.int .u8 0), (.int .u8 0), (.int .u8 0), (.int .u8 0), (.int .u8 0), (.int .u8 0), (.int .u8 0), (.int .u8 0), (.int .u8 0), (.int .u8 0), (.int .u8 0), (.int .u8 0), (.int .u8 0), (.int .u8 0), (.int .u8 0), (.int .u8 0), (.int .u8 0), (.int .u8 0), (.int .u8 0), (.int .u8 0), (.int .u8 0), (.int .u8 0), (.int .u8 0), (.int .u8 0), (.int .u8 0), (.int .u8 0), (.int .u8 0), (.int .u8 0), (.int .u8 0), (.int .u8 0), (.int .u8 0), (.int .u8 0), (.int .u8 0), (.int .u8 0), (.int .u8 0), (.int .u8 0), (.int .u8 0), (.int .u8 0), (.int .u8 0), (.int .u8 0), (.int .u8 0), (.int .u8 0), (.int .u8 0), (.int .u8 0), (.int .u8 0), (.int .u8 0), (.int .u8 0), (.int .u8 0), (.int .u8 0), (.int .u8 0), (.int .u8 0), (.int .u8 0), (.int .u8 0), (.int .u8 0), (.int .u8 0), (.int .u8 0), (.int .u8 0), (.int .u8 0), (.int .u8 0), (.int .u8 0), (.int .u8 0), (.int .u8 0), (.int .u8 0), (.int .u8 0), (.int .u8 0), (.int .u8 0), (.int .u8 0), (.int .u8 0), (.int .u8 0), (.int .u8 0), (.int .u8 0), (.int .u8 0), (.int .u8 0), (.int .u8 0), (.int .u8 0), (.int .u8 0), (.int .u8 0), (.int .u8 0), (.int .u8 0), (.int .u8 0), (.int .u8 0), (.int .u8 0), (.int .u8 0), (.int .u8 0), (.int .u8 0), (.int .u8 0), (.int .u8 0), (.int .u8 0), (.int .u8 0), (.int .u8 0), (.int .u8 0), (.int .u8 0), (.int .u8 0), (.int .u8 0), (.int .u8 0), (.int .u8 0), (.int .u8 0), (.int .u8 0), (.int .u8 0), (.int .u8 0), (.int .u8 0), (.int .u8 0), (.int .u8 0), (.int .u8 0), (.int .u8 0), (.int .u8 0), (.int .u8 0), (.int .u8 0), (.int .u8 0), (.int .u8 0), (.int .u8 0), (.int .u8 0), (.int .u8 0), (.int .u8 0), (.int .u8 0), (.int .u8 0), (.int .u8 0), (.int .u8 0), (.int .u8 0), (.int .u8 0), (.int .u8 0), (.int .u8 0)]))])
 (.seq (.ops [(oP 4 (.sliceP 512 1 (.t 3) none none none)),
 (mV 5 0),
 (oP 6 (.cpy 1 (.t 4) (.t 5)))])
 (.seq (.ops [(oP 7 (.load true 512 (.t 3))),
 (oU (.store 512 (.t 2) (.t 7)))])
 .ret))))
theorem F68 : FI 68 1 8 4 [.cell 2 136] c68 := ⟨⟨Tryz.f68, Tryz.func68, by kernel_rfl, by kernel_rfl, by kernel_rfl⟩, by kernel_rfl, by decide, by kernel_rfl⟩
/- f12 understory/page.Encode: 45 temporaries, depth 6, 1 parameters, results [t2, t3] -/
def c12 : RC :=
 (.seq (.ops [(oP 1 (.box 25 (.t 0))),
 (oP 2 (.mv (.c (.str [])))),
 (oP 3 (.mv (.c (.int .i64 0))))])
 (.seq (.seq (.ops [(oP 5 (.load true 10 (.t 1))),
 (oP 6 (.callF 16 [(.t 5)])),
 (oP 7 (.bin .neq (.t 6) (.c (.int .i64 0))))])
 (.cond (.t 7)
 (.seq (.ops [(oP 2 (.mv (.c (.str [])))),
 (oP 3 (.mv (.c (.int .i64 2))))])
 .ret)
 .skip))
 (.seq (.ops [(oP 8 (.build [.nilp, (.lst 0 [] true)] [])),
 (oP 9 (.box 117 (.t 8))),
 (mV 4 9)])
 (.seq (.ops [(mV 10 4),
 (oP 11 (.nilCheck (.t 10))),
 (oP 12 (.fieldAddr 0 (.t 11))),
 (oP 13 (.callF 56 [(.t 12), (.c (.int .u8 85))]))])
 (.seq (.ops [(mV 14 4),
 (oP 15 (.fieldAddr 0 (.t 1))),
 (oP 16 (.load false 1 (.t 15))),
 (oP 17 (.callF 57 [(.t 14), (.t 16), (.c (.int .i64 1))]))])
 (.seq (.ops [(mV 18 4),
 (oP 19 (.fieldAddr 1 (.t 1))),
 (oP 20 (.load false 1 (.t 19))),
 (oP 21 (.callF 57 [(.t 18), (.t 20), (.c (.int .i64 4))]))])
 (.seq (.ops [(mV 22 4),
 (oP 23 (.fieldAddr 2 (.t 1))),
 (oP 24 (.load false 1 (.t 23))),
 (oP 25 (.callF 57 [(.t 22), (.t 24), (.c (.int .i64 6))]))])
 (.seq (.ops [(oP 26 (.load true 10 (.t 1))),
 (oP 27 (.callF 58 [(.t 26)])),
 (mV 28 4),
 (oP 29 (.inv (.t 27) "understory/page.write" [(.t 28)]))])
 (.cut (.seq (.draw [((mV 30 4), 0),
 ((oP 31 (.nilCheck (.t 30))), 0),
 ((oP 32 (.fieldAddr 0 (.t 31))), 0),
 ((mV 33 4), 0),
 ((oP 34 (.nilCheck (.t 33))), 0),
 ((oP 35 (.fieldAddr 0 (.t 34))), 0),
 ((oP 36 (.callF 61 [(.t 35)])), 2),
 ((oP 37 (.bin .sub (.c (.int .i64 508)) (.t 36))), 0),
 ((oP 38 (.callF 60 [(.c (.str [0])), (.t 37)])), 0),
 ((oP 39 (.callF 59 [(.t 32), (.t 38)])), 2)])
 (.seq (.ops [(mV 40 4),
 (oP 41 (.nilCheck (.t 40))),
 (oP 42 (.fieldAddr 0 (.t 41))),
 (oP 43 (.callF 63 [(.t 42)])),
 (oP 44 (.callF 62 [(.t 43)])),
 (mV 2 44),
 (oP 3 (.mv (.c (.int .i64 0))))])
 .ret)))))))))))
theorem F12 : FI 12 1 45 6 [.tmp 2, .tmp 3] c12 := ⟨⟨Tryz.f12, Tryz.func12, by kernel_rfl, by kernel_rfl, by kernel_rfl⟩, by kernel_rfl, by decide, by kernel_rfl⟩
end Go.Proofs
/- Contracts of functions of a page: weights of lists. -/
set_option linter.unusedVariables false
set_option linter.unusedSimpArgs false
namespace Go.Proofs
open Go Go.Abs
section
variable {n : Nat} {h : AHeap}

theorem weight_eq (hn : 5 ≤ n) (l : List Entry) (hl : l.length < 1099511627776) (he : ∀ e ∈ l, e.Ok) (lv : Int) (sz : Nat) (hz : l ≠ [] → sz = 22) (c : Bool) : C n 48 [.lst sz (l.map Entry.av) c, i64 lv] h = some (.ret (weightR l lv), h) := by
  obtain ⟨m, rfl⟩ : ∃ m, n = m + 1 := ⟨n - 1, by omega⟩
  refine fun_pure F48 rfl rfl rfl (pure_lst entry_pure l rfl) ?_
  conv => whnf
  refine clI (within_eq (by omega) _ _ _) ?_
  conv => whnf
  refine br (fun a => ?_) (fun a => ?_)
  · conv => whnf
    refine retP rfl (Eq.trans (frz_ii rfl rfl) (congrArg some ?_))
    simp at a; simp [weightR, weight, a]
  · simp at a
    conv => whnf
    refine loopI (by decide) rfl (α := Nat × Int × AHeap) (fun x => ⟨[(1, i64 lv), (6, i64 x.2.1), (14, .lst sz (l.map Entry.av) c), (15, i64 l.length), (16, i64 x.1)], x.2.2, []⟩)
      (fun x => x.1 ≤ l.length ∧ wsum lv (l.take x.1) = some (x.2.1 - 6) ∧ x.2.1 ≤ 6 + 117 * x.1 ∧ 6 ≤ x.2.1) (fun x => l.length - x.1) (0, 6, []) ?_ ?_ ?_ ?_
    · exact ⟨⟨rfl, rfl, rfl, lenI _ _, rfl⟩, rfl, rfl⟩
    · simp [wsum]
    · show l.length - 0 < KK; simp only [KK]; omega
    · rintro ⟨j, s, hp⟩ ⟨g1, g2, g3, g4⟩
      conv => whnf
      refine br (fun b => ?_) (fun b => ?_)
      · have hj : j < l.length := by simp at b; omega
        conv => whnf
        refine ixL entry_cells hj hz ?_
        conv => whnf
        refine stI (get_last _ _) (by rfl) (by rfl) (by rfl) (by rfl) ?_
        conv => whnf
        refine ldI (get_set_last _ _ _) ?_
        conv => whnf
        refine clI (weigh_eq (by omega) l[j] (he _ (List.getElem_mem hj)) lv) ?_
        conv => whnf
        have hw := wsum_take hj g2
        refine br (fun d => ?_) (fun d => ?_)
        · conv => whnf
          refine retP rfl (Eq.trans (frz_ii rfl rfl) (congrArg some ?_))
          simp at d
          simp [d] at hw
          simp [weightR, weight, a, wsum_none hw]
        · simp at d
          have hb := weigh_bound d
          simp [d] at hw
          simp only at g3 g4
          refine zI (wrap_i64 (z := s + weighW l[j] lv) (by omega) (by omega)) ?_
          conv => whnf
          refine zI (z := ((j + 1 : Nat) : Int)) (by rw [wrap_i64 (by omega) (by omega)]; rfl) ?_
          exact ⟨(j + 1, s + weighW l[j] lv, _), ⟨hj, hw.trans (congrArg some (by simp only; omega)), by simp only; omega, by simp only; omega⟩, by simp only; omega, ⟨rfl, rfl, rfl, rfl, rfl⟩, rfl, rfl⟩
      · have hj : j = l.length := by simp at b; omega
        subst hj
        rw [List.take_length] at g2
        conv => whnf
        refine cutI (by decide) rfl (t := ⟨[(6, i64 s)], hp, []⟩) ⟨rfl, rfl, rfl⟩ ?_
        conv => whnf
        refine retP rfl (Eq.trans (frz_ii rfl rfl) (congrArg some ?_))
        simp [weightR, weight, a, g2]; omega
end
end Go.Proofs
/- Contracts of functions of a page: valid entries. -/
set_option linter.unusedVariables false
set_option linter.unusedSimpArgs false
namespace Go.Proofs
open Go Go.Abs
instance : Inhabited Entry := ⟨⟨[], [], 0, 0, 0, 0, Dg.zero⟩⟩

def keyAt (l : List Entry) (j : Nat) : Str := (l.getD j default).key
/-- An entry is valid, behind those in front of it. -/
def vAt (lv : Int) (l : List Entry) (j : Nat) : Bool :=
  (if lv = 0 then formOf (l.getD j default) != 0 else branches (l.getD j default) && (j == 0 || keyAt l j != [])) && (j == 0 || decide (cmpS (keyAt l (j - 1)) (keyAt l j) < 0))
def valid (l : List Entry) (lv : Int) : Bool :=
  within lv 0 20 && l != [] && (lv == 0 || (decide (2 ≤ l.length) && keyAt l 0 == [])) && (List.range l.length).all (vAt lv l)

theorem valid_bad {l : List Entry} {lv : Int} {j : Nat} (hj : j < l.length) (hb : vAt lv l j = false) : valid l lv = false := by
  have : (List.range l.length).all (vAt lv l) = false := by
    rw [List.all_eq_false]
    exact ⟨j, List.mem_range.2 hj, by simp [hb]⟩
  simp [valid, this]
theorem valid_good {l : List Entry} {lv : Int} (h1 : within lv 0 20 = true) (h2 : l ≠ []) (h3 : lv = 0 ∨ (2 ≤ l.length ∧ keyAt l 0 = [])) (h4 : ∀ i, i < l.length → vAt lv l i = true) : valid l lv = true := by
  have : (List.range l.length).all (vAt lv l) = true := by
    rw [List.all_eq_true]
    exact fun i hi => h4 i (List.mem_range.1 hi)
  simp [valid, this, h1, h2]
  exact h3

theorem getD_at {l : List Entry} {j : Nat} (hj : j < l.length) : l[j] = l.getD j default := by simp [hj]

theorem vAt_unf {lv : Int} {l : List Entry} {j : Nat} (hj : j < l.length) : vAt lv l j = ((if lv = 0 then formOf l[j] != 0 else branches l[j] && (decide (j = 0) || l[j].key != [])) && (decide (j = 0) || decide (cmpS l[j - 1].key l[j].key < 0))) := by
  have h1 : l.getD j default = l[j] := by simp [hj]
  have h2 : l.getD (j - 1) default = l[j - 1] := by simp [show j - 1 < l.length by omega]
  have h3 : (j == 0) = decide (j = 0) := by by_cases e : j = 0 <;> simp [e]
  unfold vAt keyAt
  rw [h1, h2, h3]

section
variable {n : Nat} {h : AHeap}
theorem valid_loop {m : Nat} (hn : 4 ≤ m) (l : List Entry) (hl : l.length < 1099511627776) (lv : Int) (sz : Nat) (hz : l ≠ [] → sz = 22) (c : Bool) (W : 0 ≤ lv) {Q : Ex → LS → Prop} {s : LS}
    (hs : LS.sub ⟨[(0, .lst sz (l.map Entry.av) c), (1, i64 lv), (31, .lst sz (l.map Entry.av) c), (32, i64 l.length), (33, i64 0)], [], []⟩ s)
    (hE : (∀ i, i < l.length → vAt lv l i = true) → ∀ L hp, Q (.exit 0) ⟨L, hp, []⟩) (hR : ∀ j, j < l.length → vAt lv l j = false → ∀ L hp, lk L 4 = some (.bool false) → Q .ret ⟨L, hp, []⟩) :
    OkR Tryz.prog (C m) cfg0.inl KK 78 7 (.loop (c85.lp 0)) s Q := by
  refine loopI (by decide) rfl (α := Nat × AHeap) (fun x => ⟨[(0, .lst sz (l.map Entry.av) c), (1, i64 lv), (31, .lst sz (l.map Entry.av) c), (32, i64 l.length), (33, i64 x.1)], x.2, []⟩)
    (fun x => x.1 ≤ l.length ∧ ∀ i, i < x.1 → vAt lv l i = true) (fun x => l.length - x.1) (0, []) hs ?_ ?_ ?_
  · exact ⟨Nat.zero_le _, fun i hi => absurd hi (Nat.not_lt_zero _)⟩
  · show l.length - 0 < KK; simp only [KK]; omega
  · rintro ⟨j, hp⟩ ⟨g1, g2⟩
    simp only at g1 g2
    conv => whnf
    refine brd (fun b => ?_) (fun b => ?_)
    · have hj : j < l.length := by simp only at b; omega
      have hg : l.getD j default = l[j] := by simp [hj]
      have ext : vAt lv l j = true → ∀ i, i < j + 1 → vAt lv l i = true := fun hv i hi => by
        by_cases e : i = j
        · rw [e]; exact hv
        · exact g2 i (by omega)
      conv => whnf
      refine ixL entry_cells hj hz ?_
      conv => whnf
      refine stI (get_last _ _) (by rfl) (by rfl) (by rfl) (by rfl) ?_
      repeat' (conv => whnf); first
        | (exfalso; omega)
        | refine brd (fun _ => ?_) (fun _ => ?_)
        | refine bre (fun _ => ?_) (fun _ => ?_)
        | refine brn (fun _ => ?_) (fun _ => ?_)
        | refine ldI (get_set_last _ _ _) ?_
        | refine ixL entry_cells (l := l) (j := j - 1) (by omega) hz ?_
        | refine clI (formOf_eq (by omega) l[j]) ?_
        | refine clI (branches_eq (by omega) l[j]) ?_
        | refine clI (compare_eq (by omega) _ _) ?_
        | refine zI (z := ((j - 1 : Nat) : Int)) (by rw [wrap_i64 (by omega) (by omega)]; omega) ?_
        | refine zI (z := ((j + 1 : Nat) : Int)) (by rw [wrap_i64 (by omega) (by omega)]; rfl) ?_
        | refine hR j hj ?_ _ _ rfl
        | refine nxI (j + 1, _) ⟨hj, ext ?_⟩ (by simp only; omega) ⟨⟨rfl, rfl, rfl, rfl, rfl⟩, rfl, rfl⟩
      all_goals rw [vAt_unf hj]
      all_goals try simp only at *
      all_goals by_cases hj0 : j = 0
      all_goals simp_all
      all_goals omega
    · have hj : j = l.length := by simp only at b; omega
      subst hj
      conv => whnf
      exact hE g2 _ _
theorem valid_eq (hn : 5 ≤ n) (l : List Entry) (hl : l.length < 1099511627776) (lv : Int) (sz : Nat) (hz : l ≠ [] → sz = 22) (c : Bool) : C n 85 [.lst sz (l.map Entry.av) c, i64 lv] h = some (.ret (.bool (valid l lv)), h) := by
  obtain ⟨m, rfl⟩ : ∃ m, n = m + 1 := ⟨n - 1, by omega⟩
  refine fun_pure F85 rfl rfl rfl (pure_lst entry_pure l rfl) ?_
  conv => whnf
  refine clI (within_eq (by omega) _ _ _) ?_
  conv => whnf
  refine brn (fun a => ?_) (fun a => ?_)
  · conv => whnf
    refine retP rfl (frz_bool ?_)
    simp [valid, a]
  conv => whnf
  refine bre (fun b => ?_) (fun b => ?_)
  · conv => whnf
    refine retP rfl (frz_bool ?_)
    simp at b
    simp [valid, b]
  have hne : l ≠ [] := by intro e; subst e; simp at b
  have hsz := hz hne
  subst hsz
  have h0 : 0 < l.length := by cases l with | nil => exact (hne rfl).elim | cons => simp
  have k0 : l[0].key = keyAt l 0 := by simp [keyAt, h0]
  have W := within_iff.1 a
  conv => whnf
  refine brd (fun d => ?_) (fun d => ?_)
  · conv => whnf
    refine brd (fun f => ?_) (fun f => ?_)
    · conv => whnf
      refine retP rfl (frz_bool ?_)
      simp at f
      have : ¬ 2 ≤ l.length := by omega
      have : lv ≠ 0 := by omega
      simp [valid, *]
    · conv => whnf
      refine ixL entry_cells (j := 0) h0 (fun _ => rfl) ?_
      conv => whnf
      refine brq (fun g => ?_) (fun g => ?_)
      · conv => whnf
        refine retP rfl (frz_bool ?_)
        rw [k0] at g
        have : lv ≠ 0 := by omega
        simp [valid, *]
      · conv => whnf
        rw [k0] at g
        simp at f
        refine valid_loop (by omega) l hl lv 22 (fun _ => rfl) c (by omega) ⟨⟨rfl, rfl, rfl, lenI _ _, rfl⟩, rfl, rfl⟩ (fun e L hp => ?_) (fun j hj e L hp hk => ?_)
        · refine cutI (by decide) rfl (t := ⟨[], hp, []⟩) ⟨trivial, rfl, rfl⟩ ?_
          conv => whnf
          exact retP rfl (frz_bool (valid_good a hne (.inr ⟨by omega, g⟩) e).symm)
        · exact retK hk (frz_bool (valid_bad hj e).symm)
  · conv => whnf
    refine valid_loop (by omega) l hl lv 22 (fun _ => rfl) c (by omega) ⟨⟨rfl, rfl, rfl, lenI _ _, rfl⟩, rfl, rfl⟩ (fun e L hp => ?_) (fun j hj e L hp hk => ?_)
    · refine cutI (by decide) rfl (t := ⟨[], hp, []⟩) ⟨trivial, rfl, rfl⟩ ?_
      conv => whnf
      exact retP rfl (frz_bool (valid_good a hne (.inl (by omega)) e).symm)
    · exact retK hk (frz_bool (valid_bad hj e).symm)
end
end Go.Proofs
/- Contracts: few entries, entries that fit, the capacity. -/
set_option linter.unusedVariables false
set_option linter.unusedSimpArgs false
namespace Go.Proofs
open Go Go.Abs
def tiny (e : Entry) : Bool := decide (e.key.length ≤ 300) && decide (e.val.length ≤ 300)
def few (l : List Entry) : Bool := decide (l.length ≤ 100) && l.all tiny
theorem few_bad {l : List Entry} {j : Nat} (hj : j < l.length) (hb : tiny l[j] = false) : few l = false := by
  have : l.all tiny = false := by
    rw [List.all_eq_false]
    exact ⟨l[j], List.getElem_mem hj, by simp [hb]⟩
  simp [few, this]
theorem few_iff {l : List Entry} : few l = true ↔ l.length ≤ 100 ∧ ∀ e ∈ l, e.key.length ≤ 300 ∧ e.val.length ≤ 300 := by
  simp [few, tiny]
section
variable {n : Nat} {h : AHeap}
theorem few_loop {m : Nat} (l : List Entry) (sz : Nat) (hz : l ≠ [] → sz = 22) (c : Bool) {Q : Ex → LS → Prop} {s : LS}
    (hs : LS.sub ⟨[(0, .lst sz (l.map Entry.av) c), (3, i64 0)], [], []⟩ s)
    (hE : few l = decide (l.length ≤ 100) → ∀ L, lk L 0 = some (.lst sz (l.map Entry.av) c) → Q (.exit 0) ⟨L, [], []⟩) (hR : few l = false → ∀ L, lk L 2 = some (.bool false) → Q .ret ⟨L, [], []⟩) :
    OkR Tryz.prog (C m) cfg0.inl KK 33 6 (.loop (c24.lp 0)) s Q := by
  refine loopI (by decide) rfl (α := Nat) (fun x => ⟨[(0, .lst sz (l.map Entry.av) c), (3, i64 x)], [], []⟩)
    (fun x => (x ≤ l.length ∧ x ≤ 101) ∧ ∀ i (hi : i < l.length), i < x → tiny l[i] = true) (fun x => 101 - x) 0 hs ?_ ?_ ?_
  · exact ⟨⟨Nat.zero_le _, by omega⟩, fun i _ hi => absurd hi (Nat.not_lt_zero _)⟩
  · show 101 - 0 < KK; simp only [KK]; omega
  · rintro j ⟨⟨g1, g0⟩, g2⟩
    have ext : ∀ (hj : j < l.length), tiny l[j] = true → ∀ i (hi : i < l.length), i < j + 1 → tiny l[i] = true := fun hj hv i hi hi2 => by
      by_cases e : i = j
      · subst e; exact hv
      · exact g2 i hi (by omega)
    conv => whnf
    refine brd (fun b => ?_) (fun b => ?_)
    · have hj : j < l.length := by simp at b; omega
      conv => whnf
      refine brd (fun d => ?_) (fun d => ?_)
      · repeat' (conv => whnf); first
          | (exfalso; omega)
          | refine brd (fun _ => ?_) (fun _ => ?_)
          | refine ixL entry_cells hj hz ?_
          | refine zI (z := ((j + 1 : Nat) : Int)) (by rw [wrap_i64 (by omega) (by omega)]; rfl) ?_
          | refine hR (few_bad hj ?_) _ rfl
          | refine nxI (j + 1) ⟨⟨hj, by omega⟩, ext hj ?_⟩ (by omega) ⟨⟨rfl, rfl⟩, rfl, rfl⟩
        all_goals simp [tiny]; omega
      · conv => whnf
        refine hE ?_ _ rfl
        have : l.length > 100 := by omega
        simp [few, show ¬ l.length ≤ 100 by omega]
    · have hj : j = l.length := by simp at b; omega
      conv => whnf
      refine hE ?_ _ rfl
      have : l.all tiny = true := by
        rw [List.all_eq_true]
        intro e he
        obtain ⟨i, hi, rfl⟩ := List.getElem_of_mem he
        exact g2 i hi (by omega)
      simp [few, this]

theorem few_eq (hn : 1 ≤ n) (l : List Entry) (sz : Nat) (hz : l ≠ [] → sz = 22) (c : Bool) : C n 24 [.lst sz (l.map Entry.av) c] h = some (.ret (.bool (few l)), h) := by
  obtain ⟨m, rfl⟩ : ∃ m, n = m + 1 := ⟨n - 1, by omega⟩
  refine fun_pure F24 rfl rfl rfl (pure_lst entry_pure l rfl) ?_
  conv => whnf
  refine few_loop l sz hz c ⟨⟨rfl, rfl⟩, rfl, rfl⟩ (fun e L hk => ?_) (fun e L hk => ?_)
  · refine cutI (by decide) rfl (t := ⟨[(0, .lst sz (l.map Entry.av) c)], [], []⟩) ⟨hk, rfl, rfl⟩ ?_
    conv => whnf
    exact retP rfl (frz_bool (by rw [e]; simp; omega))
  · exact retK hk (frz_bool e.symm)

theorem capacity_eq (hn : 1 ≤ n) : C n 49 [] h = some (.ret (i64 496), h) := by
  obtain ⟨m, rfl⟩ : ∃ m, n = m + 1 := ⟨n - 1, by omega⟩
  refine fun_pure F49 rfl rfl rfl rfl ?_
  conv => whnf
  exact retP rfl (frz_int rfl)

def fits (l : List Entry) (lv : Int) : Bool := valid l lv && (match weight l lv with | some n => decide (n ≤ 496) | none => false)
theorem valid_iff {l : List Entry} {lv : Int} : valid l lv = true ↔ (0 ≤ lv ∧ lv ≤ 20) ∧ l ≠ [] ∧ (lv = 0 ∨ (2 ≤ l.length ∧ keyAt l 0 = [])) ∧ ∀ i, i < l.length → vAt lv l i = true := by
  simp [valid, within_iff, and_assoc]
theorem wsum_some {lv : Int} : ∀ {l : List Entry}, (∀ e ∈ l, weighB e lv = true) ↔ (∃ w, wsum lv l = some w)
  | [] => by simp [wsum]
  | e :: r => by
    simp only [List.mem_cons, forall_eq_or_imp, wsum]
    rw [wsum_some (l := r)]
    by_cases hw : weighB e lv = true
    · simp only [hw, if_true, true_and]
      constructor
      · rintro ⟨w, h⟩; exact ⟨_, by rw [h]; rfl⟩
      · rintro ⟨w, h⟩
        cases hr : wsum lv r with
        | none => rw [hr] at h; cases h
        | some x => exact ⟨x, rfl⟩
    · simp [hw]
theorem weigh_form {e : Entry} (hf : formOf e ≠ 0) : weighB e 0 = true := by
  have : formOf e = 0 ∨ formOf e = 1 ∨ formOf e = 2 ∨ formOf e = 3 := by
    unfold formOf
    repeat' (first | split)
    all_goals simp
  simp [weighB]; omega
theorem valid_weight {l : List Entry} {lv : Int} (hv : valid l lv = true) : ∃ w, weight l lv = some w := by
  obtain ⟨h1, h2, h3, h4⟩ := valid_iff.1 hv
  have : ∃ w, wsum lv l = some w := wsum_some.1 fun e he => by
    obtain ⟨j, hj, rfl⟩ := List.getElem_of_mem he
    have := h4 j hj
    rw [vAt_unf hj] at this
    by_cases e0 : lv = 0
    · subst e0
      simp at this
      exact weigh_form this.1
    · simp [e0] at this
      simp [weighB, show 0 < lv by omega, this.1.1]
  obtain ⟨w, hw⟩ := this
  exact ⟨6 + w, by simp [weight, hw, within_iff.2 h1]⟩
theorem fits_eq (hn : 6 ≤ n) (l : List Entry) (hl : l.length < 1099511627776) (he : ∀ e ∈ l, e.Ok) (lv : Int) (sz : Nat) (hz : l ≠ [] → sz = 22) (c : Bool) : C n 72 [.lst sz (l.map Entry.av) c, i64 lv] h = some (.ret (.bool (fits l lv)), h) := by
  obtain ⟨m, rfl⟩ : ∃ m, n = m + 1 := ⟨n - 1, by omega⟩
  refine fun_pure F72 rfl rfl rfl (pure_lst entry_pure l rfl) ?_
  conv => whnf
  refine clI (valid_eq (by omega) l hl lv sz hz c) ?_
  conv => whnf
  refine brn (fun a => ?_) (fun a => ?_)
  · conv => whnf
    exact retP rfl (frz_bool (by simp [fits, a]))
  · obtain ⟨w, hw⟩ := valid_weight a
    have e : weightR l lv = .tup [i64 w, i64 0] := by simp [weightR, hw]
    conv => whnf
    refine clI (Eq.trans (weight_eq (by omega) l hl he lv sz hz c) (by rw [e])) ?_
    conv => whnf
    exact retP rfl (frz_bool (by simp [fits, a, hw]))
end
end Go.Proofs
/- Contracts: shared prefixes and sizes. -/
set_option linter.unusedVariables false
set_option linter.unusedSimpArgs false
namespace Go.Proofs
open Go Go.Abs
/-- How long the common prefix is. -/
def cp : Str → Str → Nat
  | a :: x, b :: y => if a = b then cp x y + 1 else 0
  | _, _ => 0
theorem cp_le : ∀ (x y : Str), cp x y ≤ x.length ∧ cp x y ≤ y.length
  | [], _ => by simp [cp]
  | _ :: _, [] => by simp [cp]
  | a :: x, b :: y => by
    have := cp_le x y
    simp only [cp, List.length_cons]
    split <;> omega
theorem cp_next : ∀ (x y : Str) (n : Nat) (hx : n < x.length) (hy : n < y.length), x[n] = y[n] → cp x y = n + cp (x.drop n) (y.drop n) → cp x y = n + 1 + cp (x.drop (n + 1)) (y.drop (n + 1)) := fun x y n hx hy he h => by
  rw [h, List.drop_eq_getElem_cons hx, List.drop_eq_getElem_cons hy]
  simp [cp, he]
  omega
theorem cp_stop (x y : Str) (n : Nat) (hx : n < x.length) (hy : n < y.length) (he : x[n] ≠ y[n]) (h : cp x y = n + cp (x.drop n) (y.drop n)) : cp x y = n := by
  rw [h, List.drop_eq_getElem_cons hx, List.drop_eq_getElem_cons hy]
  simp [cp, he]
theorem cp_end (x y : Str) (n : Nat) (hn : x.length ≤ n ∨ y.length ≤ n) (h : cp x y = n + cp (x.drop n) (y.drop n)) : cp x y = n := by
  rw [h]
  rcases hn with hn | hn
  · rw [List.drop_of_length_le hn]; simp [cp]
  · rw [List.drop_of_length_le hn]
    cases x.drop n <;> simp [cp]
section
variable {n : Nat} {h : AHeap}
theorem u8_eq (a b : UInt8) : (((a.toNat : Int)) == ((b.toNat : Int))) = decide (a = b) := eq_u8 a b
theorem cprefix_eq (hn : 1 ≤ n) (x y : Str) (hx : x.length < 1099511627776) (hy : y.length < 1099511627776) : C n 140 [.str x, .str y] h = some (.ret (i64 (cp x y)), h) := by
  obtain ⟨m, rfl⟩ : ∃ m, n = m + 1 := ⟨n - 1, by omega⟩
  refine fun_pure F140 rfl rfl rfl rfl ?_
  conv => whnf
  refine loopI (by decide) rfl (α := Nat) (fun k => ⟨[(0, .str x), (1, .str y), (5, i64 k)], [], []⟩) (fun k => (k ≤ x.length ∧ k ≤ y.length) ∧ cp x y = k + cp (x.drop k) (y.drop k)) (fun k => x.length - k) 0 ⟨⟨rfl, rfl, rfl⟩, rfl, rfl⟩ (by simp) (by show x.length - 0 < KK; simp only [KK]; omega) ?_
  rintro k ⟨⟨k1, k2⟩, k3⟩
  have hmin : (if ((y.length : Nat) : Int) < ((x.length : Nat) : Int) then ((y.length : Nat) : Int) else ((x.length : Nat) : Int)) = ((min x.length y.length : Nat) : Int) := by
    split <;> omega
  conv => whnf
  refine ⟨_, hmin, ?_⟩
  conv => whnf
  refine brd (fun a => ?_) (fun a => ?_)
  · have hkx : k < x.length := by omega
    have hky : k < y.length := by omega
    conv => whnf
    refine strI (b := x[k]) (by omega) (by rw [Int.toNat_natCast]; exact List.getElem?_eq_getElem hkx) ?_
    conv => whnf
    refine strI (b := y[k]) (by omega) (by rw [Int.toNat_natCast]; exact List.getElem?_eq_getElem hky) ?_
    have e := u8_eq x[k] y[k]
    conv => whnf
    refine br (fun b => ?_) (fun b => ?_)
    · have b' : x[k] = y[k] := by simpa using e.symm.trans b
      conv => whnf
      refine zI (z := ((k + 1 : Nat) : Int)) (by rw [wrap_i64 (by omega) (by omega)]; rfl) ?_
      exact nxI (k + 1) ⟨⟨hkx, hky⟩, cp_next x y k hkx hky b' k3⟩ (by omega) ⟨⟨rfl, rfl, rfl⟩, rfl, rfl⟩
    · have b' : x[k] ≠ y[k] := by simpa using e.symm.trans b
      conv => whnf
      refine cutI (by decide) rfl (t := ⟨[(5, i64 k)], [], []⟩) ⟨rfl, rfl, rfl⟩ ?_
      conv => whnf
      exact retP rfl (frz_int (by rw [cp_stop x y k hkx hky b' k3]))
  · conv => whnf
    refine cutI (by decide) rfl (t := ⟨[(5, i64 k)], [], []⟩) ⟨rfl, rfl, rfl⟩ ?_
    conv => whnf
    exact retP rfl (frz_int (by rw [cp_end x y k (by omega) k3]))

/-- The shared prefix. -/
def pre2 (p k : Str) : Str := p.take (cp p k)
def tailE (l : List Entry) (lv : Int) : List Entry := if 0 < lv then l.drop 1 else l
def shared (l : List Entry) (lv : Int) : Str := ((tailE l lv).drop 1).foldl (fun p e => pre2 p e.key) ((tailE l lv).headD default).key

theorem shared_loop {m : Nat} (hm : 1 ≤ m) (l : List Entry) (hl : l.length < 1099511627776) (he : ∀ e ∈ l, e.Ok) (p0 : Str) (hp0 : p0.length < 1099511627776) (sz : Nat) (hz : l ≠ [] → sz = 22) (c : Bool) {Q : Ex → LS → Prop} {s : LS}
    (hs : LS.sub ⟨[(5, .str p0), (17, .lst sz (l.map Entry.av) c), (18, i64 l.length), (19, i64 0)], [], []⟩ s) (hE : ∀ L hp, lk L 5 = some (.str (l.foldl (fun p e => pre2 p e.key) p0)) → Q (.exit 0) ⟨L, hp, []⟩) :
    OkR Tryz.prog (C m) cfg0.inl KK 31 6 (.loop (c104.lp 0)) s Q := by
  refine loopI (by decide) rfl (α := Nat × Str × AHeap) (fun x => ⟨[(5, .str x.2.1), (17, .lst sz (l.map Entry.av) c), (18, i64 l.length), (19, i64 x.1)], x.2.2, []⟩)
    (fun x => x.1 ≤ l.length ∧ x.2.1 = (l.take x.1).foldl (fun p e => pre2 p e.key) p0 ∧ x.2.1.length < 1099511627776) (fun x => l.length - x.1) (0, p0, []) hs (by simpa using hp0) (by show l.length - 0 < KK; simp only [KK]; omega) ?_
  rintro ⟨j, p, hp⟩ ⟨g1, g2, g3⟩
  simp only at g1 g2 g3
  conv => whnf
  refine brd (fun b => ?_) (fun b => ?_)
  · simp only at b
    have hj : j < l.length := by omega
    have hst : pre2 p l[j].key = (l.take (j + 1)).foldl (fun p e => pre2 p e.key) p0 := by
      rw [List.take_succ_eq_append_getElem hj, List.foldl_append, ← g2]; rfl
    have hk := he _ (List.getElem_mem hj)
    have hle := (cp_le p l[j].key).1
    conv => whnf
    refine ixL entry_cells hj hz ?_
    conv => whnf
    refine stI (get_last _ _) (by rfl) (by rfl) (by rfl) (by rfl) ?_
    conv => whnf
    refine ldI (get_set_last _ _ _) ?_
    conv => whnf
    refine clI (cprefix_eq (by omega) p l[j].key g3 hk.1) ?_
    conv => whnf
    refine ss_hi hle ?_
    conv => whnf
    refine zI (z := ((j + 1 : Nat) : Int)) (by rw [wrap_i64 (by omega) (by omega)]; rfl) ?_
    refine nxI (j + 1, pre2 p l[j].key, _) ⟨hj, hst, by simp only [pre2, List.length_take]; omega⟩ (by simp only; omega) ⟨⟨rfl, rfl, rfl, rfl⟩, rfl, rfl⟩
  · simp only at b
    have : j = l.length := by omega
    subst this
    rw [List.take_length] at g2
    subst g2
    conv => whnf
    exact hE _ _ rfl

theorem head_at {l : List Entry} (h : 0 < l.length) : l[0] = l.headD default := by
  cases l with
  | nil => simp at h
  | cons a r => rfl
theorem shared_eq (hn : 2 ≤ n) (l : List Entry) (hl : l.length < 1099511627776) (he : ∀ e ∈ l, e.Ok) (lv : Int) (hne : 0 < (tailE l lv).length) (sz : Nat) (hz : l ≠ [] → sz = 22) (c : Bool) :
    C n 104 [.lst sz (l.map Entry.av) c, i64 lv] h = some (.ret (.str (shared l lv)), h) := by
  obtain ⟨m, rfl⟩ : ∃ m, n = m + 1 := ⟨n - 1, by omega⟩
  have go : ∀ (t : List Entry) (c' : Bool) (s' : LS), t = tailE l lv → LS.sub ⟨[(0, .lst 22 (t.map Entry.av) c')], [], []⟩ s' → OkR Tryz.prog (C m) cfg0.inl KK 31 6 (cutOf c104) s' (RetQ Tryz.prog [.tmp 4] fun v' h' => frz h' 64 v' = some (.str (shared l lv))) := fun t c' s' ht hs' => by
    have h0 : 0 < t.length := by rw [ht]; exact hne
    have het : ∀ e ∈ t, e.Ok := fun e h => he e (by
      subst ht
      unfold tailE at h
      split at h
      · exact List.mem_of_mem_drop h
      · exact h)
    have hlt : t.length ≤ l.length := by subst ht; unfold tailE; split <;> simp
    have hsh : ((t.drop 1).foldl (fun p e => pre2 p e.key) t[0].key) = shared l lv := by rw [head_at h0, ht]; rfl
    refine cutI (by decide) rfl hs' ?_
    conv => whnf
    refine ixL entry_cells (j := 0) h0 (fun _ => rfl) ?_
    conv => whnf
    refine slI (sl_lo _ t (fun _ => rfl) c' 1 h0) ?_
    conv => whnf
    refine shared_loop (by omega) (t.drop 1) (by simp; omega) (fun e h => het e (List.mem_of_mem_drop h)) t[0].key (het _ (List.getElem_mem h0)).1 22 (fun _ => rfl) _ ⟨⟨rfl, rfl, lenI _ _, rfl⟩, rfl, rfl⟩ (fun L hp hL => ?_)
    refine cutI (by decide) rfl (t := ⟨[(5, .str (shared l lv))], hp, []⟩) ⟨by rw [hsh] at hL; exact hL, rfl, rfl⟩ ?_
    conv => whnf
    exact retP rfl (frz_str rfl)
  refine fun_pure F104 rfl rfl rfl (pure_lst entry_pure l rfl) ?_
  conv => whnf
  refine brd (fun a => ?_) (fun a => ?_)
  · have ht : l.drop 1 = tailE l lv := by unfold tailE; rw [if_pos a]
    have hl1 : 1 ≤ l.length := by rw [← ht] at hne; simp at hne; omega
    conv => whnf
    refine slI (sl_lo _ l hz c 1 hl1) ?_
    exact go (l.drop 1) _ _ ht ⟨rfl, rfl, rfl⟩
  · have ht : l = tailE l lv := by unfold tailE; rw [if_neg a]
    have hsz : sz = 22 := hz (by intro e; subst e; rw [← ht] at hne; simp at hne)
    subst hsz
    exact go l c _ ht ⟨rfl, rfl, rfl⟩

theorem valid_tail {l : List Entry} {lv : Int} (hv : valid l lv = true) : 0 < (tailE l lv).length := by
  obtain ⟨h1, h2, h3, h4⟩ := valid_iff.1 hv
  unfold tailE
  split
  · simp; omega
  · cases l with
    | nil => exact (h2 rfl).elim
    | cons => simp
def sizeN (l : List Entry) (lv : Int) : Int := (weight l lv).getD 0 - (l.length - (if 0 < lv then 1 else 0)) * (shared l lv).length + (shared l lv).length
def sizeR (l : List Entry) (lv : Int) : AV := .tup [i64 (if valid l lv then sizeN l lv else 0), i64 (if valid l lv then 0 else 2)]
def prefR (l : List Entry) (lv : Int) : AV := .tup [.str (if valid l lv then shared l lv else []), i64 (if valid l lv then 0 else 2)]
theorem prefix_eq (hn : 6 ≤ n) (l : List Entry) (hl : l.length < 1099511627776) (he : ∀ e ∈ l, e.Ok) (lv : Int) (sz : Nat) (hz : l ≠ [] → sz = 22) (c : Bool) : C n 46 [.lst sz (l.map Entry.av) c, i64 lv] h = some (.ret (prefR l lv), h) := by
  obtain ⟨m, rfl⟩ : ∃ m, n = m + 1 := ⟨n - 1, by omega⟩
  refine fun_pure F46 rfl rfl rfl (pure_lst entry_pure l rfl) ?_
  conv => whnf
  refine clI (valid_eq (by omega) l hl lv sz hz c) ?_
  conv => whnf
  refine brn (fun a => ?_) (fun a => ?_)
  · conv => whnf
    exact retP rfl (frz_si (by simp [a]) (by simp [a]))
  · conv => whnf
    refine clI (shared_eq (by omega) l hl he lv (valid_tail a) sz hz c) ?_
    conv => whnf
    exact retP rfl (frz_si (by simp [a]) (by simp [a]))

theorem pre2_len (p k : Str) : (pre2 p k).length ≤ p.length := by simp [pre2]; omega
theorem fold_len : ∀ (l : List Entry) (p : Str), (l.foldl (fun p e => pre2 p e.key) p).length ≤ p.length
  | [], p => Nat.le_refl _
  | e :: r, p => Nat.le_trans (fold_len r _) (pre2_len p e.key)
end
end Go.Proofs
/- Contracts: sizes; entries behind a string. -/
set_option linter.unusedVariables false
set_option linter.unusedSimpArgs false
namespace Go.Proofs
open Go Go.Abs
theorem valid_key {l : List Entry} {lv : Int} (hv : valid l lv = true) : ∀ e ∈ l, e.key.length ≤ 48 := fun e he => by
  obtain ⟨h1, h2, h3, h4⟩ := valid_iff.1 hv
  obtain ⟨j, hj, rfl⟩ := List.getElem_of_mem he
  have := h4 j hj
  rw [vAt_unf hj] at this
  by_cases e0 : lv = 0
  · subst e0
    simp at this
    exact (form_key this.1).2
  · simp [e0, branches] at this
    omega
theorem shared_len {l : List Entry} {lv : Int} (hv : valid l lv = true) : (shared l lv).length ≤ 48 := by
  have h0 := valid_tail hv
  refine Nat.le_trans (fold_len _ _) ?_
  rw [← head_at h0]
  have hm : (tailE l lv)[0] ∈ l := by
    have : (tailE l lv)[0] ∈ tailE l lv := List.getElem_mem h0
    unfold tailE at this ⊢
    split at this <;> rename_i h
    · simp only [h, if_true]; exact List.mem_of_mem_drop this
    · simp only [h, if_false]; exact this
  exact valid_key hv _ hm
theorem weight_valid {l : List Entry} {lv : Int} (hv : valid l lv = true) : weightR l lv = .tup [i64 ((weight l lv).getD 0), i64 0] ∧ 6 ≤ (weight l lv).getD 0 ∧ (weight l lv).getD 0 ≤ 6 + 117 * l.length := by
  obtain ⟨w, hw⟩ := valid_weight hv
  refine ⟨by simp [weightR, hw], ?_⟩
  rw [hw]
  unfold weight at hw
  split at hw
  · cases hs : wsum lv l with
    | none => rw [hs] at hw; cases hw
    | some x =>
      rw [hs] at hw
      simp at hw
      have hb : ∀ {l : List Entry} {w : Int}, wsum lv l = some w → 0 ≤ w ∧ w ≤ 117 * l.length := fun {l} => by
        induction l with
        | nil => intro w h; simp [wsum] at h; subst h; simp
        | cons e r ih =>
          intro w h
          unfold wsum at h
          by_cases hw : weighB e lv = true
          · rw [if_pos hw] at h
            cases hr : wsum lv r with
            | none => rw [hr] at h; cases h
            | some x =>
              rw [hr] at h
              simp at h
              have := ih hr
              have := weigh_bound hw
              simp only [List.length_cons]
              omega
          · rw [if_neg hw] at h; cases h
      have := hb hs
      simp only [Option.getD_some]
      omega
  · cases hw
section
variable {n : Nat} {h : AHeap}
theorem size_walk {m : Nat} (l : List Entry) (hl : l.length < 1099511627776) (lv : Int) (sz : Nat) (c : Bool) (w : Int) (sh : Str) (hw : 6 ≤ w ∧ w ≤ 6 + 117 * l.length) (hs : sh.length ≤ 48) (h0 : 0 < l.length)
    (cv : ∀ h, C m 85 [.lst sz (l.map Entry.av) c, i64 lv] h = some (.ret (.bool true), h)) (cw : ∀ h, C m 48 [.lst sz (l.map Entry.av) c, i64 lv] h = some (.ret (.tup [i64 w, i64 0]), h)) (cs : ∀ h, C m 104 [.lst sz (l.map Entry.av) c, i64 lv] h = some (.ret (.str sh), h)) :
    C (m + 1) 47 [.lst sz (l.map Entry.av) c, i64 lv] h = some (.ret (.tup [i64 (w - (l.length - (if 0 < lv then 1 else 0)) * sh.length + sh.length), i64 0]), h) := by
  refine fun_pure F47 rfl rfl rfl (pure_lst entry_pure l rfl) ?_
  conv => whnf
  refine clI (cv _) ?_
  conv => whnf
  refine clI (cw _) ?_
  conv => whnf
  refine clI (cs _) ?_
  conv => whnf
  have hmul : ∀ k : Nat, k ≤ l.length → 0 ≤ (k : Int) * (sh.length : Int) ∧ (k : Int) * (sh.length : Int) ≤ 48 * 1099511627776 := fun k hk => by
    have h1 : k * sh.length ≤ 1099511627776 * 48 := Nat.mul_le_mul (by omega) hs
    have h2 : ((k * sh.length : Nat) : Int) = (k : Int) * (sh.length : Int) := Int.natCast_mul _ _
    rw [← h2]
    omega
  refine brd (fun a => ?_) (fun a => ?_)
  · have hm := hmul (l.length - 1) (by omega)
    conv => whnf
    refine zI (z := ((l.length - 1 : Nat) : Int)) (by rw [List.length_map, wrap_i64 (by omega) (by omega)]; omega) ?_
    conv => whnf
    refine zI (wrap_i64 (by omega) (by omega)) ?_
    conv => whnf
    refine zI (wrap_i64 (by omega) (by omega)) ?_
    conv => whnf
    refine zI (wrap_i64 (by omega) (by omega)) ?_
    conv => whnf
    refine retP rfl (frz_ii ?_ rfl)
    rw [if_pos a, show ((l.length - 1 : Nat) : Int) = (l.length : Int) - 1 by omega]
  · have hm := hmul l.length (Nat.le_refl _)
    conv => whnf
    refine zI (z := (l.length : Int) * (sh.length : Int)) (by rw [List.length_map, wrap_i64 (by omega) (by omega)]) ?_
    conv => whnf
    refine zI (wrap_i64 (by omega) (by omega)) ?_
    conv => whnf
    refine zI (wrap_i64 (by omega) (by omega)) ?_
    conv => whnf
    refine retP rfl (frz_ii ?_ rfl)
    rw [if_neg a, Int.sub_zero]

theorem size_eq (hn : 6 ≤ n) (l : List Entry) (hl : l.length < 1099511627776) (he : ∀ e ∈ l, e.Ok) (lv : Int) (sz : Nat) (hz : l ≠ [] → sz = 22) (c : Bool) : C n 47 [.lst sz (l.map Entry.av) c, i64 lv] h = some (.ret (sizeR l lv), h) := by
  obtain ⟨m, rfl⟩ : ∃ m, n = m + 1 := ⟨n - 1, by omega⟩
  by_cases a : valid l lv = true
  · obtain ⟨w1, w2⟩ := weight_valid a
    have h0 : 0 < l.length := by
      obtain ⟨_, h2, _⟩ := valid_iff.1 a
      cases l with
      | nil => exact (h2 rfl).elim
      | cons => simp
    rw [size_walk l hl lv sz c ((weight l lv).getD 0) (shared l lv) w2 (shared_len a) h0 (fun h => by rw [valid_eq (by omega) l hl lv sz hz c, a]) (fun h => by rw [weight_eq (by omega) l hl he lv sz hz c, w1]) (fun h => shared_eq (by omega) l hl he lv (valid_tail a) sz hz c)]
    simp [sizeR, sizeN, a]
  · have cv : ∀ h, C m 85 [.lst sz (l.map Entry.av) c, i64 lv] h = some (.ret (.bool false), h) := fun h => by rw [valid_eq (by omega) l hl lv sz hz c]; simp [a]
    refine fun_pure F47 rfl rfl rfl (pure_lst entry_pure l rfl) ?_
    conv => whnf
    refine clI (cv _) ?_
    conv => whnf
    exact retP rfl (frz_ii (by simp [a]) (by simp [a]))
end
end Go.Proofs
/- Contracts: pages that are well-formed. -/
set_option linter.unusedVariables false
set_option linter.unusedSimpArgs false
namespace Go.Proofs
open Go Go.Abs

structure Page where
  kind : Int
  no : Int
  ver : Int
  tree : Int
  level : Int
  top : Bool
  esh : Sh
  entries : List Entry
  next : Int
  data : Str
  fsh : Sh
  freed : List Freed
def Page.cells (p : Page) : List AV := [i64 p.kind, i64 p.no, i64 p.ver, i64 p.tree, i64 p.level, .bool p.top, .lst p.esh.sz (p.entries.map Entry.av) p.esh.c, i64 p.next, .str p.data, .lst p.fsh.sz (p.freed.map Freed.av) p.fsh.c]
def Page.av (p : Page) : AV := .agg p.cells
/-- Strings and lists are short enough for a machine; slices are held as they are. -/
structure Page.Ok (p : Page) : Prop where
  esz : p.entries ≠ [] → p.esh.sz = 22
  fsz : p.freed ≠ [] → p.fsh.sz = 2
  elen : p.entries.length < 1099511627776
  flen : p.freed.length < 1048576
  dlen : p.data.length < 1099511627776
  ent : ∀ e ∈ p.entries, e.Ok
  fr : ∀ f ∈ p.freed, f.Ok ∧ f.pages.length < 9223372036854775808
theorem page_cells (p : Page) : p.av.cells? = some p.cells := rfl
theorem freed_pure (f : Freed) : f.av.pureB = true := by
  show pureBs [i64 f.ver, .lst f.sh.sz (f.pages.map i64) f.sh.c] = true
  simp [pureBs, AV.pureB, pure_map (f := i64) (fun _ => rfl)]
theorem page_pure (p : Page) : p.av.pureB = true := by
  show pureBs p.cells = true
  simp [Page.cells, pureBs, AV.pureB, pure_map entry_pure, pure_map freed_pure]
theorem eq_bool (a b : Bool) : eqA Tryz.prog 20 4 (.bool a) (.bool b) = some (a == b) := by kernel_rfl

def linked (n : Int) : Bool := n == 0 || numbered n
def Page.plain (p : Page) : Bool := p.tree == 0 && (p.level == 0 && (!p.top && (p.entries.length : Int) == 0))
def pgAt (l : List Int) (k : Nat) : Bool := numbered (l.getD k 0) && (k == 0 || decide (l.getD (k - 1) 0 < l.getD k 0))
def pgsOk (l : List Int) : Bool := (List.range l.length).all (pgAt l)
instance : Inhabited Freed := ⟨⟨0, ⟨0, true⟩, []⟩⟩
def frAt (l : List Freed) (k : Nat) : Bool := (within (l.getD k default).ver 0 1099511627776 && (((l.getD k default).pages.length : Int) != 0 && (k == 0 || decide ((l.getD (k - 1) default).ver < (l.getD k default).ver)))) && pgsOk (l.getD k default).pages
def freedOk (l : List Freed) : Bool := (List.range l.length).all (frAt l)
def listed (l : List Freed) : Int := 6 + (l.map fun f => 8 + 4 * (f.pages.length : Int)).sum
def Page.check (p : Page) : Bool := numbered p.no && (within p.ver 0 1099511627776 && (if p.kind = 1 ∨ p.kind = 2 then within p.tree 0 255 && (((p.kind == 1) == (p.level == 0)) && (fits p.entries p.level && (p.next == 0 && (p.data == [] && (p.freed.length : Int) == 0))))
  else if p.kind = 3 then p.plain && (linked p.next && (within p.data.length 1 490 && (p.freed.length : Int) == 0)) else if p.kind = 4 then p.plain && (linked p.next && (p.data == [] && (freedOk p.freed && decide (listed p.freed ≤ 496)))) else false))

theorem all_bad {p : Nat → Bool} {n j : Nat} (hj : j < n) (hb : p j = false) : (List.range n).all p = false := by
  rw [List.all_eq_false]; exact ⟨j, List.mem_range.2 hj, by simp [hb]⟩
theorem all_good {p : Nat → Bool} {n : Nat} (h : ∀ i, i < n → p i = true) : (List.range n).all p = true := by
  rw [List.all_eq_true]; exact fun i hi => h i (List.mem_range.1 hi)
theorem all_next {p : Nat → Bool} {j : Nat} (h : ∀ i, i < j → p i = true) (hj : p j = true) : ∀ i, i < j + 1 → p i = true := fun i hi => by
  by_cases e : i = j
  · rw [e]; exact hj
  · exact h i (by omega)
theorem pgAt_unf {l : List Int} {j : Nat} (hj : j < l.length) : pgAt l j = (numbered l[j] && (decide (j = 0) || decide (l[j - 1] < l[j]))) := by
  have h1 : l.getD j 0 = l[j] := by simp [hj]
  have h2 : l.getD (j - 1) 0 = l[j - 1] := by simp [show j - 1 < l.length by omega]
  have h3 : (j == 0) = decide (j = 0) := by by_cases e : j = 0 <;> simp [e]
  unfold pgAt; rw [h1, h2, h3]
theorem frAt_unf {l : List Freed} {j : Nat} (hj : j < l.length) : frAt l j = ((within l[j].ver 0 1099511627776 && ((l[j].pages.length : Int) != 0 && (decide (j = 0) || decide (l[j - 1].ver < l[j].ver)))) && pgsOk l[j].pages) := by
  have h1 : l.getD j default = l[j] := by simp [hj]
  have h2 : l.getD (j - 1) default = l[j - 1] := by simp [show j - 1 < l.length by omega]
  have h3 : (j == 0) = decide (j = 0) := by by_cases e : j = 0 <;> simp [e]
  unfold frAt; rw [h1, h2, h3]

section
variable {n : Nat} {h : AHeap}
theorem plain_eq (hn : 1 ≤ n) (p : Page) : C n 73 [p.av] h = some (.ret (.bool p.plain), h) := by
  obtain ⟨m, rfl⟩ : ∃ m, n = m + 1 := ⟨n - 1, by omega⟩
  refine fun_pure F73 rfl rfl rfl (by simp [pureBs, page_pure]) ?_
  repeat' (conv => whnf); first
    | refine retP rfl (frz_bool ?_)
    | refine brd (fun _ => ?_) (fun _ => ?_)
    | refine bre (fun _ => ?_) (fun _ => ?_)
    | refine brq (fun _ => ?_) (fun _ => ?_)
    | refine brn (fun _ => ?_) (fun _ => ?_)
    | refine br (fun _ => ?_) (fun _ => ?_)
    | refine ldI (by rfl) ?_
    | refine ldI (get_set_last _ _ _) ?_
    | refine ldI (get_last _ _) ?_
    | refine stI (by rfl) (by rfl) (by rfl) (by rfl) (by rfl) ?_
    | refine stI (get_last _ _) (by rfl) (by rfl) (by rfl) (by rfl) ?_
    | refine cutS (by decide) rfl ?_
  all_goals simp_all [Page.plain]
theorem linked_eq (hn : 3 ≤ n) (k : Int) : C n 74 [i64 k] h = some (.ret (.bool (linked k)), h) := by
  obtain ⟨m, rfl⟩ : ∃ m, n = m + 1 := ⟨n - 1, by omega⟩
  refine fun_pure F74 rfl rfl rfl rfl ?_
  repeat' (conv => whnf); first
    | refine clI (numbered_eq (by omega) _) ?_
    | refine retP rfl (frz_bool ?_)
    | refine brd (fun _ => ?_) (fun _ => ?_)
    | refine bre (fun _ => ?_) (fun _ => ?_)
    | refine brq (fun _ => ?_) (fun _ => ?_)
    | refine brn (fun _ => ?_) (fun _ => ?_)
    | refine br (fun _ => ?_) (fun _ => ?_)
    | refine ldI (by rfl) ?_
    | refine ldI (get_set_last _ _ _) ?_
    | refine ldI (get_last _ _) ?_
    | refine stI (by rfl) (by rfl) (by rfl) (by rfl) (by rfl) ?_
    | refine stI (get_last _ _) (by rfl) (by rfl) (by rfl) (by rfl) ?_
    | refine cutS (by decide) rfl ?_
  all_goals simp_all [linked]
theorem listed_bound : ∀ (l : List Freed), (∀ f ∈ l, f.pages.length < 1048576) → 6 ≤ listed l ∧ listed l ≤ 6 + 4194312 * l.length
  | [], _ => by simp [listed]
  | f :: r, hf => by
    have h1 := listed_bound r fun g hg => hf g (List.mem_cons_of_mem _ hg)
    have h2 := hf f (List.mem_cons_self ..)
    simp only [listed, List.map_cons, List.sum_cons, List.length_cons] at h1 ⊢
    omega
theorem listed_take (l : List Freed) {j : Nat} (hj : j < l.length) : listed (l.take (j + 1)) = listed (l.take j) + (8 + 4 * (l[j].pages.length : Int)) := by
  rw [List.take_succ_eq_append_getElem hj]
  unfold listed
  rw [List.map_append, List.sum_append]
  simp only [List.map_cons, List.map_nil, List.sum_cons, List.sum_nil]
  omega
theorem listed_eq (hn : 1 ≤ n) (l : List Freed) (hl : l.length < 1048576) (hf : ∀ f ∈ l, f.Ok ∧ f.pages.length < 1048576) (sz : Nat) (hz : l ≠ [] → sz = 2) (c : Bool) : C n 76 [.lst sz (l.map Freed.av) c] h = some (.ret (i64 (listed l)), h) := by
  obtain ⟨m, rfl⟩ : ∃ m, n = m + 1 := ⟨n - 1, by omega⟩
  refine fun_pure F76 rfl rfl rfl (pure_lst freed_pure l rfl) ?_
  conv => whnf
  refine loopI (by decide) rfl (α := Nat × AHeap) (fun x => ⟨[(3, i64 (listed (l.take x.1))), (6, .lst sz (l.map Freed.av) c), (7, i64 l.length), (8, i64 x.1)], x.2, []⟩) (fun x => x.1 ≤ l.length) (fun x => l.length - x.1) (0, []) ⟨⟨rfl, rfl, lenI _ _, rfl⟩, rfl, rfl⟩ (Nat.zero_le _) (by show l.length - 0 < KK; simp only [KK]; omega) ?_
  rintro ⟨j, hp⟩ g1
  simp only at g1
  conv => whnf
  refine brd (fun a => ?_) (fun a => ?_)
  · have hj : j < l.length := by simp only at a; omega
    obtain ⟨k1, k2⟩ := hf _ (List.getElem_mem hj)
    have hb := listed_bound (l.take j) fun f h => (hf f (List.mem_of_mem_take h)).2
    rw [List.length_take] at hb
    have el : ((l[j].pages.map i64).length : Int) = (l[j].pages.length : Int) := by rw [List.length_map]
    conv => whnf
    refine ixL freed_cells hj hz ?_
    conv => whnf
    refine stI (get_last _ _) (by rfl) (by rfl) (by rfl) (by rfl) ?_
    conv => whnf
    refine ldI (get_set_last _ _ _) ?_
    conv => whnf
    refine zI (z := 4 * (l[j].pages.length : Int)) (by rw [el, wrap_i64 (by omega) (by omega)]) ?_
    conv => whnf
    refine zI (z := 8 + 4 * (l[j].pages.length : Int)) (wrap_i64 (by omega) (by omega)) ?_
    conv => whnf
    refine zI (z := listed (l.take (j + 1))) (by rw [listed_take l hj, wrap_i64 (by simp only; omega) (by simp only; omega)]) ?_
    conv => whnf
    refine zI (z := ((j + 1 : Nat) : Int)) (by rw [wrap_i64 (by omega) (by omega)]; rfl) ?_
    exact nxI (j + 1, _) hj (by simp only; omega) ⟨⟨rfl, rfl, rfl, rfl⟩, rfl, rfl⟩
  · have hj : j = l.length := by simp only at a; omega
    subst hj
    conv => whnf
    refine cutI (by decide) rfl (t := ⟨[(3, i64 (listed l))], hp, []⟩) ⟨by rw [List.take_length]; rfl, rfl, rfl⟩ ?_
    conv => whnf
    exact retP rfl (frz_int rfl)

/-- Pages that are in order are few. -/
theorem pgs_ge {l : List Int} (h : pgsOk l = true) : ∀ i (hi : i < l.length), (2 : Int) + i ≤ l[i] ∧ l[i] ≤ 4095
  | 0, hi => by
    have := List.all_eq_true.1 h 0 (List.mem_range.2 hi)
    rw [pgAt_unf hi] at this
    simp [numbered, within] at this
    omega
  | i + 1, hi => by
    have h0 := pgs_ge h i (by omega)
    have := List.all_eq_true.1 h (i + 1) (List.mem_range.2 hi)
    rw [pgAt_unf hi] at this
    simp [numbered, within] at this
    omega
theorem pgs_few {l : List Int} (h : pgsOk l = true) : l.length ≤ 4094 := by
  rcases Nat.eq_zero_or_pos l.length with e | e
  · omega
  · have := pgs_ge h (l.length - 1) (by omega)
    omega
theorem freed_few {l : List Freed} (h : freedOk l = true) (hf : ∀ f ∈ l, f.Ok ∧ f.pages.length < 9223372036854775808) : ∀ f ∈ l, f.Ok ∧ f.pages.length < 1048576 := fun f hm => by
  obtain ⟨i, hi, rfl⟩ := List.getElem_of_mem hm
  have := List.all_eq_true.1 h i (List.mem_range.2 hi)
  rw [frAt_unf hi, Bool.and_eq_true] at this
  have := pgs_few this.2
  exact ⟨(hf _ hm).1, by omega⟩
theorem pgs_loop {m : Nat} (hm : 2 ≤ m) (l : List Int) (hl : l.length < 9223372036854775808) (sz : Nat) (hz : l ≠ [] → sz = 1) (c : Bool) (f : Freed) (hf : f = ⟨f.ver, ⟨sz, c⟩, l⟩) {hp : AHeap} {E : Nat} (hE0 : hp[E]? = some (.cells 0 (some 165) f.cells 0)) {Q : Ex → LS → Prop} {s : LS} (v0 v7 v8 v9 : AV)
    (hs : LS.sub ⟨[(0, v0), (4, .ptr E 0 0), (7, v7), (8, v8), (9, v9), (40, .lst sz (l.map i64) c), (41, i64 l.length), (42, i64 0)], hp, []⟩ s)
    (hE : pgsOk l = true → ∀ L, subL [(0, v0), (7, v7), (8, v8), (9, v9)] L → Q (.exit 2) ⟨L, hp, []⟩) (hR : pgsOk l = false → ∀ L, lk L 2 = some (.bool false) → Q .ret ⟨L, hp, []⟩) :
    OkR Tryz.prog (C m) cfg0.inl KK 66 7 (.loop (c75.lp 1)) s Q := by
  refine loopI (by decide) rfl (α := Nat) (fun x => ⟨[(0, v0), (4, .ptr E 0 0), (7, v7), (8, v8), (9, v9), (40, .lst sz (l.map i64) c), (41, i64 l.length), (42, i64 x)], hp, []⟩) (fun x => x ≤ l.length ∧ ∀ i, i < x → pgAt l i = true) (fun x => l.length - x) 0 hs ⟨Nat.zero_le _, fun i hi => absurd hi (Nat.not_lt_zero _)⟩ (by show l.length - 0 < KK; simp only [KK]; omega) ?_
  rintro j ⟨g1, g2⟩
  have e0 : f.cells = [i64 f.ver, .lst sz (l.map i64) c] := by rw [hf]; rfl
  rw [e0] at hE0
  conv => whnf
  refine brd (fun a => ?_) (fun a => ?_)
  · have hj : j < l.length := by omega
    repeat' (conv => whnf); first
      | refine ixL (l := l) (j := j) i64_cells hj hz ?_
      | refine ixL (l := l) (j := j - 1) i64_cells (by omega) hz ?_
      | refine clI (numbered_eq (by omega) _) ?_
      | refine ldI hE0 ?_
      | refine zI (z := ((j - 1 : Nat) : Int)) (by rw [wrap_i64 (by omega) (by omega)]; omega) ?_
      | refine zI (z := ((j + 1 : Nat) : Int)) (by rw [wrap_i64 (by omega) (by omega)]; rfl) ?_
      | refine hR (all_bad hj ?_) _ rfl
      | refine nxI (j + 1) ⟨hj, all_next g2 ?_⟩ (by omega) ⟨⟨rfl, rfl, rfl, rfl, rfl, rfl, rfl, rfl⟩, rfl, rfl⟩
      | (exfalso; omega)
      | refine brd (fun _ => ?_) (fun _ => ?_)
      | refine bre (fun _ => ?_) (fun _ => ?_)
      | refine brq (fun _ => ?_) (fun _ => ?_)
      | refine brn (fun _ => ?_) (fun _ => ?_)
      | refine br (fun _ => ?_) (fun _ => ?_)
      | refine ldI (by rfl) ?_
      | refine ldI (get_set_last _ _ _) ?_
      | refine ldI (get_last _ _) ?_
      | refine stI (by rfl) (by rfl) (by rfl) (by rfl) (by rfl) ?_
      | refine stI (get_last _ _) (by rfl) (by rfl) (by rfl) (by rfl) ?_
      | refine zI (wrap_i64 (by omega) (by omega)) ?_
      | refine cutS (by decide) rfl ?_
    all_goals clear hf e0 hE0 hE hR hs
    all_goals rw [pgAt_unf hj]
    all_goals by_cases hj0 : j = 0
    all_goals simp_all
    all_goals omega
  · have hj : j = l.length := by omega
    subst hj
    conv => whnf
    exact hE (all_good g2) _ ⟨rfl, rfl, rfl, rfl⟩
theorem freed_eq (hn : 3 ≤ n) (l : List Freed) (hl : l.length < 1048576) (hf : ∀ f ∈ l, f.Ok ∧ f.pages.length < 9223372036854775808) (sz : Nat) (hz : l ≠ [] → sz = 2) (c : Bool) : C n 75 [.lst sz (l.map Freed.av) c] h = some (.ret (.bool (freedOk l)), h) := by
  obtain ⟨m, rfl⟩ : ∃ m, n = m + 1 := ⟨n - 1, by omega⟩
  refine fun_pure F75 rfl rfl rfl (pure_lst freed_pure l rfl) ?_
  conv => whnf
  refine loopI (by decide) rfl (α := Nat × AHeap) (fun x => ⟨[(0, .lst sz (l.map Freed.av) c), (7, .lst sz (l.map Freed.av) c), (8, i64 l.length), (9, i64 x.1)], x.2, []⟩) (fun x => x.1 ≤ l.length ∧ ∀ i, i < x.1 → frAt l i = true) (fun x => l.length - x.1) (0, []) ⟨⟨rfl, rfl, lenI _ _, rfl⟩, rfl, rfl⟩ ⟨Nat.zero_le _, fun i hi => absurd hi (Nat.not_lt_zero _)⟩ (by show l.length - 0 < KK; simp only [KK]; omega) ?_
  rintro ⟨j, hp⟩ ⟨g1, g2⟩
  simp only at g1 g2
  conv => whnf
  refine brd (fun a => ?_) (fun a => ?_)
  · have hj : j < l.length := by simp only at a; omega
    obtain ⟨k1, k2⟩ := hf _ (List.getElem_mem hj)
    have el : ((l[j].pages.map i64).length : Int) = (l[j].pages.length : Int) := by rw [List.length_map]
    conv => whnf
    refine ixL freed_cells hj hz ?_
    conv => whnf
    refine stI (get_last _ _) (by rfl) (by rfl) (by rfl) (by rfl) ?_
    have good : ∀ {Q : Ex → LS → Prop} (s' : LS), LS.sub ⟨[(0, .lst sz (l.map Freed.av) c), (4, .ptr hp.length 0 0), (7, .lst sz (l.map Freed.av) c), (8, i64 l.length), (9, i64 j)], ((hp ++ [AB.cells 0 (some 165) [i64 0, .lst 0 [] true] 0]).set hp.length (.cells 0 (some 165) l[j].cells 0)), []⟩ s' →
        (pgsOk l[j].pages = true → ∀ L, subL [(0, .lst sz (l.map Freed.av) c), (7, .lst sz (l.map Freed.av) c), (8, i64 l.length), (9, i64 j)] L → Q .norm ⟨L, ((hp ++ [AB.cells 0 (some 165) [i64 0, .lst 0 [] true] 0]).set hp.length (.cells 0 (some 165) l[j].cells 0)), []⟩) → (pgsOk l[j].pages = false → ∀ L, lk L 2 = some (.bool false) → Q .ret ⟨L, ((hp ++ [AB.cells 0 (some 165) [i64 0, .lst 0 [] true] 0]).set hp.length (.cells 0 (some 165) l[j].cells 0)), []⟩) →
        OkR Tryz.prog (C m) cfg0.inl KK 66 7 (cutOf (c75.lp 0)) s' Q := by
      intro Q s' hs' hT hF
      refine cutI (by decide) rfl hs' ?_
      conv => whnf
      refine ldI (get_set_last _ _ _) ?_
      conv => whnf
      refine pgs_loop (by omega) l[j].pages k2 l[j].sh.sz k1 l[j].sh.c l[j] rfl (get_set_last _ _ _) (.lst sz (l.map Freed.av) c) (.lst sz (l.map Freed.av) c) (i64 l.length) (i64 j) ⟨⟨rfl, rfl, rfl, rfl, rfl, rfl, lenI i64 _, rfl⟩, rfl, rfl⟩ (fun q L hL => ?_) (fun q L hk => ?_)
      · conv => whnf
        exact hT q L hL
      · conv => whnf
        exact hF q L hk
    repeat' (conv => whnf); first
      | refine ldI (get_set_last _ _ _) ?_
      | refine ixL (l := l) (j := j - 1) freed_cells (by omega) hz ?_
      | refine clI (within_eq (by omega) _ _ _) ?_
      | refine zI (z := ((j - 1 : Nat) : Int)) (by rw [wrap_i64 (by omega) (by omega)]; omega) ?_
      | refine zI (z := ((j + 1 : Nat) : Int)) (by rw [wrap_i64 (by omega) (by omega)]; rfl) ?_
      | refine good _ ⟨⟨rfl, rfl, rfl, rfl, rfl⟩, rfl, rfl⟩ (fun _ _ _ => ?_) (fun _ _ _ => ?_)
      | refine cutI (by decide) rfl (t := ⟨[(0, .lst sz (l.map Freed.av) c), (7, .lst sz (l.map Freed.av) c), (8, i64 l.length), (9, i64 j)], _, []⟩) ⟨(by assumption), rfl, rfl⟩ ?_
      | refine nxI (j + 1, _) ⟨hj, all_next g2 ?_⟩ (by simp only; omega) ⟨⟨rfl, rfl, rfl, rfl⟩, rfl, rfl⟩
      | refine retK (by assumption) (frz_bool (all_bad hj ?_).symm)
      | refine retP rfl (frz_bool (all_bad hj ?_).symm)
      | (exfalso; omega)
      | refine brd (fun _ => ?_) (fun _ => ?_)
      | refine bre (fun _ => ?_) (fun _ => ?_)
      | refine brq (fun _ => ?_) (fun _ => ?_)
      | refine brn (fun _ => ?_) (fun _ => ?_)
      | refine br (fun _ => ?_) (fun _ => ?_)
      | refine ldI (by rfl) ?_
      | refine ldI (get_set_last _ _ _) ?_
      | refine ldI (get_last _ _) ?_
      | refine stI (by rfl) (by rfl) (by rfl) (by rfl) (by rfl) ?_
      | refine stI (get_last _ _) (by rfl) (by rfl) (by rfl) (by rfl) ?_
      | refine zI (wrap_i64 (by omega) (by omega)) ?_
    all_goals clear good
    all_goals rw [frAt_unf hj]
    all_goals try simp only [el] at *
    all_goals by_cases hj0 : j = 0
    all_goals simp_all
    all_goals omega
  · have hj : j = l.length := by simp only at a; omega
    subst hj
    conv => whnf
    refine cutI (by decide) rfl (t := ⟨[], hp, []⟩) ⟨trivial, rfl, rfl⟩ ?_
    conv => whnf
    exact retP rfl (frz_bool (all_good g2).symm)
end
end Go.Proofs
/- Contracts: nodes that are written into a builder. -/
set_option linter.unusedVariables false
set_option linter.unusedSimpArgs false
namespace Go.Proofs
open Go Go.Abs

theorem cp_take : ∀ (x y : Str), x.take (cp x y) = y.take (cp x y)
  | [], y => by simp [cp]
  | a :: x, [] => by simp [cp]
  | a :: x, b :: y => by
    simp only [cp]
    split
    · rename_i h; subst h; simp [cp_take x y]
    · rfl
theorem pre2_left (p k : Str) : pre2 p k <+: p := List.take_prefix _ _
theorem pre2_right (p k : Str) : pre2 p k <+: k := by unfold pre2; rw [cp_take]; exact List.take_prefix _ _
theorem fold_prefix : ∀ (l : List Entry) (p : Str), l.foldl (fun p e => pre2 p e.key) p <+: p ∧ ∀ e ∈ l, l.foldl (fun p e => pre2 p e.key) p <+: e.key
  | [], p => ⟨List.prefix_refl _, fun e h => by cases h⟩
  | a :: r, p => by
    obtain ⟨h1, h2⟩ := fold_prefix r (pre2 p a.key)
    refine ⟨h1.trans (pre2_left _ _), fun e he => ?_⟩
    rcases List.mem_cons.1 he with rfl | he
    · exact h1.trans (pre2_right _ _)
    · exact h2 e he
theorem shared_prefix (l : List Entry) (lv : Int) : ∀ e ∈ tailE l lv, shared l lv <+: e.key := by
  intro e he
  unfold shared
  cases ht : tailE l lv with
  | nil => rw [ht] at he; cases he
  | cons a r =>
    rw [ht] at he
    obtain ⟨h1, h2⟩ := fold_prefix r a.key
    rcases List.mem_cons.1 he with rfl | he
    · exact h1
    · exact h2 e he
def cutAt (l : List Entry) (lv : Int) (i : Nat) : Nat := if i = 0 ∧ 0 < lv then 0 else (shared l lv).length
theorem cutAt_prefix {l : List Entry} {lv : Int} {i : Nat} (hi : i < l.length) (h : ¬ (i = 0 ∧ 0 < lv)) : shared l lv <+: l[i].key := by
  refine shared_prefix l lv _ ?_
  unfold tailE
  split
  · rename_i hl
    obtain ⟨k, rfl⟩ : ∃ k, i = k + 1 := ⟨i - 1, by omega⟩
    rw [List.mem_iff_getElem]
    exact ⟨k, by simp; omega, by simp [Nat.add_comm]⟩
  · exact List.getElem_mem hi
theorem cutAt_le {l : List Entry} {lv : Int} {i : Nat} (hi : i < l.length) : cutAt l lv i ≤ l[i].key.length := by
  unfold cutAt
  split
  · omega
  · rename_i h; exact (cutAt_prefix hi h).length_le

theorem nn_form {e : Entry} (hf : formOf e ≠ 0) : e.Nn ∧ e.key.length ≤ 48 ∧ e.val.length ≤ 64 := by
  have hk := form_key hf
  unfold formOf at hf
  split at hf
  · exact (hf rfl).elim
  split at hf
  · rename_i h
    simp [isShort] at h
    obtain ⟨⟨⟨⟨⟨h1, h2⟩, h3⟩, h4⟩, _⟩, h5⟩ := h
    exact ⟨⟨by omega, by omega, by omega, by omega⟩, by omega, h5⟩
  split at hf
  · exact (hf rfl).elim
  rename_i hv
  simp at hv
  split at hf
  · rename_i h
    simp [isLong, numbered, within] at h
    exact ⟨⟨by omega, by omega, by omega, by omega⟩, by omega, by simp [hv]⟩
  split at hf
  · rename_i h
    simp [isNest, numbered, within] at h
    exact ⟨⟨by omega, by omega, by omega, by omega⟩, by omega, by simp [hv]⟩
  · exact (hf rfl).elim
theorem nn_branch {e : Entry} (h : branches e = true) : e.Nn ∧ e.key.length ≤ 48 ∧ e.val.length ≤ 64 := by
  simp [branches, numbered, within] at h
  obtain ⟨⟨⟨⟨⟨h1, h2⟩, h3⟩, h4⟩, h5⟩, h6⟩ := h
  exact ⟨⟨by omega, by omega, by omega, by omega⟩, by omega, by simp [h2]⟩
theorem valid_nn {l : List Entry} {lv : Int} (hv : valid l lv = true) : ∀ e ∈ l, e.Nn ∧ e.key.length ≤ 48 ∧ e.val.length ≤ 64 := by
  obtain ⟨h1, h2, h3, h4⟩ := valid_iff.1 hv
  intro e he
  obtain ⟨j, hj, rfl⟩ := List.getElem_of_mem he
  have := h4 j hj
  rw [vAt_unf hj] at this
  by_cases e0 : lv = 0
  · subst e0
    simp at this
    exact nn_form this.1
  · simp [e0] at this
    exact nn_branch this.1.1

def entsB (l : List Entry) (lv : Int) (k : Nat) : Str := (List.range k).flatMap fun i => entB (cutAt l lv i) (l.getD i default) lv
def offsB (l : List Entry) (lv : Int) (base k : Nat) : Str := (List.range k).flatMap fun i => num (base + (entsB l lv i).length) 2
def nodeB (tree lv : Int) (top : Bool) (l : List Entry) (base : Nat) : Str :=
  num tree.toNat 1 ++ (num lv.toNat 1 ++ (num (if top then 1 else 0) 1 ++ (num (shared l lv).length 1 ++ (num l.length 2 ++ (shared l lv ++ (offsB l lv (base + 6 + (shared l lv).length + 2 * l.length) l.length ++ entsB l lv l.length))))))
theorem entsB_succ (l : List Entry) (lv : Int) {k : Nat} (hk : k < l.length) : entsB l lv (k + 1) = entsB l lv k ++ entB (cutAt l lv k) l[k] lv := by
  unfold entsB
  rw [List.range_succ, List.flatMap_append, List.flatMap_cons, List.flatMap_nil, List.append_nil, ← getD_at hk]
theorem offsB_succ (l : List Entry) (lv : Int) (base k : Nat) : offsB l lv base (k + 1) = offsB l lv base k ++ num (base + (entsB l lv k).length) 2 := by
  unfold offsB
  rw [List.range_succ, List.flatMap_append, List.flatMap_cons, List.flatMap_nil, List.append_nil]
theorem offsB_len (l : List Entry) (lv : Int) (base : Nat) : ∀ k, (offsB l lv base k).length = 2 * k
  | 0 => rfl
  | k + 1 => by rw [offsB_succ, List.length_append, offsB_len l lv base k, num_len]; omega
theorem entB_len (c : Nat) (e : Entry) (lv : Int) : (entB c e lv).length ≤ 27 + e.key.length + e.val.length ∧ 1 ≤ (entB c e lv).length := by
  have := restB_len e lv
  unfold entB
  simp only [List.length_append, num_len, List.length_drop]
  omega
theorem entsB_len {l : List Entry} {lv : Int} (hv : valid l lv = true) : ∀ k, k ≤ l.length → (entsB l lv k).length ≤ 140 * k
  | 0, _ => by simp [entsB]
  | k + 1, hk => by
    have h1 := entsB_len hv k (by omega)
    have h2 := entB_len (cutAt l lv k) l[k] lv
    have h3 := valid_nn hv _ (List.getElem_mem (show k < l.length by omega))
    rw [entsB_succ l lv (by omega), List.length_append]
    omega

theorem Wrote.other {hp h h' : AHeap} {a b : Nat} {F G GA GA' : List Nat} {s sA : Str} (w : Wrote hp h b F G s) (v : Wrote h h' a GA GA' sA) (h1 : ∀ x ∈ GA, hp.length ≤ x) (h2 : ∀ x ∈ G, x ∉ GA) : Wrote hp h' b F G s :=
  ⟨w.1.stays v.2.1 h2, w.2.1.trans v.2.1 (fun x hx => .inr (h1 x hx)), w.2.2⟩
/-- Two builders that have nothing in common. -/
theorem Wrote.apart {h h' : AHeap} {b : Nat} {F F' GA : List Nat} {s : Str} (w : Wrote h h' b F F' s) (hd : ∀ x ∈ GA, x ∉ F) (hl : ∀ x ∈ GA, x < h.length) : ∀ x ∈ GA, x ∉ F' := fun x hx hf => by
  rcases w.2.2 x hf with q | q
  · exact hd x hx q
  · have := hl x hx; omega
end Go.Proofs
