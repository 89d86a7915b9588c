/- Texts put together: Rh, Ri, Rj, Rk, Rl, Rm, Nd, Tc, Td, Nb, Ne, Ga, Te. -/
import Derived.Test.YtfddiediieblhaaGreatBac8
import Derived.Test.YtfddiediieblhaaGreatBac7
/- Contracts: bodies of nodes that are read. -/
set_option linter.unusedVariables false
set_option linter.unusedSimpArgs false
namespace Go.Proofs
open Go Go.Abs
structure NodeP where
  tree : Nat
  lv : Nat
  top : Bool
  es : List Entry
def pnode (s : Str) : Option (NodeP × Str) :=
  (pnum 1 s).bind fun t => (pnum 1 t.2).bind fun l => (pnum 1 l.2).bind fun o => (pnum 1 o.2).bind fun z => (pnum 2 z.2).bind fun n => (ptext z.1 n.2).bind fun p => (ptext (2 * n.1) p.2).bind fun q => (pents p.1 l.1 n.1 0 q.2).map fun e => (⟨t.1, l.1, o.1 == 1, e.1⟩, e.2)
section
variable {n : Nat} {hp : AHeap} {b : Nat} {s : Str}
theorem entries_eq (hn : 1 ≤ n) (k lv : Int) (pre : Str) : C n 152 [.ptr b 0 0, i64 k, i64 lv, .str pre] hp =
    some (.ret (.fn (.func 170) [] [.ptr (hp.length + 1) 0 0, .ptr hp.length 0 0, .ptr (hp.length + 2) 0 0, .ptr (hp.length + 3) 0 0]), hp ++ [AB.cells 0 (some 141) [.ptr b 0 0] 0] ++ [AB.cells 0 (some 3) [i64 k] 0] ++ [AB.cells 0 (some 3) [i64 lv] 0] ++ [AB.cells 0 (some 9) [.str pre] 0]) := by
  obtain ⟨m, rfl⟩ : ∃ m, n = m + 1 := ⟨n - 1, by omega⟩
  refine fun_inl F152 rfl rfl ?_
  conv => whnf
  refine ⟨rfl, _, rfl, ?_, rfl⟩
  show AV.fn _ _ _ = AV.fn _ _ _
  simp

theorem beq_one (k : Nat) : (((k : Nat) : Int) == 1) = (k == 1) := by rw [Bool.eq_iff_iff, beq_iff_eq, beq_iff_eq]; omega
def NodeR (hp : AHeap) (b : Nat) (x : NodeP) (t : Str) (r : CRes) (h : AHeap) : Prop :=
  ∃ X L G, r = .ret (.ifc 178 (.agg [i64 x.tree, i64 x.lv, .bool x.top, L])) ∧ RDs h b t ∧ GBuf 56 22 h X L (x.es.map Entry.cells) G ∧ Keep hp h [b] ∧ X < h.length ∧ ∀ y ∈ G, hp.length ≤ y

theorem node_rd (hn : 5 ≤ n) (r : RDs hp b s) (kind : Int) (hk : kind = 1 ∨ kind = 2) :
    ∃ r h, C n 119 [.ptr b 0 0, i64 kind] hp = some (r, h) ∧ StepR (pnode s) (NodeR hp b) (fun h => Keep hp h [b]) r h := by
  obtain ⟨m, rfl⟩ : ∃ m, n = m + 1 := ⟨n - 1, by omega⟩
  refine fun_inlE (n := m) (c := cfg0) F119 rfl rfl ?_
  have hb := r.lt
  have rest : ∀ {Q : Ex → LS → Prop} (s' : LS), LS.sub ⟨[(0, .ptr b 0 0)], hp, []⟩ s' → (∀ s1, EndQ Tryz.prog (C m) cfg0.inl [.tmp 4] (StepR (pnode s) (NodeR hp b) (fun h => Keep hp h [b])) .ret s1 → Q .ret s1) → (∀ v s1, EndQ Tryz.prog (C m) cfg0.inl [.tmp 4] (StepR (pnode s) (NodeR hp b) (fun h => Keep hp h [b])) (.pan v) s1 → Q (.pan v) s1) →
      OkR Tryz.prog (C m) cfg0.inl KK 95 7 (cutOf c119) s' Q := by
    intro Q s' hs' hret hpan
    refine cutI (by decide) rfl hs' ?_
    have bad : ∀ (L : LT) (h : AHeap), pnode s = none → Keep hp h [b] → Q (.pan badV) ⟨L, h, []⟩ := fun L h q k => by
      refine hpan _ _ ?_
      show StepR (pnode s) (NodeR hp b) (fun h => Keep hp h [b]) (.pan badV) h
      rw [q]
      exact ⟨rfl, k⟩
    conv => whnf
    refine rnumC (n := m) (hp := hp) (by omega) r 1 (by omega) (fun h1 q1 r1 k1 => ?_) (fun q => bad _ _ (by simp only [pnode, pnum, if_neg (Nat.not_le.2 q), Option.bind_none]) (Keep.refl _ _))
    conv => whnf
    refine rnumC (n := m) (hp := h1) (by omega) r1 1 (by omega) (fun h2 q2 r2 k2 => ?_) (fun q => bad _ _ (by simp only [pnode, pnum, if_pos q1, Option.bind_some, if_neg (Nat.not_le.2 q), Option.bind_none]) k1)
    have k02 := k1.trans k2 (fun z hz => .inl hz)
    conv => whnf
    refine stI (get_last _ _) (by rfl) (by rfl) (by rfl) (by rfl) ?_
    have es1 : (h2 ++ [AB.cells 0 (some 178) [i64 0, i64 0, .bool false, .lst 0 [] true] 0]).set h2.length (AB.cells 0 (some 178) [i64 (unnum (s.take 1)), i64 (unnum ((s.drop 1).take 1)), .bool false, .lst 0 [] true] 0) = h2 ++ [AB.cells 0 (some 178) [i64 (unnum (s.take 1)), i64 (unnum ((s.drop 1).take 1)), .bool false, .lst 0 [] true] 0] := by simp
    have hbX : h2.length ≠ b := by have := r2.lt; omega
    have hbX' : h2.length ∉ [b] := by simpa using hbX
    have x3 : ((h2 ++ [AB.cells 0 (some 178) [i64 0, i64 0, .bool false, .lst 0 [] true] 0]).set h2.length (AB.cells 0 (some 178) [i64 (unnum (s.take 1)), i64 (unnum ((s.drop 1).take 1)), .bool false, .lst 0 [] true] 0))[h2.length]? = some (AB.cells 0 (some 178) [i64 (unnum (s.take 1)), i64 (unnum ((s.drop 1).take 1)), .bool false, .lst 0 [] true] 0) := by rw [es1]; exact get_last _ _
    have kx : Keep h2 ((h2 ++ [AB.cells 0 (some 178) [i64 0, i64 0, .bool false, .lst 0 [] true] 0]).set h2.length (AB.cells 0 (some 178) [i64 (unnum (s.take 1)), i64 (unnum ((s.drop 1).take 1)), .bool false, .lst 0 [] true] 0)) [] := by rw [es1]; exact Keep.app _ _ _
    have r3 := r2.stays kx (by simp)
    have k03 := k02.trans kx (by simp)
    conv => whnf
    refine rnumC (n := m) (hp := ((h2 ++ [AB.cells 0 (some 178) [i64 0, i64 0, .bool false, .lst 0 [] true] 0]).set h2.length (AB.cells 0 (some 178) [i64 (unnum (s.take 1)), i64 (unnum ((s.drop 1).take 1)), .bool false, .lst 0 [] true] 0))) (by omega) r3 1 (by omega) (fun h4 q4 r4 k4 => ?_) (fun q => bad _ _ (by simp only [pnode, pnum, if_pos q1, if_pos q2, Option.bind_some, if_neg (Nat.not_le.2 q), Option.bind_none]) k03)
    have k04 := k03.trans k4 (fun z hz => .inl hz)
    have x4 := k4.get x3 hbX'
    conv => whnf
    refine stI x4 (by rfl) (by rfl) (by rfl) (by rfl) ?_
    have etop := beq_one (unnum (((s.drop 1).drop 1).take 1))
    have kx5 : Keep h4 (h4.set h2.length (AB.cells 0 (some 178) [i64 (unnum (s.take 1)), i64 (unnum ((s.drop 1).take 1)), .bool ((unnum (((s.drop 1).drop 1).take 1) : Int) == 1), .lst 0 [] true] 0)) [h2.length] := Keep.set (by simp)
    have r5 := r4.stays kx5 (by simpa using hbX.symm)
    have k05 : Keep hp _ [b] := k04.trans kx5 (fun z hz => .inr (by simp at hz; rw [hz]; exact k02.1))
    have x5 : (h4.set h2.length (AB.cells 0 (some 178) [i64 (unnum (s.take 1)), i64 (unnum ((s.drop 1).take 1)), .bool ((unnum (((s.drop 1).drop 1).take 1) : Int) == 1), .lst 0 [] true] 0))[h2.length]? = some (AB.cells 0 (some 178) [i64 (unnum (s.take 1)), i64 (unnum ((s.drop 1).take 1)), .bool ((unnum (((s.drop 1).drop 1).take 1) : Int) == 1), .lst 0 [] true] 0) := by rw [List.getElem?_set_self (lt_of_get x4)]
    conv => whnf
    refine rnumC (n := m) (hp := h4.set h2.length (AB.cells 0 (some 178) [i64 (unnum (s.take 1)), i64 (unnum ((s.drop 1).take 1)), .bool ((unnum (((s.drop 1).drop 1).take 1) : Int) == 1), .lst 0 [] true] 0)) (by omega) r5 1 (by omega) (fun h6 q6 r6 k6 => ?_) (fun q => bad _ _ (by simp only [pnode, pnum, if_pos q1, if_pos q2, if_pos q4, Option.bind_some, if_neg (Nat.not_le.2 q), Option.bind_none]) k05)
    have k06 := k05.trans k6 (fun z hz => .inl hz)
    have x6 := k6.get x5 hbX'
    conv => whnf
    refine rnumC (n := m) (hp := h6) (by omega) r6 2 (by omega) (fun h7 q7 r7 k7 => ?_) (fun q => bad _ _ (by simp only [pnode, pnum, if_pos q1, if_pos q2, if_pos q4, if_pos q6, Option.bind_some, if_neg (Nat.not_le.2 q), Option.bind_none]) k06)
    have k07 := k06.trans k7 (fun z hz => .inl hz)
    have x7 := k7.get x6 hbX'
    have lz : unnum ((((s.drop 1).drop 1).drop 1).take 1) < 256 := Nat.lt_of_lt_of_eq (unnum_lt 1 _ (by rw [List.length_take]; omega)) (by decide)
    have ln : unnum (((((s.drop 1).drop 1).drop 1).drop 1).take 2) < 65536 := Nat.lt_of_lt_of_eq (unnum_lt 2 _ (by rw [List.length_take]; omega)) (by decide)
    conv => whnf
    refine textC (n := m) (hp := h7) (by omega) r7 _ (by omega) (fun h8 q8 r8 k8 => ?_) (fun q => bad _ _ (by simp only [pnode, pnum, ptext, if_pos q1, if_pos q2, if_pos q4, if_pos q6, if_pos q7, Option.bind_some, if_neg (Nat.not_le.2 q), Option.bind_none]) k07)
    have k08 := k07.trans k8 (fun z hz => .inl hz)
    have x8 := k8.get x7 hbX'
    conv => whnf
    refine zI (z := ((2 * unnum (((((s.drop 1).drop 1).drop 1).drop 1).take 2) : Nat) : Int)) (by rw [wrap_i64 (by omega) (by omega)]; omega) ?_
    conv => whnf
    refine textC (n := m) (hp := h8) (by omega) r8 _ (by omega) (fun h9 q9 r9 k9 => ?_) (fun q => bad _ _ (by simp only [pnode, pnum, ptext, if_pos q1, if_pos q2, if_pos q4, if_pos q6, if_pos q7, if_pos q8, Option.bind_some, if_neg (Nat.not_le.2 q), Option.bind_none]) k08)
    have k09 := k08.trans k9 (fun z hz => .inl hz)
    have x9 := k9.get x8 hbX'
    have hpn : pnode s = (pents ((((((s.drop 1).drop 1).drop 1).drop 1).drop 2).take (unnum ((((s.drop 1).drop 1).drop 1).take 1))) (unnum ((s.drop 1).take 1)) (unnum (((((s.drop 1).drop 1).drop 1).drop 1).take 2)) 0 (((((((s.drop 1).drop 1).drop 1).drop 1).drop 2).drop (unnum ((((s.drop 1).drop 1).drop 1).take 1))).drop (2 * unnum (((((s.drop 1).drop 1).drop 1).drop 1).take 2)))).map
        fun e => (⟨unnum (s.take 1), unnum ((s.drop 1).take 1), ((unnum (((s.drop 1).drop 1).take 1) : Int) == 1), e.1⟩, e.2) := by
      simp only [pnode, pnum, ptext, if_pos q1, if_pos q2, if_pos q4, if_pos q6, if_pos q7, if_pos q8, if_pos q9, Option.bind_some, etop]
    have hpre : ((((((s.drop 1).drop 1).drop 1).drop 1).drop 2).take (unnum ((((s.drop 1).drop 1).drop 1).take 1))).length < 1073741824 := by rw [List.length_take]; omega
    conv => whnf
    refine ldI x9 ?_
    conv => whnf
    refine clI (entries_eq (n := m) (hp := h9) (by omega) ((unnum (((((s.drop 1).drop 1).drop 1).drop 1).take 2)) : Nat) ((unnum ((s.drop 1).take 1)) : Nat) ((((((s.drop 1).drop 1).drop 1).drop 1).drop 2).take (unnum ((((s.drop 1).drop 1).drop 1).take 1)))) ?_
    -- the memory behind the call
    have lR : (h9 ++ [AB.cells 0 (some 141) [.ptr b 0 0] 0]).length = h9.length + 1 := by simp
    have lN : (h9 ++ [AB.cells 0 (some 141) [.ptr b 0 0] 0] ++ [AB.cells 0 (some 3) [i64 ((unnum (((((s.drop 1).drop 1).drop 1).drop 1).take 2)) : Nat)] 0]).length = h9.length + 2 := by simp
    have lL : (h9 ++ [AB.cells 0 (some 141) [.ptr b 0 0] 0] ++ [AB.cells 0 (some 3) [i64 ((unnum (((((s.drop 1).drop 1).drop 1).drop 1).take 2)) : Nat)] 0] ++ [AB.cells 0 (some 3) [i64 ((unnum ((s.drop 1).take 1)) : Nat)] 0]).length = h9.length + 3 := by simp
    have ka : Keep h9 (h9 ++ [AB.cells 0 (some 141) [.ptr b 0 0] 0] ++ [AB.cells 0 (some 3) [i64 ((unnum (((((s.drop 1).drop 1).drop 1).drop 1).take 2)) : Nat)] 0] ++ [AB.cells 0 (some 3) [i64 ((unnum ((s.drop 1).take 1)) : Nat)] 0] ++ [AB.cells 0 (some 9) [.str ((((((s.drop 1).drop 1).drop 1).drop 1).drop 2).take (unnum ((((s.drop 1).drop 1).drop 1).take 1)))] 0]) [] :=
      ((((Keep.app _ _ []).trans (Keep.app _ _ []) (by simp)).trans (Keep.app _ _ []) (by simp)).trans (Keep.app _ _ []) (by simp))
    have cR : (h9 ++ [AB.cells 0 (some 141) [.ptr b 0 0] 0] ++ [AB.cells 0 (some 3) [i64 ((unnum (((((s.drop 1).drop 1).drop 1).drop 1).take 2)) : Nat)] 0] ++ [AB.cells 0 (some 3) [i64 ((unnum ((s.drop 1).take 1)) : Nat)] 0] ++ [AB.cells 0 (some 9) [.str ((((((s.drop 1).drop 1).drop 1).drop 1).drop 2).take (unnum ((((s.drop 1).drop 1).drop 1).take 1)))] 0])[h9.length]? = some (AB.cells 0 (some 141) [.ptr b 0 0] 0) := get_app (get_app (get_app (get_last _ _)))
    have cN : (h9 ++ [AB.cells 0 (some 141) [.ptr b 0 0] 0] ++ [AB.cells 0 (some 3) [i64 ((unnum (((((s.drop 1).drop 1).drop 1).drop 1).take 2)) : Nat)] 0] ++ [AB.cells 0 (some 3) [i64 ((unnum ((s.drop 1).take 1)) : Nat)] 0] ++ [AB.cells 0 (some 9) [.str ((((((s.drop 1).drop 1).drop 1).drop 1).drop 2).take (unnum ((((s.drop 1).drop 1).drop 1).take 1)))] 0])[h9.length + 1]? = some (AB.cells 0 (some 3) [i64 ((unnum (((((s.drop 1).drop 1).drop 1).drop 1).take 2)) : Nat)] 0) := by rw [← lR]; exact get_app (get_app (get_last _ _))
    have cL : (h9 ++ [AB.cells 0 (some 141) [.ptr b 0 0] 0] ++ [AB.cells 0 (some 3) [i64 ((unnum (((((s.drop 1).drop 1).drop 1).drop 1).take 2)) : Nat)] 0] ++ [AB.cells 0 (some 3) [i64 ((unnum ((s.drop 1).take 1)) : Nat)] 0] ++ [AB.cells 0 (some 9) [.str ((((((s.drop 1).drop 1).drop 1).drop 1).drop 2).take (unnum ((((s.drop 1).drop 1).drop 1).take 1)))] 0])[h9.length + 2]? = some (AB.cells 0 (some 3) [i64 ((unnum ((s.drop 1).take 1)) : Nat)] 0) := by rw [← lN]; exact get_app (get_last _ _)
    have cP : (h9 ++ [AB.cells 0 (some 141) [.ptr b 0 0] 0] ++ [AB.cells 0 (some 3) [i64 ((unnum (((((s.drop 1).drop 1).drop 1).drop 1).take 2)) : Nat)] 0] ++ [AB.cells 0 (some 3) [i64 ((unnum ((s.drop 1).take 1)) : Nat)] 0] ++ [AB.cells 0 (some 9) [.str ((((((s.drop 1).drop 1).drop 1).drop 1).drop 2).take (unnum ((((s.drop 1).drop 1).drop 1).take 1)))] 0])[h9.length + 3]? = some (AB.cells 0 (some 9) [.str ((((((s.drop 1).drop 1).drop 1).drop 1).drop 2).take (unnum ((((s.drop 1).drop 1).drop 1).take 1)))] 0) := by rw [← lL]; exact get_last _ _
    have lH : (h9 ++ [AB.cells 0 (some 141) [.ptr b 0 0] 0] ++ [AB.cells 0 (some 3) [i64 ((unnum (((((s.drop 1).drop 1).drop 1).drop 1).take 2)) : Nat)] 0] ++ [AB.cells 0 (some 3) [i64 ((unnum ((s.drop 1).take 1)) : Nat)] 0] ++ [AB.cells 0 (some 9) [.str ((((((s.drop 1).drop 1).drop 1).drop 1).drop 2).take (unnum ((((s.drop 1).drop 1).drop 1).take 1)))] 0]).length = h9.length + 4 := by simp
    obtain ⟨hA, ehA⟩ : ∃ hA, hA = h9 ++ [AB.cells 0 (some 141) [.ptr b 0 0] 0] ++ [AB.cells 0 (some 3) [i64 ((unnum (((((s.drop 1).drop 1).drop 1).drop 1).take 2)) : Nat)] 0] ++ [AB.cells 0 (some 3) [i64 ((unnum ((s.drop 1).take 1)) : Nat)] 0] ++ [AB.cells 0 (some 9) [.str ((((((s.drop 1).drop 1).drop 1).drop 1).drop 2).take (unnum ((((s.drop 1).drop 1).drop 1).take 1)))] 0] := ⟨_, rfl⟩
    rw [← ehA] at ka cR cN cL cP lH
    rw [← ehA]
    conv => whnf
    have lX : h2.length < h9.length := lt_of_get x9
    have lb9 := r9.lt
    refine rangeI (gf := 170) (x := []) (lb := [.ptr (h9.length + 1) 0 0, .ptr h9.length 0 0, .ptr (h9.length + 2) 0 0, .ptr (h9.length + 3) 0 0]) rfl (by kernel_rfl) (fun tm qs ca cb H hq hca hcb => ?_)
    have kd : Keep hA (hA ++ [AB.dfd] ++ [AB.loop false tm qs ca cb hA.length]) [] := (Keep.app _ _ []).trans (Keep.app _ _ []) (by simp)
    have kad := ka.trans kd (by simp)
    have lD : (hA ++ [AB.dfd]).length = hA.length + 1 := by simp
    have xs : XS (hA ++ [AB.dfd] ++ [AB.loop false tm qs ca cb hA.length]) h2.length (hA.length + 1) (unnum (s.take 1)) (unnum ((s.drop 1).take 1)) ((unnum (((s.drop 1).drop 1).take 1) : Int) == 1) (.loop false tm qs ca cb hA.length) [] [h2.length] :=
      ⟨⟨.lst 0 [] true, kad.get x9 (by simp), ⟨by simp, .inl ⟨rfl, rfl, rfl⟩⟩⟩, by rw [← lD]; exact get_last _ _, by simp; omega⟩
    have H5 : HasL 95 7 [(5, .ptr h2.length 0 0)] tm := by
      refine HasL.sub ?_ H
      exact rfl
    obtain ⟨rr, hF, eF, sF⟩ := entries1_eq (n := m) (by omega) xs H5 hq hca hcb (r9.stays kad (by simp)) ⟨kd.get cN (by simp), kd.get cR (by simp), kd.get cL (by simp), kd.get cP (by simp)⟩ ln hpre (by simpa using hbX.symm) (by simp; omega)
    refine ⟨rr, hF, eF, ?_⟩
    have kk : Keep hp (hA ++ [AB.dfd] ++ [AB.loop false tm qs ca cb hA.length]) [b] := k09.trans kad (by simp)
    have hX2 : ∀ {h : AHeap}, Keep (hA ++ [AB.dfd] ++ [AB.loop false tm qs ca cb hA.length]) h (b :: [h2.length]) → Keep hp h [b] := fun k => kk.trans k (fun z hz => by
      simp at hz
      rcases hz with rfl | rfl
      · exact .inl (by simp)
      · exact .inr k02.1)
    have dD : (hA ++ [AB.dfd] ++ [AB.loop false tm qs ca cb hA.length])[hA.length]? = some .dfd := get_app (get_last _ _)
    have nD : hA.length ∉ b :: [h2.length] := by simp; omega
    cases hps : pents ((((((s.drop 1).drop 1).drop 1).drop 1).drop 2).take (unnum ((((s.drop 1).drop 1).drop 1).take 1))) (unnum ((s.drop 1).take 1)) (unnum (((((s.drop 1).drop 1).drop 1).drop 1).take 2)) 0 (((((((s.drop 1).drop 1).drop 1).drop 1).drop 2).drop (unnum ((((s.drop 1).drop 1).drop 1).take 1))).drop (2 * unnum (((((s.drop 1).drop 1).drop 1).drop 1).take 2))) with
    | none =>
      rw [hps] at sF
      obtain ⟨rfl, kF⟩ := sF
      have hpn' : pnode s = none := by rw [hpn, hps]; rfl
      refine hpan _ _ ⟨kF.get dD nD, ?_⟩
      show StepR (pnode s) (NodeR hp b) (fun h => Keep hp h [b]) (.pan badV) (hF.set hA.length .dead)
      rw [hpn']
      exact ⟨rfl, (hX2 kF).set' (.inr (by have := k09.1; omega))⟩
    | some p =>
      obtain ⟨es, t⟩ := p
      rw [hps] at sF
      obtain ⟨rfl, rF, G', xF, kF, gF⟩ := sF
      have hpn' : pnode s = some (⟨(unnum (s.take 1)), (unnum ((s.drop 1).take 1)), ((unnum (((s.drop 1).drop 1).take 1) : Int) == 1), es⟩, t) := by rw [hpn, hps]; rfl
      refine ⟨⟨_, _, _, _, _, xF.loop⟩, ?_⟩
      have xG := xF.lt
      obtain ⟨⟨L, n1, n2⟩, n3, n4⟩ := xF
      have nX : h2.length ≠ hA.length + 1 := by omega
      have hD1 := kF.get dD nD
      have gD : ∀ y ∈ G', y ≠ hA.length := fun y hy q => by
        rcases gF y hy with q2 | q2
        · simp at q2; omega
        · simp at q2; omega
      have e1 : (hF.set (hA.length + 1) .dead)[h2.length]? = some (AB.cells 0 (some 178) [i64 (unnum (s.take 1)), i64 (unnum ((s.drop 1).take 1)), .bool ((unnum (((s.drop 1).drop 1).take 1) : Int) == 1), L] 0) := by rw [List.getElem?_set_ne (Ne.symm nX)]; exact n1
      conv => whnf
      refine cutI (by decide) rfl (t := ⟨[(5, .ptr h2.length 0 0)], hF.set (hA.length + 1) .dead, [.col hA.length]⟩) ⟨rfl, rfl, rfl⟩ ?_
      conv => whnf
      refine ldI e1 ?_
      refine hret _ ⟨by rw [List.getElem?_set_ne (by omega)]; exact hD1, ?_⟩
      refine ⟨_, rfl, ?_⟩
      show StepR (pnode s) (NodeR hp b) (fun h => Keep hp h [b]) (.ret _) ((hF.set (hA.length + 1) .dead).set hA.length .dead)
      rw [hpn']
      have hlt := lt_of_get n1
      refine ⟨h2.length, L, G', rfl, ?_, ?_, ?_, by simp; exact hlt, ?_⟩
      · exact (rF.stays (Keep.set (F := [hA.length + 1]) (by simp)) (by simp; omega)).stays (Keep.set (F := [hA.length]) (by simp)) (by simp; omega)
      · exact n2.stays fun y hy _ => by
          rw [List.getElem?_set_ne (Ne.symm (gD y hy)), List.getElem?_set_ne (by rintro rfl; exact n4 hy)]
      · exact ((hX2 kF).set' (.inr (by have := k09.1; omega))).set' (.inr (by have := k09.1; omega))
      · intro y hy
        have l1 := k02.1
        have l2 := kk.1
        rcases gF y hy with q2 | q2
        · simp at q2; omega
        · omega
  rcases hk with rfl | rfl
  · conv => whnf
    exact rest _ ⟨rfl, rfl, rfl⟩ (fun _ h => h) (fun _ _ h => h)
  · conv => whnf
    exact rest _ ⟨rfl, rfl, rfl⟩ (fun _ h => h) (fun _ _ h => h)
end
end Go.Proofs
/- Contracts: bodies of pieces and of lists that are read. -/
set_option linter.unusedVariables false
set_option linter.unusedSimpArgs false
namespace Go.Proofs
open Go Go.Abs
def ppiece (s : Str) : Option ((Nat × Str) × Str) := (pnum 4 s).bind fun a => (pnum 2 a.2).bind fun z => (ptext z.1 z.2).map fun d => ((a.1, d.1), d.2)
def ppages : Nat → Str → Option (List Nat × Str)
  | 0, s => some ([], s)
  | k + 1, s => (pnum 4 s).bind fun a => (ppages k a.2).map fun r => (a.1 :: r.1, r.2)
def pfreeds : Nat → Str → Option (List (Nat × List Nat) × Str)
  | 0, s => some ([], s)
  | k + 1, s => (pnum 6 s).bind fun v => (pnum 2 v.2).bind fun z => (ppages z.1 z.2).bind fun p => (pfreeds k p.2).map fun r => ((v.1, p.1) :: r.1, r.2)
def plist (s : Str) : Option ((Nat × List (Nat × List Nat)) × Str) := (pnum 4 s).bind fun a => (pnum 2 a.2).bind fun z => (pfreeds z.1 z.2).map fun d => ((a.1, d.1), d.2)
section
variable {n : Nat} {hp : AHeap} {b : Nat} {s : Str}
def PieceR (hp : AHeap) (b : Nat) (x : Nat × Str) (t : Str) (r : CRes) (h : AHeap) : Prop :=
  r = .ret (.ifc 174 (.agg [i64 x.1, .str x.2])) ∧ RDs h b t ∧ Keep hp h [b]
theorem piece_rd (hn : 5 ≤ n) (r : RDs hp b s) :
    ∃ r h, C n 119 [.ptr b 0 0, i64 3] hp = some (r, h) ∧ StepR (ppiece s) (PieceR hp b) (fun h => Keep hp h [b]) r h := by
  obtain ⟨m, rfl⟩ : ∃ m, n = m + 1 := ⟨n - 1, by omega⟩
  refine fun_inlE (n := m) (c := cfg0) F119 rfl rfl ?_
  have hb := r.lt
  have bad : ∀ (h : AHeap), ppiece s = none → Keep hp h [b] → StepR (ppiece s) (PieceR hp b) (fun h => Keep hp h [b]) (.pan badV) h := fun h q k => by
    rw [q]
    exact ⟨rfl, k⟩
  conv => whnf
  refine rnumC (n := m) (hp := hp) (by omega) r 4 (by omega) (fun h1 q1 r1 k1 => ?_) (fun q => bad _ (by simp only [ppiece, pnum, if_neg (Nat.not_le.2 q), Option.bind_none]) (Keep.refl _ _))
  conv => whnf
  refine stI (get_last _ _) (by rfl) (by rfl) (by rfl) (by rfl) ?_
  have es1 : (h1 ++ [AB.cells 0 (some 174) [i64 0, .str []] 0]).set h1.length (AB.cells 0 (some 174) [i64 (unnum (s.take 4)), .str []] 0) = h1 ++ [AB.cells 0 (some 174) [i64 (unnum (s.take 4)), .str []] 0] := by simp
  have hbX : h1.length ≠ b := by have := r1.lt; omega
  have hbX' : h1.length ∉ [b] := by simpa using hbX
  have x2 : ((h1 ++ [AB.cells 0 (some 174) [i64 0, .str []] 0]).set h1.length (AB.cells 0 (some 174) [i64 (unnum (s.take 4)), .str []] 0))[h1.length]? = some (AB.cells 0 (some 174) [i64 (unnum (s.take 4)), .str []] 0) := by rw [es1]; exact get_last _ _
  have kx : Keep h1 ((h1 ++ [AB.cells 0 (some 174) [i64 0, .str []] 0]).set h1.length (AB.cells 0 (some 174) [i64 (unnum (s.take 4)), .str []] 0)) [] := by rw [es1]; exact Keep.app _ _ _
  have r2 := r1.stays kx (by simp)
  have k02 := k1.trans kx (by simp)
  conv => whnf
  refine rnumC (n := m) (hp := (h1 ++ [AB.cells 0 (some 174) [i64 0, .str []] 0]).set h1.length (AB.cells 0 (some 174) [i64 (unnum (s.take 4)), .str []] 0)) (by omega) r2 2 (by omega) (fun h3 q3 r3 k3 => ?_) (fun q => bad _ (by simp only [ppiece, pnum, if_pos q1, Option.bind_some, if_neg (Nat.not_le.2 q), Option.bind_none]) k02)
  have k03 := k02.trans k3 (fun z hz => .inl hz)
  have x3 := k3.get x2 hbX'
  have lz : unnum ((s.drop 4).take 2) < 65536 := Nat.lt_of_lt_of_eq (unnum_lt 2 _ (by rw [List.length_take]; omega)) (by decide)
  conv => whnf
  refine textC (n := m) (hp := h3) (by omega) r3 _ (by omega) (fun h4 q4 r4 k4 => ?_) (fun q => bad _ (by simp only [ppiece, pnum, ptext, if_pos q1, if_pos q3, Option.bind_some, if_neg (Nat.not_le.2 q), Option.map_none]) k03)
  have k04 := k03.trans k4 (fun z hz => .inl hz)
  have x4 := k4.get x3 hbX'
  conv => whnf
  refine stI x4 (by rfl) (by rfl) (by rfl) (by rfl) ?_
  conv => whnf
  refine ldI (List.getElem?_set_self (lt_of_get x4)) ?_
  refine ⟨_, rfl, ?_⟩
  show StepR (ppiece s) (PieceR hp b) (fun h => Keep hp h [b]) (.ret _) _
  have e : ppiece s = some ((unnum (s.take 4), ((s.drop 4).drop 2).take (unnum ((s.drop 4).take 2))), ((s.drop 4).drop 2).drop (unnum ((s.drop 4).take 2))) := by
    simp only [ppiece, pnum, ptext, if_pos q1, if_pos q3, if_pos q4, Option.bind_some, Option.map_some]
  rw [e]
  exact ⟨rfl, r4.stays (Keep.set (F := [h1.length]) (by simp)) (by simpa using hbX.symm), k04.set' (.inr k1.1)⟩
end
end Go.Proofs
/- Contracts: lists of freed pages that are read: the numbers of one. -/
set_option linter.unusedVariables false
set_option linter.unusedSimpArgs false
namespace Go.Proofs
open Go Go.Abs
theorem first_one (h : AHeap) (x : AV) (hx : x.cells? = some [x]) : firstA h 1 1 (.lst 1 [x] true) = some [x] := by
  unfold firstA
  simp only
  rw [if_pos ⟨Nat.le_refl _, .inl trivial⟩]
  simp [hx]
def row1 (ps : List Nat) : List (List AV) := ps.map fun p : Nat => [i64 p]
/-- The numbers that stand in a block of their own. -/
structure PG (hp : AHeap) (X : Nat) (ver : Int) (ps : List Nat) (G : List Nat) : Prop where
  ex : ∃ L, hp[X]? = some (.cells 0 (some 165) [i64 ver, L] 0) ∧ GBuf 3 1 hp X L (row1 ps) G
theorem PG.lt {hp : AHeap} {X : Nat} {ver : Int} {ps : List Nat} {G : List Nat} (h : PG hp X ver ps G) : ∀ x ∈ G, x < hp.length := by
  obtain ⟨L, h1, h2⟩ := h.ex
  exact h2.lt (lt_of_get h1)
theorem PG.stays {hp hp' : AHeap} {X : Nat} {ver : Int} {ps : List Nat} {G F : List Nat} (h : PG hp X ver ps G) (k : Keep hp hp' F) (hG : ∀ x ∈ G, x ∉ F) : PG hp' X ver ps G := by
  have hl := h.lt
  obtain ⟨L, h1, h2⟩ := h.ex
  exact ⟨L, k.get h1 (hG _ h2.mem), h2.stays fun x hx _ => k.2 x (hl x hx) (hG x hx)⟩
section
variable {hp : AHeap} {b : Nat} {s : Str}
theorem rpages_loop {m : Nat} (hm : 4 ≤ m) (r : RDs hp b s) {X : Nat} {ver : Int} (x : PG hp X ver [] [X]) (k : Nat) (hk : k < 65536) (v11 v68 v69 : AV) {Q : Ex → LS → Prop} {st : LS}
    (hs : LS.sub ⟨[(0, .ptr b 0 0), (11, v11), (12, .ptr X 0 0), (68, v68), (69, v69), (75, i64 k), (76, i64 0)], hp, []⟩ st)
    (hE : ∀ ps t G h, ppages k s = some (ps, t) → RDs h b t → PG h X ver ps G → Keep hp h [b, X] → (∀ z ∈ G, z = X ∨ hp.length ≤ z) → ∀ L, subL [(0, .ptr b 0 0), (11, v11), (12, .ptr X 0 0), (68, v68), (69, v69)] L → Q (.exit 5) ⟨L, h, []⟩)
    (hP : ∀ h L, ppages k s = none → Keep hp h [b, X] → Q (.pan badV) ⟨L, h, []⟩) :
    OkR Tryz.prog (C m) cfg0.inl KK 95 7 (.loop (c119.lp 1)) st Q := by
  have hbl := r.lt
  have hbX : b ≠ X := by
    rintro rfl
    obtain ⟨all, a, q, _⟩ := r
    obtain ⟨L, q2, _⟩ := x.ex
    rw [q] at q2; cases q2
  have hXl : X < hp.length := by obtain ⟨L, q2, _⟩ := x.ex; exact lt_of_get q2
  refine loopI (by decide) rfl (α := Nat × List Nat × Str × List Nat × AHeap) (fun y => ⟨[(0, .ptr b 0 0), (11, v11), (12, .ptr X 0 0), (68, v68), (69, v69), (75, i64 k), (76, i64 y.1)], y.2.2.2.2, []⟩)
    (fun y => y.1 ≤ k ∧ PG y.2.2.2.2 X ver y.2.1 y.2.2.2.1 ∧ RDs y.2.2.2.2 b y.2.2.1 ∧ Keep hp y.2.2.2.2 [b, X] ∧ (∀ z ∈ y.2.2.2.1, z = X ∨ hp.length ≤ z) ∧ y.2.1.length = y.1 ∧ ppages k s = (ppages (k - y.1) y.2.2.1).map fun q => (y.2.1 ++ q.1, q.2))
    (fun y => k - y.1) (0, [], s, [X], hp) hs ⟨Nat.zero_le _, x, r, Keep.refl _ _, fun z hz => .inl (by simpa using hz), rfl, by simp⟩ (by show k - 0 < KK; simp only [KK]; omega) ?_
  rintro ⟨j, ps, s1, G1, h1⟩ ⟨g1, g2, g3, g4, g5, g6, g7⟩
  simp only at g1 g2 g3 g4 g5 g6 g7
  have bG1 : b ∉ G1 := fun q => by
    rcases g5 _ q with q | q
    · exact hbX q
    · omega
  conv => whnf
  refine brd (fun a => ?_) (fun a => ?_)
  · have hj : j < k := by simp only at a; omega
    obtain ⟨d, hd⟩ : ∃ d, k - j = d + 1 := ⟨k - j - 1, by omega⟩
    have hd' : k - (j + 1) = d := by omega
    rw [hd] at g7
    simp only [ppages] at g7
    obtain ⟨L, x1, x2⟩ := g2.ex
    conv => whnf
    refine ldI x1 ?_
    conv => whnf
    refine rnumC (n := m) (hp := h1) (by omega) g3 4 (by omega) (fun h3 q3 r3 k3 => ?_) (fun q => ?_)
    · have x3 := k3.get x1 (by simpa using hbX.symm)
      have b3 : GBuf 3 1 h3 X L (row1 ps) G1 := x2.stays fun y hy hn => k3.2 y (x2.lt (lt_of_get x1) y hy) (by simp; rintro rfl; exact bG1 hy)
      have k03 : Keep hp h3 [b, X] := g4.trans k3 (fun z hz => .inl (by simp at hz; simp [hz]))
      have hlen : (row1 ps).length = j := by simp [row1, g6]
      obtain ⟨v, oh, ea, hp2, G', ehp2, p1, p2, p3, p4, xs, p5, p6⟩ := gbuf_app (x := .lst 1 [i64 (unnum (s1.take 4))] true) b3 (lt_of_get x3) rfl (first_one _ _ rfl) ⟨rfl, rfl⟩ (by rw [hlen]; omega)
      subst p6
      have f3 := p1.trans x3
      have next : ∀ (L' : LT), subL [(0, .ptr b 0 0), (11, v11), (12, .ptr X 0 0), (68, v68), (69, v69), (75, i64 k), (76, i64 ((j + 1 : Nat) : Int))] L' → ∃ y : Nat × List Nat × Str × List Nat × AHeap, (y.1 ≤ k ∧ PG y.2.2.2.2 X ver y.2.1 y.2.2.2.1 ∧ RDs y.2.2.2.2 b y.2.2.1 ∧ Keep hp y.2.2.2.2 [b, X] ∧ (∀ z ∈ y.2.2.2.1, z = X ∨ hp.length ≤ z) ∧ y.2.1.length = y.1 ∧ ppages k s = (ppages (k - y.1) y.2.2.1).map fun q => (y.2.1 ++ q.1, q.2)) ∧ k - y.1 < k - j ∧ LS.sub ⟨[(0, .ptr b 0 0), (11, v11), (12, .ptr X 0 0), (68, v68), (69, v69), (75, i64 k), (76, i64 y.1)], y.2.2.2.2, []⟩ ⟨L', hp2.set X (.cells 0 (some 165) (putAt [i64 ver, L] 1 [v]) 0), []⟩ := fun L' hL => by
        have eX : (hp2.set X (.cells 0 (some 165) (putAt [i64 ver, L] 1 [v]) 0))[X]? = some (.cells 0 (some 165) [i64 ver, v] 0) := by rw [List.getElem?_set_self (lt_of_get f3)]; rfl
        have kS : Keep h3 (hp2.set X (.cells 0 (some 165) (putAt [i64 ver, L] 1 [v]) 0)) G1 := p3.set' (.inl b3.mem)
        refine ⟨(j + 1, ps ++ [unnum (s1.take 4)], s1.drop 4, G', _), ⟨hj, ⟨v, eX, ?_⟩, r3.stays kS bG1, ?_, fun z hz => ?_, by simp [g6], ?_⟩, by simp only; omega, hL, rfl, rfl⟩
        · have : row1 (ps ++ [unnum (s1.take 4)]) = row1 ps ++ [[i64 (unnum (s1.take 4))]] := by simp [row1]
          rw [this]
          exact p2.stays fun y hy hn => by rw [List.getElem?_set_ne (Ne.symm hn)]
        · exact k03.trans kS (fun z hz => by
            rcases g5 z hz with q | q
            · exact .inl (by simp [q])
            · exact .inr q)
        · rcases p4 z hz with q | q
          · exact g5 z q
          · exact .inr (by have := k03.1; omega)
        · simp only
          rw [g7, hd']
          simp only [pnum, if_pos q3, Option.bind_some, Option.map_map]
          cases ppages d (s1.drop 4) with
          | none => rfl
          | some r => simp
      conv => whnf
      refine ⟨?_, ?_⟩
      · conv => whnf
        exact ldI x3 rfl
      conv => whnf
      refine ⟨rfl, ?_⟩
      refine ⟨_, ea, ?_⟩
      subst ehp2
      cases oh with
      | none =>
        conv => whnf
        refine stI f3 p5 (by rfl) (by rfl) (by rfl) ?_
        conv => whnf
        refine zI (z := ((j + 1 : Nat) : Int)) (by rw [wrap_i64 (by omega) (by omega)]; rfl) ?_
        exact next _ ⟨rfl, rfl, rfl, rfl, rfl, rfl, rfl⟩
      | some h2 =>
        conv => whnf
        refine stI f3 p5 (by rfl) (by rfl) (by rfl) ?_
        conv => whnf
        refine zI (z := ((j + 1 : Nat) : Int)) (by rw [wrap_i64 (by omega) (by omega)]; rfl) ?_
        exact next _ ⟨rfl, rfl, rfl, rfl, rfl, rfl, rfl⟩
    · conv => whnf
      exact hP _ _ (by rw [g7]; simp only [pnum, if_neg (Nat.not_le.2 q), Option.bind_none, Option.map_none]) g4
  · have hj : j = k := by simp only at a; omega
    subst hj
    conv => whnf
    refine hE ps s1 G1 h1 ?_ g3 g2 g4 g5 _ ⟨rfl, rfl, rfl, rfl, rfl⟩
    rw [g7, Nat.sub_self]
    simp [ppages]
end
end Go.Proofs
/- Contracts: lists of freed pages that are read. -/
set_option linter.unusedVariables false
set_option linter.unusedSimpArgs false
namespace Go.Proofs
open Go Go.Abs
/-- A list of numbers in memory. -/
def Inr (h : AHeap) (ps : List Nat) (L : AV) (I : List Nat) : Prop := (L = .lst 0 [] true ∧ ps = []) ∨ ∃ eb ver frz, L = .sl 1 eb ver 0 ps.length ∧ h[eb]? = some (.cells ver (some 3) (ps.map fun p : Nat => i64 p) frz) ∧ eb ∈ I
theorem Inr.stays {h h' : AHeap} {ps : List Nat} {L : AV} {I I' : List Nat} (r : Inr h ps L I) (e : ∀ x ∈ I, h'[x]? = h[x]?) (hs : ∀ x ∈ I, x ∈ I') : Inr h' ps L I' := by
  rcases r with r | ⟨eb, ver, frz, r1, r2, r3⟩
  · exact .inl r
  · exact .inr ⟨eb, ver, frz, r1, by rw [e eb r3]; exact r2, hs eb r3⟩
theorem Inr.scal {h : AHeap} {ps : List Nat} {L : AV} {I : List Nat} (r : Inr h ps L I) : AV.scal L = true := by
  rcases r with ⟨rfl, _⟩ | ⟨eb, ver, frz, rfl, _⟩ <;> rfl
theorem row1_flat : ∀ ps : List Nat, (row1 ps).flatten = ps.map fun p : Nat => i64 p
  | [] => rfl
  | p :: r => by
    have := row1_flat r
    simp only [row1, List.map_cons, List.flatten_cons] at this ⊢
    rw [this]; rfl
theorem GBuf.inr {h : AHeap} {X : Nat} {L : AV} {ps : List Nat} {G : List Nat} (g : GBuf 3 1 h X L (row1 ps) G) : Inr h ps L G := by
  rcases g.2 with ⟨h1, h2, h3⟩ | ⟨eb, ver, frz, h1, h2, h3, h4, h5⟩
  · left
    refine ⟨h1, ?_⟩
    cases ps with
    | nil => rfl
    | cons a r => simp [row1] at h2
  · right
    refine ⟨eb, ver, frz, ?_, ?_, by rw [h5]; simp⟩
    · rw [h1]; simp [row1]
    · rw [h2, row1_flat]
theorem two_scal {x : Int} {L : AV} (h : AV.scal L = true) : ([i64 x, L] : List AV).all AV.scal = true := by
  simp only [List.all_cons, List.all_nil, h, Bool.and_true]; rfl
theorem two_cells {x : Int} {L : AV} (h : AV.scal L = true) : AV.cells? (.agg [i64 x, L]) = some [i64 x, L] := by
  show (if ([i64 x, L] : List AV).all AV.scal = true then some [i64 x, L] else none) = _
  rw [if_pos (two_scal h)]
abbrev FT : Type := Nat × List Nat × AV
def rowF (t : FT) : List AV := [i64 t.1, t.2.2]
def ofF (t : FT) : Nat × List Nat := (t.1, t.2.1)
/-- A list of freed pages in memory: the slice, the lists in it. -/
structure LV (h : AHeap) (Y : Nat) (LL : AV) (ts : List FT) (G I : List Nat) : Prop where
  buf : GBuf 165 2 h Y LL (ts.map rowF) G
  inr : ∀ t ∈ ts, Inr h t.2.1 t.2.2 I
theorem LV.stays {h h' : AHeap} {Y : Nat} {LL : AV} {ts : List FT} {G I : List Nat} (v : LV h Y LL ts G I) (e : ∀ x ∈ G, x ≠ Y → h'[x]? = h[x]?) (ei : ∀ x ∈ I, h'[x]? = h[x]?) : LV h' Y LL ts G I :=
  ⟨v.buf.stays e, fun t ht => (v.inr t ht).stays ei fun _ h => h⟩
section
variable {hp : AHeap} {b : Nat} {s : Str}
theorem freeds_loop {m : Nat} (hm : 4 ≤ m) (r : RDs hp b s) {Y : Nat} {next : Int} (y0 : hp[Y]? = some (.cells 0 (some 176) [i64 next, .lst 0 [] true] 0)) (k : Nat) (hk : k < 65536) {Q : Ex → LS → Prop} {st : LS}
    (hs : LS.sub ⟨[(0, .ptr b 0 0), (11, .ptr Y 0 0), (68, i64 k), (69, i64 0)], hp, []⟩ st)
    (hE : ∀ ts t G I LL h, pfreeds k s = some (ts.map ofF, t) → RDs h b t → h[Y]? = some (.cells 0 (some 176) [i64 next, LL] 0) → LV h Y LL ts G I → Keep hp h [b, Y] → (∀ z ∈ G, z = Y ∨ hp.length ≤ z) → (∀ z ∈ I, hp.length ≤ z) → ∀ L, subL [(11, .ptr Y 0 0)] L → Q (.exit 3) ⟨L, h, []⟩)
    (hP : ∀ h L, pfreeds k s = none → Keep hp h [b, Y] → Q (.pan badV) ⟨L, h, []⟩) :
    OkR Tryz.prog (C m) cfg0.inl KK 95 7 (.loop (c119.lp 0)) st Q := by
  have hbl := r.lt
  have hYl := lt_of_get y0
  have hbY : b ≠ Y := by
    rintro rfl
    obtain ⟨all, a, q, _⟩ := r
    rw [q] at y0; cases y0
  refine loopI (by decide) rfl (α := Nat × List FT × Str × List Nat × List Nat × AV × AHeap) (fun y => ⟨[(0, .ptr b 0 0), (11, .ptr Y 0 0), (68, i64 k), (69, i64 y.1)], y.2.2.2.2.2.2, []⟩)
    (fun y => y.1 ≤ k ∧ y.2.2.2.2.2.2[Y]? = some (.cells 0 (some 176) [i64 next, y.2.2.2.2.2.1] 0) ∧ LV y.2.2.2.2.2.2 Y y.2.2.2.2.2.1 y.2.1 y.2.2.2.1 y.2.2.2.2.1 ∧ RDs y.2.2.2.2.2.2 b y.2.2.1 ∧ Keep hp y.2.2.2.2.2.2 [b, Y] ∧ (∀ z ∈ y.2.2.2.1, z = Y ∨ hp.length ≤ z) ∧ (∀ z ∈ y.2.2.2.2.1, hp.length ≤ z ∧ z ∉ y.2.2.2.1 ∧ z < y.2.2.2.2.2.2.length) ∧ y.2.1.length = y.1 ∧ pfreeds k s = (pfreeds (k - y.1) y.2.2.1).map fun q => (y.2.1.map ofF ++ q.1, q.2))
    (fun y => k - y.1) (0, [], s, [Y], [], .lst 0 [] true, hp) hs ⟨Nat.zero_le _, y0, ⟨⟨by simp, .inl ⟨rfl, rfl, rfl⟩⟩, by simp⟩, r, Keep.refl _ _, fun z hz => .inl (by simpa using hz), by simp, rfl, by simp⟩ (by show k - 0 < KK; simp only [KK]; omega) ?_
  rintro ⟨j, ts, s1, G1, I1, LL, h1⟩ ⟨g1, g2, g3, g4, g5, g6, g7, g8, g9⟩
  simp only at g1 g2 g3 g4 g5 g6 g7 g8 g9
  have bG1 : b ∉ G1 := fun q => by
    rcases g6 _ q with q | q
    · exact hbY q
    · omega
  have bI1 : b ∉ I1 := fun q => by have := (g7 _ q).1; omega
  conv => whnf
  refine brd (fun a => ?_) (fun a => ?_)
  · have hj : j < k := by simp only at a; omega
    obtain ⟨d, hd⟩ : ∃ d, k - j = d + 1 := ⟨k - j - 1, by omega⟩
    have hd' : k - (j + 1) = d := by omega
    rw [hd] at g9
    simp only [pfreeds] at g9
    conv => whnf
    refine rnumC (n := m) (hp := h1) (by omega) g4 6 (by omega) (fun h2 q2 r2 k2 => ?_) (fun q => ?_)
    · have k02 : Keep hp h2 [b, Y] := g5.trans k2 (fun z hz => .inl (by simp at hz; simp [hz]))
      conv => whnf
      refine stI (get_last _ _) (by rfl) (by rfl) (by rfl) (by rfl) ?_
      have es2 : (h2 ++ [AB.cells 0 (some 165) [i64 0, .lst 0 [] true] 0]).set h2.length (AB.cells 0 (some 165) [i64 (unnum (s1.take 6)), .lst 0 [] true] 0) = h2 ++ [AB.cells 0 (some 165) [i64 (unnum (s1.take 6)), .lst 0 [] true] 0] := by simp
      have hbX : b ≠ h2.length := by have := r2.lt; omega
      have hYX : Y ≠ h2.length := by have := k2.1; have := lt_of_get g2; omega
      have x3 : ((h2 ++ [AB.cells 0 (some 165) [i64 0, .lst 0 [] true] 0]).set h2.length (AB.cells 0 (some 165) [i64 (unnum (s1.take 6)), .lst 0 [] true] 0))[h2.length]? = some (AB.cells 0 (some 165) [i64 (unnum (s1.take 6)), .lst 0 [] true] 0) := by rw [es2]; exact get_last _ _
      have kx : Keep h2 ((h2 ++ [AB.cells 0 (some 165) [i64 0, .lst 0 [] true] 0]).set h2.length (AB.cells 0 (some 165) [i64 (unnum (s1.take 6)), .lst 0 [] true] 0)) [] := by rw [es2]; exact Keep.app _ _ _
      have r3 := r2.stays kx (by simp)
      have k03 := k02.trans kx (by simp)
      conv => whnf
      refine rnumC (n := m) (hp := (h2 ++ [AB.cells 0 (some 165) [i64 0, .lst 0 [] true] 0]).set h2.length (AB.cells 0 (some 165) [i64 (unnum (s1.take 6)), .lst 0 [] true] 0)) (by omega) r3 2 (by omega) (fun h4 q4 r4 k4 => ?_) (fun q => ?_)
      · have x4 := k4.get x3 (by simpa using hbX.symm)
        have k04 : Keep hp h4 [b, Y] := k03.trans k4 (fun z hz => .inl (by simp at hz; simp [hz]))
        have lz : unnum ((s1.drop 6).take 2) < 65536 := Nat.lt_of_lt_of_eq (unnum_lt 2 _ (by rw [List.length_take]; omega)) (by decide)
        have hX1 : h1.length ≤ h2.length := k2.1
        conv => whnf
        refine rpages_loop (hp := h4) hm r4 (X := h2.length) (ver := (unnum (s1.take 6) : Nat)) ⟨_, x4, ⟨by simp [row1], .inl ⟨rfl, rfl, rfl⟩⟩⟩ _ lz (.ptr Y 0 0) (i64 k) (i64 j) ⟨⟨rfl, rfl, rfl, rfl, rfl, rfl, rfl⟩, rfl, rfl⟩ (fun ps t G5 h5 e5 r5 x5 k5 g5' L5 hL5 => ?_) (fun h5 L5 e5 k5 => ?_)
        · have k15 : Keep h1 h5 [b] := ((k2.trans kx (by simp)).trans k4 (fun z hz => .inl hz)).trans k5 (fun z hz => by
            simp at hz
            rcases hz with rfl | rfl
            · exact .inl (by simp)
            · exact .inr hX1)
          have y5 := k15.get g2 (by simpa using hbY.symm)
          have lG1 := g3.buf.lt (lt_of_get g2)
          have l5 : LV h5 Y LL ts G1 I1 := g3.stays (fun x hx _ => k15.2 x (lG1 x hx) (by simp; rintro rfl; exact bG1 hx)) (fun x hx => k15.2 x (g7 x hx).2.2 (by simp; rintro rfl; exact bI1 hx))
          have lG5 := x5.lt
          obtain ⟨L, x5a, x5b⟩ := x5.ex
          have hi := x5b.inr
          have hsc := hi.scal
          have l14 : h1.length ≤ h4.length := ((k2.trans kx (by simp)).trans k4 (fun z hz => .inl hz)).1
          have gG5 : ∀ z ∈ G5, h1.length ≤ z := fun z hz => by
            rcases g5' z hz with q | q
            · omega
            · omega
          obtain ⟨v, oh, ea, hp2, G', ehp2, p1, p2, p3, p4, xs, p5, p6⟩ := gbuf_app (x := .lst 2 [.agg [i64 (unnum (s1.take 6)), L]] true) l5.buf (lt_of_get y5) rfl (first_agg _ rfl (two_cells hsc)) ⟨rfl, two_scal hsc⟩ (by simp only [List.length_map]; omega)
          subst p6
          have f5 := p1.trans y5
          have nxt : ∀ (L' : LT), subL [(0, .ptr b 0 0), (11, .ptr Y 0 0), (68, i64 k), (69, i64 ((j + 1 : Nat) : Int))] L' → ∃ y : Nat × List FT × Str × List Nat × List Nat × AV × AHeap, (y.1 ≤ k ∧ y.2.2.2.2.2.2[Y]? = some (.cells 0 (some 176) [i64 next, y.2.2.2.2.2.1] 0) ∧ LV y.2.2.2.2.2.2 Y y.2.2.2.2.2.1 y.2.1 y.2.2.2.1 y.2.2.2.2.1 ∧ RDs y.2.2.2.2.2.2 b y.2.2.1 ∧ Keep hp y.2.2.2.2.2.2 [b, Y] ∧ (∀ z ∈ y.2.2.2.1, z = Y ∨ hp.length ≤ z) ∧ (∀ z ∈ y.2.2.2.2.1, hp.length ≤ z ∧ z ∉ y.2.2.2.1 ∧ z < y.2.2.2.2.2.2.length) ∧ y.2.1.length = y.1 ∧ pfreeds k s = (pfreeds (k - y.1) y.2.2.1).map fun q => (y.2.1.map ofF ++ q.1, q.2)) ∧ k - y.1 < k - j ∧ LS.sub ⟨[(0, .ptr b 0 0), (11, .ptr Y 0 0), (68, i64 k), (69, i64 y.1)], y.2.2.2.2.2.2, []⟩ ⟨L', hp2.set Y (.cells 0 (some 176) (putAt [i64 next, LL] 1 [v]) 0), []⟩ := fun L' hL => by
            have kS : Keep h5 (hp2.set Y (.cells 0 (some 176) (putAt [i64 next, LL] 1 [v]) 0)) G1 := p3.set' (.inl l5.buf.mem)
            have eY : (hp2.set Y (.cells 0 (some 176) (putAt [i64 next, LL] 1 [v]) 0))[Y]? = some (.cells 0 (some 176) [i64 next, v] 0) := by rw [List.getElem?_set_self (lt_of_get f5)]; rfl
            have n5 : ∀ z ∈ G5, z ∉ G1 := fun z hz q => by have := gG5 z hz; have := lG1 z q; omega
            have sI : ∀ x ∈ I1, (hp2.set Y (.cells 0 (some 176) (putAt [i64 next, LL] 1 [v]) 0))[x]? = h5[x]? := fun x hx => kS.2 x (by have := (g7 x hx).2.2; have := k15.1; omega) (g7 x hx).2.1
            have s5 : ∀ x ∈ G5, (hp2.set Y (.cells 0 (some 176) (putAt [i64 next, LL] 1 [v]) 0))[x]? = h5[x]? := fun x hx => kS.2 x (lG5 x hx) (n5 x hx)
            have hl1 := g5.1
            have hl2 := k15.1
            have hl3 := kS.1
            refine ⟨(j + 1, ts ++ [(unnum (s1.take 6), ps, L)], t, G', I1 ++ G5, v, _), ⟨hj, eY, ⟨?_, fun u hu => ?_⟩, r5.stays kS bG1, ?_, fun z hz => ?_, fun z hz => ?_, by simp [g8], ?_⟩, by simp only; omega, hL, rfl, rfl⟩
            · rw [List.map_append]
              exact p2.stays fun y hy hn => by rw [List.getElem?_set_ne (Ne.symm hn)]
            · rcases List.mem_append.1 hu with hu | hu
              · exact (l5.inr u hu).stays sI fun x hx => List.mem_append.2 (.inl hx)
              · simp at hu
                subst hu
                exact hi.stays s5 fun x hx => List.mem_append.2 (.inr hx)
            · exact (g5.trans k15 (fun z hz => .inl (by simp at hz; simp [hz]))).trans kS (fun z hz => by
                rcases g6 z hz with q | q
                · exact .inl (by simp [q])
                · exact .inr q)
            · rcases p4 z hz with q | q
              · exact g6 z q
              · exact .inr (by omega)
            · rcases List.mem_append.1 hz with q | q
              · obtain ⟨a1, a2, a3⟩ := g7 z q
                refine ⟨a1, fun q2 => ?_, by simp only; omega⟩
                rcases p4 z q2 with q3 | q3
                · exact a2 q3
                · omega
              · have a1 := gG5 z q
                have a2 := lG5 z q
                refine ⟨by omega, fun q2 => ?_, by simp only; omega⟩
                rcases p4 z q2 with q3 | q3
                · exact n5 z q q3
                · omega
            · simp only
              rw [g9, hd']
              have e1 : pnum 6 s1 = some (unnum (s1.take 6), s1.drop 6) := by simp only [pnum, if_pos q2]
              have e2 : pnum 2 (s1.drop 6) = some (unnum ((s1.drop 6).take 2), (s1.drop 6).drop 2) := by simp only [pnum, if_pos q4]
              rw [e1]
              simp only [Option.bind_some]
              rw [e2]
              simp only [Option.bind_some]
              rw [e5]
              simp only [Option.bind_some, Option.map_map]
              cases pfreeds d t with
              | none => rfl
              | some r => simp [ofF]
          conv => whnf
          refine cutI (by decide) rfl (t := ⟨[(0, .ptr b 0 0), (11, .ptr Y 0 0), (12, .ptr h2.length 0 0), (68, i64 k), (69, i64 j)], h5, []⟩) ⟨hL5, rfl, rfl⟩ ?_
          subst ehp2
          rcases hi with ⟨rfl, e⟩ | ⟨eb, ver', frz', rfl, i1, i2⟩
          · conv => whnf
            refine ldI y5 ?_
            conv => whnf
            refine ldI x5a ?_
            conv => whnf
            refine ⟨rfl, ?_⟩
            refine ⟨_, ea, ?_⟩
            cases oh with
            | none =>
              conv => whnf
              refine stI f5 p5 (by rfl) (by rfl) (by rfl) ?_
              refine cutI (by decide) rfl (t := ⟨[(0, .ptr b 0 0), (11, .ptr Y 0 0), (68, i64 k), (69, i64 j)], _, []⟩) ⟨⟨rfl, rfl, rfl, rfl⟩, rfl, rfl⟩ ?_
              conv => whnf
              refine zI (z := ((j + 1 : Nat) : Int)) (by rw [wrap_i64 (by omega) (by omega)]; rfl) ?_
              exact nxt _ ⟨rfl, rfl, rfl, rfl⟩
            | some h9 =>
              conv => whnf
              refine stI f5 p5 (by rfl) (by rfl) (by rfl) ?_
              refine cutI (by decide) rfl (t := ⟨[(0, .ptr b 0 0), (11, .ptr Y 0 0), (68, i64 k), (69, i64 j)], _, []⟩) ⟨⟨rfl, rfl, rfl, rfl⟩, rfl, rfl⟩ ?_
              conv => whnf
              refine zI (z := ((j + 1 : Nat) : Int)) (by rw [wrap_i64 (by omega) (by omega)]; rfl) ?_
              exact nxt _ ⟨rfl, rfl, rfl, rfl⟩
          · conv => whnf
            refine ldI y5 ?_
            conv => whnf
            refine ldI x5a ?_
            conv => whnf
            refine ⟨rfl, ?_⟩
            refine ⟨_, ea, ?_⟩
            cases oh with
            | none =>
              conv => whnf
              refine stI f5 p5 (by rfl) (by rfl) (by rfl) ?_
              refine cutI (by decide) rfl (t := ⟨[(0, .ptr b 0 0), (11, .ptr Y 0 0), (68, i64 k), (69, i64 j)], _, []⟩) ⟨⟨rfl, rfl, rfl, rfl⟩, rfl, rfl⟩ ?_
              conv => whnf
              refine zI (z := ((j + 1 : Nat) : Int)) (by rw [wrap_i64 (by omega) (by omega)]; rfl) ?_
              exact nxt _ ⟨rfl, rfl, rfl, rfl⟩
            | some h9 =>
              conv => whnf
              refine stI f5 p5 (by rfl) (by rfl) (by rfl) ?_
              refine cutI (by decide) rfl (t := ⟨[(0, .ptr b 0 0), (11, .ptr Y 0 0), (68, i64 k), (69, i64 j)], _, []⟩) ⟨⟨rfl, rfl, rfl, rfl⟩, rfl, rfl⟩ ?_
              conv => whnf
              refine zI (z := ((j + 1 : Nat) : Int)) (by rw [wrap_i64 (by omega) (by omega)]; rfl) ?_
              exact nxt _ ⟨rfl, rfl, rfl, rfl⟩
        · conv => whnf
          refine hP _ _ ?_ (k04.trans k5 (fun z hz => ?_))
          · rw [g9]
            simp only [pnum, if_pos q2, if_pos q4, Option.bind_some, e5, Option.bind_none, Option.map_none]
          · simp at hz
            rcases hz with rfl | rfl
            · exact .inl (by simp)
            · exact .inr k02.1
      · conv => whnf
        exact hP _ _ (by rw [g9]; simp only [pnum, if_pos q2, Option.bind_some, if_neg (Nat.not_le.2 q), Option.bind_none, Option.map_none]) k03
    · conv => whnf
      exact hP _ _ (by rw [g9]; simp only [pnum, if_neg (Nat.not_le.2 q), Option.bind_none, Option.map_none]) g5
  · have hj : j = k := by simp only at a; omega
    subst hj
    conv => whnf
    refine hE ts s1 G1 I1 LL h1 ?_ g4 g2 g3 g5 g6 (fun z hz => (g7 z hz).1) _ rfl
    rw [g9, Nat.sub_self]
    simp [pfreeds]
end
end Go.Proofs
/- Contracts: bodies of lists that are read. -/
set_option linter.unusedVariables false
set_option linter.unusedSimpArgs false
namespace Go.Proofs
open Go Go.Abs
section
variable {n : Nat} {hp : AHeap} {b : Nat} {s : Str}
def ListR (hp : AHeap) (b : Nat) (x : Nat × List (Nat × List Nat)) (t : Str) (r : CRes) (h : AHeap) : Prop :=
  ∃ Y LL ts G I, r = .ret (.ifc 176 (.agg [i64 x.1, LL])) ∧ x.2 = ts.map ofF ∧ RDs h b t ∧ LV h Y LL ts G I ∧ Keep hp h [b] ∧ (∀ z ∈ G, hp.length ≤ z) ∧ (∀ z ∈ I, hp.length ≤ z)
theorem list_rd (hn : 5 ≤ n) (r : RDs hp b s) (kind : Int) (k1 : kind ≠ 1) (k2 : kind ≠ 2) (k3 : kind ≠ 3) :
    ∃ r h, C n 119 [.ptr b 0 0, i64 kind] hp = some (r, h) ∧ StepR (plist s) (ListR hp b) (fun h => Keep hp h [b]) r h := by
  obtain ⟨m, rfl⟩ : ∃ m, n = m + 1 := ⟨n - 1, by omega⟩
  refine fun_inlE (n := m) (c := cfg0) F119 rfl rfl ?_
  have hb := r.lt
  have bad : ∀ (h : AHeap), plist s = none → Keep hp h [b] → StepR (plist s) (ListR hp b) (fun h => Keep hp h [b]) (.pan badV) h := fun h q k => by
    rw [q]
    exact ⟨rfl, k⟩
  conv => whnf
  refine bre (fun e => absurd e k1) (fun _ => ?_)
  conv => whnf
  refine bre (fun e => absurd e k2) (fun _ => ?_)
  conv => whnf
  refine bre (fun e => absurd e k3) (fun _ => ?_)
  refine cutS (by decide) rfl ?_
  conv => whnf
  refine rnumC (n := m) (hp := hp) (by omega) r 4 (by omega) (fun h1 q1 r1 k1 => ?_) (fun q => bad _ (by simp only [plist, pnum, if_neg (Nat.not_le.2 q), Option.bind_none]) (Keep.refl _ _))
  conv => whnf
  refine stI (get_last _ _) (by rfl) (by rfl) (by rfl) (by rfl) ?_
  have es1 : (h1 ++ [AB.cells 0 (some 176) [i64 0, .lst 0 [] true] 0]).set h1.length (AB.cells 0 (some 176) [i64 (unnum (s.take 4)), .lst 0 [] true] 0) = h1 ++ [AB.cells 0 (some 176) [i64 (unnum (s.take 4)), .lst 0 [] true] 0] := by simp
  have hbX : h1.length ≠ b := by have := r1.lt; omega
  have hbX' : h1.length ∉ [b] := by simpa using hbX
  have x2 : ((h1 ++ [AB.cells 0 (some 176) [i64 0, .lst 0 [] true] 0]).set h1.length (AB.cells 0 (some 176) [i64 (unnum (s.take 4)), .lst 0 [] true] 0))[h1.length]? = some (AB.cells 0 (some 176) [i64 (unnum (s.take 4)), .lst 0 [] true] 0) := by rw [es1]; exact get_last _ _
  have kx : Keep h1 ((h1 ++ [AB.cells 0 (some 176) [i64 0, .lst 0 [] true] 0]).set h1.length (AB.cells 0 (some 176) [i64 (unnum (s.take 4)), .lst 0 [] true] 0)) [] := by rw [es1]; exact Keep.app _ _ _
  have r2 := r1.stays kx (by simp)
  have k02 := k1.trans kx (by simp)
  conv => whnf
  refine rnumC (n := m) (hp := (h1 ++ [AB.cells 0 (some 176) [i64 0, .lst 0 [] true] 0]).set h1.length (AB.cells 0 (some 176) [i64 (unnum (s.take 4)), .lst 0 [] true] 0)) (by omega) r2 2 (by omega) (fun h3 q3 r3 k3 => ?_) (fun q => bad _ (by simp only [plist, pnum, if_pos q1, Option.bind_some, if_neg (Nat.not_le.2 q), Option.bind_none]) k02)
  have k03 := k02.trans k3 (fun z hz => .inl hz)
  have x3 := k3.get x2 hbX'
  have lz : unnum ((s.drop 4).take 2) < 65536 := Nat.lt_of_lt_of_eq (unnum_lt 2 _ (by rw [List.length_take]; omega)) (by decide)
  have e0 : plist s = (pfreeds (unnum ((s.drop 4).take 2)) ((s.drop 4).drop 2)).map fun d => ((unnum (s.take 4), d.1), d.2) := by
    simp only [plist, pnum, if_pos q1, if_pos q3, Option.bind_some]
  have l13 : hp.length ≤ h1.length := k1.1
  have l3 : hp.length ≤ h3.length := k03.1
  conv => whnf
  refine freeds_loop (hp := h3) (by omega) r3 (Y := h1.length) (next := (unnum (s.take 4) : Nat)) x3 _ lz ⟨⟨rfl, rfl, rfl, rfl⟩, rfl, rfl⟩ (fun ts t G I LL h e5 r5 y5 l5 k5 g5 i5 L5 hL5 => ?_) (fun h L e5 k5 => ?_)
  · refine cutI (by decide) rfl (t := ⟨[(11, .ptr h1.length 0 0)], h, []⟩) ⟨hL5, rfl, rfl⟩ ?_
    conv => whnf
    refine ldI y5 ?_
    refine ⟨_, rfl, ?_⟩
    show StepR (plist s) (ListR hp b) (fun h => Keep hp h [b]) (.ret _) _
    rw [e0, e5]
    refine ⟨h1.length, LL, ts, G, I, rfl, rfl, r5, l5, k03.trans k5 (fun z hz => ?_), fun z hz => ?_, fun z hz => ?_⟩
    · simp at hz
      rcases hz with rfl | rfl
      · exact .inl (by simp)
      · exact .inr l13
    · rcases g5 z hz with q | q
      · omega
      · omega
    · have := i5 z hz
      omega
  · refine bad h (by rw [e0, e5]; rfl) (k03.trans k5 (fun z hz => ?_))
    simp at hz
    rcases hz with rfl | rfl
    · exact .inl (by simp)
    · exact .inr l13
end
end Go.Proofs
/- What is read, taken out of its memory. -/
set_option linter.unusedVariables false
set_option linter.unusedSimpArgs false
namespace Go.Proofs
open Go Go.Abs
theorem chunk_rows {sz : Nat} : ∀ {rows : List (List AV)}, (∀ r ∈ rows, r.length = sz) → chunk sz rows.length rows.flatten = rows
  | [], _ => rfl
  | a :: r, h => by
    have h1 := h a (List.mem_cons_self ..)
    show (a ++ r.flatten).take sz :: chunk sz r.length ((a ++ r.flatten).drop sz) = _
    rw [← h1, List.take_left', List.drop_left']
    · rw [h1, chunk_rows fun x hx => h x (List.mem_cons_of_mem _ hx)]
    · rfl
    · rfl
theorem rows_len {sz : Nat} : ∀ {rows : List (List AV)}, (∀ r ∈ rows, r.length = sz) → rows.flatten.length = rows.length * sz
  | [], _ => by simp
  | a :: r, h => by
    have h1 := h a (List.mem_cons_self ..)
    have h2 := rows_len fun x hx => h x (List.mem_cons_of_mem _ hx)
    simp only [List.flatten_cons, List.length_append, List.length_cons, h1, h2]
    rw [Nat.add_mul]; omega
theorem allM_app {f : AV → Option AV} : ∀ {a a' b b' : List AV}, allM f a = some a' → allM f b = some b' → allM f (a ++ b) = some (a' ++ b')
  | [], a', b, b', h1, h2 => by
    unfold allM at h1
    cases h1
    exact h2
  | x :: xs, a', b, b', h1, h2 => by
    unfold allM at h1
    split at h1
    · rename_i y ys hx hxs
      cases h1
      show allM f (x :: (xs ++ b)) = _
      unfold allM
      rw [hx, allM_app hxs h2]
      rfl
    · cases h1
theorem frz_sl {h : AHeap} {n sz eb ver frz : Nat} {el : Option TypeId} {rows rows' : List (List AV)} (hz : sz ≠ 1) (hb : h[eb]? = some (.cells ver el rows.flatten frz)) (hr : ∀ r ∈ rows, r.length = sz) (ha : allM (Abs.frz h n) rows.flatten = some rows'.flatten)
    (hr' : ∀ r ∈ rows', r.length = sz ∧ r.all AV.scal = true) (hl : rows'.length = rows.length) : Abs.frz h (n + 1) (.sl sz eb ver 0 rows.length) = some (.lst sz (rows'.map .agg) false) := by
  unfold Abs.frz
  simp only [hb]
  have hlen := rows_len hr
  rw [if_pos ⟨trivial, by rw [hlen]; omega⟩]
  have h1 : (rows.flatten.drop 0).take (rows.length * sz) = rows.flatten := by rw [List.drop_zero]; exact List.take_of_length_le (by rw [hlen]; exact Nat.le_refl _)
  rw [h1, ha]
  simp only
  have h2 := (flatten_len hr').2
  rw [if_pos h2]
  unfold elemsA
  rw [if_neg hz]
  have e : isAggD (TypeDesc.struct #[]) = true := rfl
  simp only [e, if_true]
  rw [← hl, chunk_rows fun r hm => (hr' r hm).1]
theorem frz_sl1 {h : AHeap} {n eb ver frz : Nat} {el : Option TypeId} {ps : List Nat} (hb : h[eb]? = some (.cells ver el (ps.map fun p : Nat => i64 p) frz)) : Abs.frz h (n + 2) (.sl 1 eb ver 0 ps.length) = some (.lst 1 (ps.map fun p : Nat => i64 p) false) := by
  unfold Abs.frz
  simp only [hb]
  have hlen : (ps.map fun p : Nat => i64 p).length = ps.length * 1 := by simp
  rw [if_pos ⟨trivial, by rw [hlen]; omega⟩]
  have h1 : ((ps.map fun p : Nat => i64 p).drop 0).take (ps.length * 1) = ps.map fun p : Nat => i64 p := by rw [List.drop_zero]; exact List.take_of_length_le (by rw [hlen]; exact Nat.le_refl _)
  have h2 : allM (Abs.frz h (n + 1)) (ps.map fun p : Nat => i64 p) = some (ps.map fun p : Nat => i64 p) := allM_id fun x hx => by
    obtain ⟨p, _, rfl⟩ := List.mem_map.1 hx
    rfl
  rw [h1, h2]
  simp only
  rw [if_pos (by rw [List.all_eq_true]; intro x hx; obtain ⟨p, _, rfl⟩ := List.mem_map.1 hx; rfl)]
  rfl
theorem cells_frz {n : Nat} (e : Entry) : ∀ x ∈ e.cells, FrzOk (n + 1) x := fun x hx => by
  simp only [Entry.cells, Dg.cells, List.mem_cons, List.not_mem_nil, or_false] at hx
  rcases hx with rfl | rfl | rfl | rfl | rfl | rfl | rfl | rfl | rfl | rfl | rfl | rfl | rfl | rfl | rfl | rfl | rfl | rfl | rfl | rfl | rfl | rfl <;> intro h <;> rfl
/-- Entries that were read. -/
theorem frz_ents {h : AHeap} {X : Nat} {L : AV} {es : List Entry} {G : List Nat} (g : GBuf 56 22 h X L (es.map Entry.cells) G) (n : Nat) : ∃ sh : Sh, Abs.frz h (n + 2) L = some (.lst sh.sz (es.map Entry.av) sh.c) ∧ (es ≠ [] → sh.sz = 22) := by
  have hr : ∀ r ∈ es.map Entry.cells, r.length = 22 ∧ r.all AV.scal = true := g.1
  rcases g.2 with ⟨rfl, h2, _⟩ | ⟨eb, ver, frz, rfl, h2, _⟩
  · have : es = [] := by simpa using h2
    subst this
    exact ⟨⟨0, true⟩, rfl, fun h => (h rfl).elim⟩
  · refine ⟨⟨22, false⟩, ?_, fun _ => rfl⟩
    rw [frz_sl (by decide) h2 (fun r hm => (hr r hm).1) (allM_id fun x hx => ?_) hr rfl]
    · rw [List.map_map]; rfl
    · obtain ⟨r, hm, hx⟩ := List.mem_flatten.1 hx
      obtain ⟨e, _, rfl⟩ := List.mem_map.1 hm
      exact cells_frz e x hx h
theorem frz_inr {h : AHeap} {ps : List Nat} {L : AV} {I : List Nat} (r : Inr h ps L I) (n : Nat) : ∃ sh : Sh, Abs.frz h (n + 2) L = some (.lst sh.sz ((ps.map fun p : Nat => (p : Int)).map i64) sh.c) ∧ (ps ≠ [] → sh.sz = 1) := by
  rcases r with ⟨rfl, rfl⟩ | ⟨eb, ver, frz, rfl, h2, _⟩
  · exact ⟨⟨0, true⟩, rfl, fun h => (h rfl).elim⟩
  · refine ⟨⟨1, false⟩, ?_, fun _ => rfl⟩
    rw [frz_sl1 h2, List.map_map]
    rfl
def FreedIs (f : Freed) (t : Nat × List Nat) : Prop := f.ver = t.1 ∧ f.pages = t.2.map (fun p : Nat => (p : Int)) ∧ f.Ok
inductive FsAre : List Freed → List (Nat × List Nat) → Prop
  | nil : FsAre [] []
  | cons {f : Freed} {t : Nat × List Nat} {fs : List Freed} {ts : List (Nat × List Nat)} (h : FreedIs f t) (r : FsAre fs ts) : FsAre (f :: fs) (t :: ts)
theorem FsAre.length_eq : ∀ {fs : List Freed} {ts : List (Nat × List Nat)}, FsAre fs ts → fs.length = ts.length
  | _, _, .nil => rfl
  | _, _, .cons _ r => by simp [r.length_eq]
theorem frz_rows {h : AHeap} {I : List Nat} (n : Nat) : ∀ {ts : List FT}, (∀ t ∈ ts, Inr h t.2.1 t.2.2 I) → ∃ fs : List Freed, allM (Abs.frz h (n + 2)) (ts.map rowF).flatten = some (fs.map Freed.cells).flatten ∧ FsAre fs (ts.map ofF)
  | [], _ => ⟨[], rfl, .nil⟩
  | t :: r, hi => by
    obtain ⟨fs, h1, h2⟩ := frz_rows n fun u hu => hi u (List.mem_cons_of_mem _ hu)
    obtain ⟨sh, h3, h4⟩ := frz_inr (hi t (List.mem_cons_self ..)) n
    refine ⟨⟨t.1, sh, t.2.1.map fun p : Nat => (p : Int)⟩ :: fs, ?_, .cons ⟨rfl, rfl, fun q => h4 fun e => q (by show List.map _ t.2.1 = []; rw [e]; rfl)⟩ h2⟩
    refine allM_app (a := rowF t) (a' := Freed.cells ⟨t.1, sh, t.2.1.map fun p : Nat => (p : Int)⟩) ?_ h1
    show allM (Abs.frz h (n + 2)) [i64 t.1, t.2.2] = some [i64 t.1, _]
    unfold allM allM
    rw [h3]
    rfl
theorem frz_list {h : AHeap} {Y : Nat} {LL : AV} {ts : List FT} {G I : List Nat} (v : LV h Y LL ts G I) (n : Nat) : ∃ (sh : Sh) (fs : List Freed), Abs.frz h (n + 3) LL = some (.lst sh.sz (fs.map Freed.av) sh.c) ∧ (fs ≠ [] → sh.sz = 2) ∧ FsAre fs (ts.map ofF) := by
  obtain ⟨fs, h1, h2⟩ := frz_rows n v.inr
  rcases v.buf.2 with ⟨rfl, h3, _⟩ | ⟨eb, ver, frz, rfl, h3, _⟩
  · have : ts = [] := by simpa using h3
    subst this
    exact ⟨⟨0, true⟩, [], rfl, fun h => (h rfl).elim, .nil⟩
  · refine ⟨⟨2, false⟩, fs, ?_, fun _ => rfl, h2⟩
    have e := h2.length_eq
    rw [frz_sl (by decide) h3 (fun r hm => (v.buf.1 r hm).1) h1 (fun r hm => by
      obtain ⟨f, _, rfl⟩ := List.mem_map.1 hm
      exact ⟨rfl, rfl⟩) (by simpa using e)]
    rw [List.map_map]; rfl
section
variable {n : Nat} {f : FuncId} {rc : RC} {args : List AV} {np nt d : Nat} {rs : List ResultVar}
/-- A function in a memory of its own: it ends somehow. -/
theorem fun_pureX {S : CRes → Prop} (F : FunIs Tryz.prog cfg0.inl f np nt d rs rc) (hi : cfg0.inl f = false) (hs : cfg0.sum f args = none) (hl : args.length = np) (hp : pureBs args = true)
    (W : Wp Tryz.prog (C n) cfg0.inl KK nt d rc ⟨paramL 0 args, [], []⟩ (EndQ Tryz.prog (C n) cfg0.inl rs (fun r h => ∃ r', OutR r' r h ∧ S r'))) : ∃ r', (∀ h, C (n + 1) f args h = some (r', h)) ∧ S r' := by
  obtain ⟨r, h', h1, r', ho, h2⟩ := body_wp2 F hl W
  have hlt : f < Tryz.prog.funcs.size := by
    obtain ⟨fn, hfn, _⟩ := F.fn
    rcases Nat.lt_or_ge f Tryz.prog.funcs.size with h | h
    · exact h
    · rw [Array.getElem?_eq_none h] at hfn; cases hfn
  refine ⟨r', fun h => ?_, h2⟩
  show CN _ _ _ _ _ _ = _
  unfold CN callN
  simp only [hi, hs, Bool.false_eq_true, if_false, hp, hlt, decide_true, Bool.and_self, if_true]
  unfold pureA
  change bodyA _ (callN _ _ _ _ _) (drawA _ _ (callN _ _ _ _ _)) _ _ _ _ = _ at h1
  rw [h1]
  cases r with
  | ret v => obtain ⟨w, e1, e2⟩ := ho; subst e2; simp only [CRes.map?, e1, Option.map_some]
  | pan v => obtain ⟨w, e1, e2⟩ := ho; subst e2; simp only [CRes.map?, e1, Option.map_some]
end
end Go.Proofs
/- Slices that grow, held by a variable. -/
set_option linter.unusedVariables false
set_option linter.unusedSimpArgs false
namespace Go.Proofs
open Go Go.Abs
theorem apI {h : AHeap} {e : TypeId} {sz : Nat} {a b v : AV} {h' : AHeap} {K : AV → AHeap → Prop} (h1 : appR h e sz a b = some (v, some h')) (h2 : K v h') : ∃ r, appR h e sz a b = r ∧ WpA K h r := ⟨_, h1, h2⟩
/-- A slice that grows, held by a variable: its rows of cells. -/
def VBuf (el : TypeId) (sz : Nat) (hp : AHeap) (L : AV) (rows : List (List AV)) : Prop :=
  (∀ r ∈ rows, r.length = sz ∧ r.all AV.scal = true) ∧ ((L = .lst 0 [] true ∧ rows = []) ∨ (∃ eb ver frz, L = .sl sz eb ver 0 rows.length ∧ hp[eb]? = some (.cells ver (some el) rows.flatten frz) ∧ frz ≤ rows.flatten.length))
theorem VBuf.nil {el sz : Nat} {hp : AHeap} : VBuf el sz hp (.lst 0 [] true) [] := ⟨by simp, .inl ⟨rfl, rfl⟩⟩
theorem VBuf.scal {el sz : Nat} {hp : AHeap} {L : AV} {rows : List (List AV)} (b : VBuf el sz hp L rows) : L.scal = true ∧ L.cells? = some [L] := by
  rcases b.2 with ⟨rfl, _⟩ | ⟨eb, ver, frz, rfl, _⟩ <;> exact ⟨rfl, rfl⟩
theorem VBuf.grow {el sz : Nat} {hp : AHeap} {L : AV} {rows : List (List AV)} (b : VBuf el sz hp L rows) (xs : AHeap) : VBuf el sz (hp ++ xs) L rows := by
  refine ⟨b.1, ?_⟩
  rcases b.2 with h | ⟨eb, ver, frz, h1, h2, h3⟩
  · exact .inl h
  · exact .inr ⟨eb, ver, frz, h1, by rw [List.getElem?_append_left (lt_of_get h2)]; exact h2, h3⟩
/-- What lies elsewhere may change. -/
theorem VBuf.set {el sz : Nat} {hp : AHeap} {L : AV} {rows : List (List AV)} (b : VBuf el sz hp L rows) {k : Nat} (x : AB) (hk : ∀ eb ver, L ≠ .sl sz eb ver 0 rows.length ∨ eb ≠ k) : VBuf el sz (hp.set k x) L rows := by
  refine ⟨b.1, ?_⟩
  rcases b.2 with h | ⟨eb, ver, frz, h1, h2, h3⟩
  · exact .inl h
  · refine .inr ⟨eb, ver, frz, h1, ?_, h3⟩
    rcases hk eb ver with q | q
    · exact (q h1).elim
    · rw [List.getElem?_set_ne (Ne.symm q)]; exact h2
theorem VBuf.fresh {el sz : Nat} {hp : AHeap} {L : AV} {rows : List (List AV)} (b : VBuf el sz hp L rows) {k : Nat} (x : AB) (hk : hp.length ≤ k) (xs : AHeap) : VBuf el sz ((hp ++ xs).set k x) L rows := by
  refine ⟨b.1, ?_⟩
  rcases b.2 with h | ⟨eb, ver, frz, h1, h2, h3⟩
  · exact .inl h
  · refine .inr ⟨eb, ver, frz, h1, ?_, h3⟩
    have := lt_of_get h2
    rw [List.getElem?_set_ne (by omega), List.getElem?_append_left this]; exact h2
theorem vbuf_app {el sz : Nat} {hp : AHeap} {L x : AV} {rows : List (List AV)} {row : List AV} (hB : VBuf el sz hp L rows) (h1 : lenA x = some 1) (h2 : firstA hp sz 1 x = some row) (hr : row.length = sz ∧ row.all AV.scal = true) (hl : rows.length + 1 ≤ 1073741824) :
    ∃ v hp', appR hp el sz L x = some (v, some hp') ∧ VBuf el sz hp' v (rows ++ [row]) ∧ hp.length ≤ hp'.length := by
  have hrows : ∀ r ∈ rows ++ [row], r.length = sz ∧ r.all AV.scal = true := by
    intro r hm
    simp at hm
    rcases hm with hm | rfl
    · exact hB.1 r hm
    · exact hr
  unfold appR
  rw [h1]
  simp only
  rw [h2]
  simp only [hr.2, Bool.not_true, Bool.false_eq_true, if_false]
  rcases hB.2 with ⟨rfl, rfl⟩ | ⟨bb, ver, frz, rfl, g1, g3⟩
  · simp only
    rw [if_neg (by decide)]
    have h3 : firstA hp sz ([] : List AV).length (.lst 0 [] true) = some [] := by
      unfold firstA
      simp
    rw [h3]
    simp only [List.length_nil, Nat.zero_add]
    rw [if_pos ⟨by decide, rfl⟩]
    exact ⟨_, _, rfl, ⟨hrows, .inr ⟨hp.length, 0, 0, rfl, by simp, Nat.zero_le _⟩⟩, by simp⟩
  · have hf := flatten_len hB.1
    simp only
    rw [g1]
    simp only
    rw [if_pos ⟨.inl trivial, trivial, trivial, trivial, hf.1.symm, hf.2, hl, g3⟩, if_neg (by decide)]
    refine ⟨_, _, rfl, ⟨hrows, .inr ⟨bb, ver + 1, frz, by simp, ?_, by rw [List.flatten_append, List.length_append]; omega⟩⟩, by simp⟩
    rw [List.getElem?_set_self (lt_of_get g1)]; simp
theorem vflatten_ones : ∀ xs : List AV, (xs.map fun x => [x]).flatten = xs
  | [] => rfl
  | a :: r => by simp [vflatten_ones r]
theorem vfirst_one (h : AHeap) {x : AV} {c : Bool} (hs : x.cells? = some [x]) : firstA h 1 1 (.lst 1 [x] c) = some [x] := by
  unfold firstA
  simp only
  rw [if_pos ⟨Nat.le_refl _, .inl trivial⟩]
  simp [hs]
/-- A slice of one-celled elements, taken out of its memory. -/
theorem vbuf_frz {el : TypeId} {hp : AHeap} {L : AV} {xs : List AV} {n : Nat} (b : VBuf el 1 hp L (xs.map fun x => [x])) (hx : ∀ x ∈ xs, Abs.frz hp n x = some x) : ∃ sh : Sh, Abs.frz hp (n + 1) L = some (.lst sh.sz xs sh.c) ∧ (xs ≠ [] → sh.sz = 1) := by
  rcases b.2 with ⟨rfl, h2⟩ | ⟨eb, ver, frz, rfl, h2, _⟩
  · have : xs = [] := by simpa using h2
    subst this
    exact ⟨⟨0, true⟩, rfl, fun h => (h rfl).elim⟩
  · refine ⟨⟨1, false⟩, ?_, fun _ => rfl⟩
    rw [vflatten_ones] at h2
    unfold Abs.frz
    simp only [h2, List.length_map]
    rw [if_pos ⟨trivial, by omega⟩]
    have h1 : (xs.drop 0).take (xs.length * 1) = xs := by rw [List.drop_zero]; exact List.take_of_length_le (by omega)
    rw [h1, allM_id hx]
    simp only
    have hs : xs.all AV.scal = true := by
      rw [List.all_eq_true]
      intro x hm
      have := (b.1 [x] (List.mem_map.2 ⟨x, hm, rfl⟩)).2
      simpa using this
    rw [if_pos hs]
    rfl
theorem app_ints (h : AHeap) (l : List Int) (c : Bool) (hne : l ≠ []) (hl : l.length ≤ 1073741824) : appR h 3 1 (.lst 1 [] true) (.lst 1 (l.map i64) c) = some (.sl 1 h.length 0 0 l.length, some (h ++ [.cells 0 (some 3) (l.map i64) 0])) := by
  have hn : l.length ≠ 0 := fun e => hne (List.length_eq_zero_iff.1 e)
  have h5 : (l.map i64).all AV.scal = true := by
    rw [List.all_eq_true]; intro x hx; obtain ⟨k, _, rfl⟩ := List.mem_map.1 hx; rfl
  unfold appR
  have h1 : lenA (.lst 1 (l.map i64) c) = some l.length := by simp [lenA]
  rw [h1]
  simp only
  have h3 : firstA h 1 l.length (.lst 1 (l.map i64) c) = some (l.map i64) := by
    unfold firstA
    simp only [List.length_map]
    rw [if_pos ⟨Nat.le_refl _, .inl trivial⟩]
    have h1 : (l.map i64).take l.length = l.map i64 := List.take_of_length_le (by simp)
    rw [h1]
    have h2 : (l.map i64).map AV.cells? = l.map fun e => some [i64 e] := by rw [List.map_map]; rfl
    rw [h2]
    rw [if_pos (by rw [List.all_eq_true]; intro x hx; obtain ⟨e, _, rfl⟩ := List.mem_map.1 hx; rfl)]
    congr 1
    rw [List.flatMap_map]
    have : ∀ l : List Int, (l.flatMap fun e => (some [i64 e]).getD []) = l.map i64 := fun l => by
      induction l with
      | nil => rfl
      | cons a r ih => simp [List.flatMap_cons] at ih ⊢; exact ih
    exact this l
  rw [h3]
  simp only
  rw [if_neg (by simp [h5]), if_neg hn]
  have h2 : firstA h 1 ([] : List AV).length (.lst 1 [] true) = some [] := rfl
  rw [h2]
  simp only
  rw [if_pos ⟨by simpa using hl, rfl⟩]
  simp
end Go.Proofs
/- Contracts of functions of a page: weights of lists. -/
set_option linter.unusedVariables false
set_option linter.unusedSimpArgs false
namespace Go.Proofs
open Go Go.Abs
section
variable {n : Nat} {h : AHeap}

theorem weight_eq (hn : 5 ≤ n) (l : List Entry) (hl : l.length < 1099511627776) (he : ∀ e ∈ l, e.Ok) (lv : Int) (sz : Nat) (hz : l ≠ [] → sz = 22) (c : Bool) : C n 48 [.lst sz (l.map Entry.av) c, i64 lv] h = some (.ret (weightR l lv), h) := by
  obtain ⟨m, rfl⟩ : ∃ m, n = m + 1 := ⟨n - 1, by omega⟩
  refine fun_pure F48 rfl rfl rfl (pure_lst entry_pure l rfl) ?_
  conv => whnf
  refine clI (within_eq (by omega) _ _ _) ?_
  conv => whnf
  refine br (fun a => ?_) (fun a => ?_)
  · conv => whnf
    refine retP rfl (Eq.trans (frz_ii rfl rfl) (congrArg some ?_))
    simp at a; simp [weightR, weight, a]
  · simp at a
    conv => whnf
    refine loopI (by decide) rfl (α := Nat × Int × AHeap) (fun x => ⟨[(1, i64 lv), (6, i64 x.2.1), (14, .lst sz (l.map Entry.av) c), (15, i64 l.length), (16, i64 x.1)], x.2.2, []⟩)
      (fun x => x.1 ≤ l.length ∧ wsum lv (l.take x.1) = some (x.2.1 - 6) ∧ x.2.1 ≤ 6 + 117 * x.1 ∧ 6 ≤ x.2.1) (fun x => l.length - x.1) (0, 6, []) ?_ ?_ ?_ ?_
    · exact ⟨⟨rfl, rfl, rfl, lenI _ _, rfl⟩, rfl, rfl⟩
    · simp [wsum]
    · show l.length - 0 < KK; simp only [KK]; omega
    · rintro ⟨j, s, hp⟩ ⟨g1, g2, g3, g4⟩
      conv => whnf
      refine br (fun b => ?_) (fun b => ?_)
      · have hj : j < l.length := by simp at b; omega
        conv => whnf
        refine ixL entry_cells hj hz ?_
        conv => whnf
        refine stI (get_last _ _) (by rfl) (by rfl) (by rfl) (by rfl) ?_
        conv => whnf
        refine ldI (get_set_last _ _ _) ?_
        conv => whnf
        refine clI (weigh_eq (by omega) l[j] (he _ (List.getElem_mem hj)) lv) ?_
        conv => whnf
        have hw := wsum_take hj g2
        refine br (fun d => ?_) (fun d => ?_)
        · conv => whnf
          refine retP rfl (Eq.trans (frz_ii rfl rfl) (congrArg some ?_))
          simp at d
          simp [d] at hw
          simp [weightR, weight, a, wsum_none hw]
        · simp at d
          have hb := weigh_bound d
          simp [d] at hw
          simp only at g3 g4
          refine zI (wrap_i64 (z := s + weighW l[j] lv) (by omega) (by omega)) ?_
          conv => whnf
          refine zI (z := ((j + 1 : Nat) : Int)) (by rw [wrap_i64 (by omega) (by omega)]; rfl) ?_
          exact ⟨(j + 1, s + weighW l[j] lv, _), ⟨hj, hw.trans (congrArg some (by simp only; omega)), by simp only; omega, by simp only; omega⟩, by simp only; omega, ⟨rfl, rfl, rfl, rfl, rfl⟩, rfl, rfl⟩
      · have hj : j = l.length := by simp at b; omega
        subst hj
        rw [List.take_length] at g2
        conv => whnf
        refine cutI (by decide) rfl (t := ⟨[(6, i64 s)], hp, []⟩) ⟨rfl, rfl, rfl⟩ ?_
        conv => whnf
        refine retP rfl (Eq.trans (frz_ii rfl rfl) (congrArg some ?_))
        simp [weightR, weight, a, g2]; omega
end
end Go.Proofs
/- Contracts of functions of a page: valid entries. -/
set_option linter.unusedVariables false
set_option linter.unusedSimpArgs false
namespace Go.Proofs
open Go Go.Abs
instance : Inhabited Entry := ⟨⟨[], [], 0, 0, 0, 0, Dg.zero⟩⟩

def keyAt (l : List Entry) (j : Nat) : Str := (l.getD j default).key
/-- An entry is valid, behind those in front of it. -/
def vAt (lv : Int) (l : List Entry) (j : Nat) : Bool :=
  (if lv = 0 then formOf (l.getD j default) != 0 else branches (l.getD j default) && (j == 0 || keyAt l j != [])) && (j == 0 || decide (cmpS (keyAt l (j - 1)) (keyAt l j) < 0))
def valid (l : List Entry) (lv : Int) : Bool :=
  within lv 0 20 && l != [] && (lv == 0 || (decide (2 ≤ l.length) && keyAt l 0 == [])) && (List.range l.length).all (vAt lv l)

theorem valid_bad {l : List Entry} {lv : Int} {j : Nat} (hj : j < l.length) (hb : vAt lv l j = false) : valid l lv = false := by
  have : (List.range l.length).all (vAt lv l) = false := by
    rw [List.all_eq_false]
    exact ⟨j, List.mem_range.2 hj, by simp [hb]⟩
  simp [valid, this]
theorem valid_good {l : List Entry} {lv : Int} (h1 : within lv 0 20 = true) (h2 : l ≠ []) (h3 : lv = 0 ∨ (2 ≤ l.length ∧ keyAt l 0 = [])) (h4 : ∀ i, i < l.length → vAt lv l i = true) : valid l lv = true := by
  have : (List.range l.length).all (vAt lv l) = true := by
    rw [List.all_eq_true]
    exact fun i hi => h4 i (List.mem_range.1 hi)
  simp [valid, this, h1, h2]
  exact h3

theorem getD_at {l : List Entry} {j : Nat} (hj : j < l.length) : l[j] = l.getD j default := by simp [hj]

theorem vAt_unf {lv : Int} {l : List Entry} {j : Nat} (hj : j < l.length) : vAt lv l j = ((if lv = 0 then formOf l[j] != 0 else branches l[j] && (decide (j = 0) || l[j].key != [])) && (decide (j = 0) || decide (cmpS l[j - 1].key l[j].key < 0))) := by
  have h1 : l.getD j default = l[j] := by simp [hj]
  have h2 : l.getD (j - 1) default = l[j - 1] := by simp [show j - 1 < l.length by omega]
  have h3 : (j == 0) = decide (j = 0) := by by_cases e : j = 0 <;> simp [e]
  unfold vAt keyAt
  rw [h1, h2, h3]

section
variable {n : Nat} {h : AHeap}
theorem valid_loop {m : Nat} (hn : 4 ≤ m) (l : List Entry) (hl : l.length < 1099511627776) (lv : Int) (sz : Nat) (hz : l ≠ [] → sz = 22) (c : Bool) (W : 0 ≤ lv) {Q : Ex → LS → Prop} {s : LS}
    (hs : LS.sub ⟨[(0, .lst sz (l.map Entry.av) c), (1, i64 lv), (31, .lst sz (l.map Entry.av) c), (32, i64 l.length), (33, i64 0)], [], []⟩ s)
    (hE : (∀ i, i < l.length → vAt lv l i = true) → ∀ L hp, Q (.exit 0) ⟨L, hp, []⟩) (hR : ∀ j, j < l.length → vAt lv l j = false → ∀ L hp, lk L 4 = some (.bool false) → Q .ret ⟨L, hp, []⟩) :
    OkR Tryz.prog (C m) cfg0.inl KK 78 7 (.loop (c85.lp 0)) s Q := by
  refine loopI (by decide) rfl (α := Nat × AHeap) (fun x => ⟨[(0, .lst sz (l.map Entry.av) c), (1, i64 lv), (31, .lst sz (l.map Entry.av) c), (32, i64 l.length), (33, i64 x.1)], x.2, []⟩)
    (fun x => x.1 ≤ l.length ∧ ∀ i, i < x.1 → vAt lv l i = true) (fun x => l.length - x.1) (0, []) hs ?_ ?_ ?_
  · exact ⟨Nat.zero_le _, fun i hi => absurd hi (Nat.not_lt_zero _)⟩
  · show l.length - 0 < KK; simp only [KK]; omega
  · rintro ⟨j, hp⟩ ⟨g1, g2⟩
    simp only at g1 g2
    conv => whnf
    refine brd (fun b => ?_) (fun b => ?_)
    · have hj : j < l.length := by simp only at b; omega
      have hg : l.getD j default = l[j] := by simp [hj]
      have ext : vAt lv l j = true → ∀ i, i < j + 1 → vAt lv l i = true := fun hv i hi => by
        by_cases e : i = j
        · rw [e]; exact hv
        · exact g2 i (by omega)
      conv => whnf
      refine ixL entry_cells hj hz ?_
      conv => whnf
      refine stI (get_last _ _) (by rfl) (by rfl) (by rfl) (by rfl) ?_
      repeat' (conv => whnf); first
        | (exfalso; omega)
        | refine brd (fun _ => ?_) (fun _ => ?_)
        | refine bre (fun _ => ?_) (fun _ => ?_)
        | refine brn (fun _ => ?_) (fun _ => ?_)
        | refine ldI (get_set_last _ _ _) ?_
        | refine ixL entry_cells (l := l) (j := j - 1) (by omega) hz ?_
        | refine clI (formOf_eq (by omega) l[j]) ?_
        | refine clI (branches_eq (by omega) l[j]) ?_
        | refine clI (compare_eq (by omega) _ _) ?_
        | refine zI (z := ((j - 1 : Nat) : Int)) (by rw [wrap_i64 (by omega) (by omega)]; omega) ?_
        | refine zI (z := ((j + 1 : Nat) : Int)) (by rw [wrap_i64 (by omega) (by omega)]; rfl) ?_
        | refine hR j hj ?_ _ _ rfl
        | refine nxI (j + 1, _) ⟨hj, ext ?_⟩ (by simp only; omega) ⟨⟨rfl, rfl, rfl, rfl, rfl⟩, rfl, rfl⟩
      all_goals rw [vAt_unf hj]
      all_goals try simp only at *
      all_goals by_cases hj0 : j = 0
      all_goals simp_all
      all_goals omega
    · have hj : j = l.length := by simp only at b; omega
      subst hj
      conv => whnf
      exact hE g2 _ _
theorem valid_eq (hn : 5 ≤ n) (l : List Entry) (hl : l.length < 1099511627776) (lv : Int) (sz : Nat) (hz : l ≠ [] → sz = 22) (c : Bool) : C n 85 [.lst sz (l.map Entry.av) c, i64 lv] h = some (.ret (.bool (valid l lv)), h) := by
  obtain ⟨m, rfl⟩ : ∃ m, n = m + 1 := ⟨n - 1, by omega⟩
  refine fun_pure F85 rfl rfl rfl (pure_lst entry_pure l rfl) ?_
  conv => whnf
  refine clI (within_eq (by omega) _ _ _) ?_
  conv => whnf
  refine brn (fun a => ?_) (fun a => ?_)
  · conv => whnf
    refine retP rfl (frz_bool ?_)
    simp [valid, a]
  conv => whnf
  refine bre (fun b => ?_) (fun b => ?_)
  · conv => whnf
    refine retP rfl (frz_bool ?_)
    simp at b
    simp [valid, b]
  have hne : l ≠ [] := by intro e; subst e; simp at b
  have hsz := hz hne
  subst hsz
  have h0 : 0 < l.length := by cases l with | nil => exact (hne rfl).elim | cons => simp
  have k0 : l[0].key = keyAt l 0 := by simp [keyAt, h0]
  have W := within_iff.1 a
  conv => whnf
  refine brd (fun d => ?_) (fun d => ?_)
  · conv => whnf
    refine brd (fun f => ?_) (fun f => ?_)
    · conv => whnf
      refine retP rfl (frz_bool ?_)
      simp at f
      have : ¬ 2 ≤ l.length := by omega
      have : lv ≠ 0 := by omega
      simp [valid, *]
    · conv => whnf
      refine ixL entry_cells (j := 0) h0 (fun _ => rfl) ?_
      conv => whnf
      refine brq (fun g => ?_) (fun g => ?_)
      · conv => whnf
        refine retP rfl (frz_bool ?_)
        rw [k0] at g
        have : lv ≠ 0 := by omega
        simp [valid, *]
      · conv => whnf
        rw [k0] at g
        simp at f
        refine valid_loop (by omega) l hl lv 22 (fun _ => rfl) c (by omega) ⟨⟨rfl, rfl, rfl, lenI _ _, rfl⟩, rfl, rfl⟩ (fun e L hp => ?_) (fun j hj e L hp hk => ?_)
        · refine cutI (by decide) rfl (t := ⟨[], hp, []⟩) ⟨trivial, rfl, rfl⟩ ?_
          conv => whnf
          exact retP rfl (frz_bool (valid_good a hne (.inr ⟨by omega, g⟩) e).symm)
        · exact retK hk (frz_bool (valid_bad hj e).symm)
  · conv => whnf
    refine valid_loop (by omega) l hl lv 22 (fun _ => rfl) c (by omega) ⟨⟨rfl, rfl, rfl, lenI _ _, rfl⟩, rfl, rfl⟩ (fun e L hp => ?_) (fun j hj e L hp hk => ?_)
    · refine cutI (by decide) rfl (t := ⟨[], hp, []⟩) ⟨trivial, rfl, rfl⟩ ?_
      conv => whnf
      exact retP rfl (frz_bool (valid_good a hne (.inl (by omega)) e).symm)
    · exact retK hk (frz_bool (valid_bad hj e).symm)
end
end Go.Proofs
/- Contracts: numbers of pages. -/
set_option linter.unusedVariables false
set_option linter.unusedSimpArgs false
namespace Go.Proofs
open Go Go.Abs
/-- A call that is known in memory. -/
theorem fun_mem {n : Nat} {f : FuncId} {args : List AV} {h h' : AHeap} {v : AV} (hi : cfg0.inl f = true) (hlt : f < Tryz.prog.funcs.size) (hm : cfg0.mem f args h = some (v, h')) : C (n + 1) f args h = some (.ret v, h') := by
  show CN _ _ _ _ _ _ = _
  unfold CN callN
  simp only [hi, if_true, hm]
  rw [if_neg (Nat.not_le.2 hlt)]
section
variable {n : Nat} {h hp : AHeap} {l : List Int}
theorem sortN_eq (hn : 1 ≤ n) {b : Nat} (hl : l.length < 4611686018427387904) (hb : hp[b]? = some (.cells 0 (some 3) (l.map i64) 0)) : C n 130 [.sl 1 b 0 0 l.length] hp = some (.ret (.tup []), hp.set b (.cells 0 (some 3) ((sortZ l).map i64) 0)) := by
  obtain ⟨m, rfl⟩ : ∃ m, n = m + 1 := ⟨n - 1, by omega⟩
  refine fun_mem (by kernel_rfl) (of_decide_eq_true (by kernel_rfl)) ?_
  refine Eq.trans (show cfg0.mem 130 [.sl 1 b 0 0 l.length] hp = sortA [.sl 1 b 0 0 l.length] hp from rfl) ?_
  unfold sortA
  simp only [hb]
  rw [map_ints]
  simp only
  rw [if_pos ⟨trivial, trivial, hl⟩]
theorem compN_eq (hn : 1 ≤ n) {b : Nat} (hl : l.length < 4611686018427387904) (hb : hp[b]? = some (.cells 0 (some 3) (l.map i64) 0)) : ∃ hp', C n 131 [.sl 1 b 0 0 l.length] hp = some (.ret (.sl 1 b 0 0 (Lib.compact l).length), hp') ∧ hp' = hp.set b (.cells 0 (some 3) ((Lib.compact l ++ List.replicate (l.length - (Lib.compact l).length) 0).map i64) 0) := by
  obtain ⟨m, rfl⟩ : ∃ m, n = m + 1 := ⟨n - 1, by omega⟩
  refine ⟨_, fun_mem (by kernel_rfl) (of_decide_eq_true (by kernel_rfl)) ?_, rfl⟩
  refine Eq.trans (show cfg0.mem 131 [.sl 1 b 0 0 l.length] hp = compA [.sl 1 b 0 0 l.length] hp from rfl) ?_
  unfold compA
  simp only [hb]
  rw [map_ints]
  simp only
  rw [if_pos ⟨trivial, trivial, hl⟩]
theorem sort0_eq (hn : 1 ≤ n) (sz : Nat) (c : Bool) : C n 130 [.lst sz [] c] hp = some (.ret (.tup []), hp) := by
  obtain ⟨m, rfl⟩ : ∃ m, n = m + 1 := ⟨n - 1, by omega⟩
  exact fun_mem (by kernel_rfl) (of_decide_eq_true (by kernel_rfl)) (show cfg0.mem 130 [.lst sz [] c] hp = some (.tup [], hp) from rfl)
theorem comp0_eq (hn : 1 ≤ n) (sz : Nat) (c : Bool) : C n 131 [.lst sz [] c] hp = some (.ret (.lst sz [] c), hp) := by
  obtain ⟨m, rfl⟩ : ∃ m, n = m + 1 := ⟨n - 1, by omega⟩
  exact fun_mem (by kernel_rfl) (of_decide_eq_true (by kernel_rfl)) (show cfg0.mem 131 [.lst sz [] c] hp = some (.lst sz [] c, hp) from rfl)
theorem clone0_eq (hn : 1 ≤ n) (sz : Nat) (c : Bool) : C n 102 [.lst sz [] c] hp = some (.ret (.lst 1 [] true), hp) := by
  obtain ⟨m, rfl⟩ : ∃ m, n = m + 1 := ⟨n - 1, by omega⟩
  exact fun_mem (by kernel_rfl) (of_decide_eq_true (by kernel_rfl)) (show cfg0.mem 102 [.lst sz [] c] hp = some (.lst 1 [] true, hp) from rfl)
theorem cloneN_eq (hn : 1 ≤ n) (hne : l ≠ []) (hl : l.length < 1073741824) (c : Bool) : C n 102 [.lst 1 (l.map i64) c] hp = some (.ret (.sl 1 hp.length 0 0 l.length), hp ++ [.cells 0 (some 3) (l.map i64) 0]) := by
  obtain ⟨m, rfl⟩ : ∃ m, n = m + 1 := ⟨n - 1, by omega⟩
  obtain ⟨a, r, rfl⟩ : ∃ a r, l = a :: r := by cases l with | nil => exact (hne rfl).elim | cons a r => exact ⟨a, r, rfl⟩
  refine fun_inl F102 rfl rfl ?_
  conv => whnf
  refine rawI (v := .bool false) (h' := hp) (by rfl) (by kernel_rfl) ?_
  conv => whnf
  refine ⟨rfl, ?_⟩
  conv => whnf
  refine apI (app_ints hp (a :: r) c hne (by omega)) ?_
  conv => whnf
  exact ⟨rfl, _, rfl, rfl, rfl⟩
theorem numbers1_eq (hn : 3 ≤ n) (k : Int) : C n 133 [i64 k] h = some (.ret (.bool (!numbered k)), h) := by
  obtain ⟨m, rfl⟩ : ∃ m, n = m + 1 := ⟨n - 1, by omega⟩
  refine fun_pure F133 rfl rfl rfl rfl ?_
  conv => whnf
  refine clI (numbered_eq (by omega) k) ?_
  conv => whnf
  exact retP rfl (frz_bool rfl)
/-- Where the first number lies that is none of a page. -/
def idxBad (l : List Int) : Int := if l.all numbered then -1 else ((l.findIdx fun k => !numbered k : Nat) : Int)
theorem idxBad_iff (l : List Int) : 0 ≤ idxBad l ↔ l.all numbered = false := by
  unfold idxBad
  cases l.all numbered <;> simp
theorem ints_pure (l : List Int) {sz : Nat} {c : Bool} {r : List AV} (hr : pureBs r = true) : pureBs (.lst sz (l.map i64) c :: r) = true := pure_lst (f := i64) (fun _ => rfl) l hr
theorem idx_eq (hn : 4 ≤ n) (l : List Int) (hl : l.length < 1099511627776) (sz : Nat) (hz : l ≠ [] → sz = 1) (c : Bool) : C n 164 [.lst sz (l.map i64) c, .fn (.func 133) [] []] h = some (.ret (i64 (idxBad l)), h) := by
  obtain ⟨m, rfl⟩ : ∃ m, n = m + 1 := ⟨n - 1, by omega⟩
  have cF : ∀ (k : Int) h, C m 133 [i64 k] h = some (.ret (.bool (!numbered k)), h) := fun k h => numbers1_eq (by omega) k
  have fine : fnOk Tryz.prog 133 = true := by kernel_rfl
  refine fun_pure F164 rfl rfl rfl (ints_pure l rfl) ?_
  conv => whnf
  refine loopI (by decide) rfl (α := Nat) (fun x => ⟨[(0, .lst sz (l.map i64) c), (1, .fn (.func 133) [] []), (7, i64 l.length), (8, i64 x)], [], []⟩)
    (fun x => x ≤ l.length ∧ ∀ i (hi : i < l.length), i < x → numbered l[i] = true) (fun x => l.length - x) 0 ⟨⟨rfl, rfl, lenI _ _, rfl⟩, rfl, rfl⟩ ⟨Nat.zero_le _, fun i _ hi => absurd hi (Nat.not_lt_zero _)⟩ (by show l.length - 0 < KK; simp only [KK]; omega) ?_
  rintro j ⟨g1, g2⟩
  conv => whnf
  refine brd (fun a => ?_) (fun a => ?_)
  · have hj : j < l.length := by omega
    have hne : l ≠ [] := by rintro rfl; simp at hj
    conv => whnf
    refine ⟨by omega, hz hne, i64 l[j], by simp [hj], [i64 l[j]], rfl, ?_⟩
    conv => whnf
    refine cvI fine (cF l[j] _) ?_
    conv => whnf
    refine brn (fun d => ?_) (fun d => ?_)
    · conv => whnf
      refine retP rfl (frz_int ?_)
      have h1 : l.all numbered = false := by
        rw [List.all_eq_false]
        exact ⟨l[j], List.getElem_mem hj, by simp [d]⟩
      have h2 : (l.findIdx fun k => !numbered k) = j := by
        rw [List.findIdx_eq hj]
        exact ⟨by simp [d], fun i hi => by simp [g2 i (by omega) hi]⟩
      unfold idxBad
      rw [h1, h2]
      rfl
    · conv => whnf
      refine zI (z := ((j + 1 : Nat) : Int)) (by rw [wrap_i64 (by omega) (by omega)]; rfl) ?_
      refine nxI (j + 1) ⟨hj, fun i hi hij => ?_⟩ (by omega) ⟨⟨rfl, rfl, rfl, rfl⟩, rfl, rfl⟩
      by_cases e : i = j
      · subst e; exact d
      · exact g2 i hi (by omega)
  · have hj : j = l.length := by omega
    conv => whnf
    refine cutI (by decide) rfl (t := ⟨[], [], []⟩) ⟨trivial, rfl, rfl⟩ ?_
    conv => whnf
    refine retP rfl (frz_int ?_)
    have h1 : l.all numbered = true := by
      rw [List.all_eq_true]
      intro x hx
      obtain ⟨i, hi, rfl⟩ := List.mem_iff_getElem.1 hx
      exact g2 i hi (by omega)
    unfold idxBad
    rw [h1]
    rfl
theorem contains_eq (hn : 5 ≤ n) (l : List Int) (hl : l.length < 1099511627776) (sz : Nat) (hz : l ≠ [] → sz = 1) (c : Bool) : C n 132 [.lst sz (l.map i64) c, .fn (.func 133) [] []] h = some (.ret (.bool (!l.all numbered)), h) := by
  obtain ⟨m, rfl⟩ : ∃ m, n = m + 1 := ⟨n - 1, by omega⟩
  refine fun_pure F132 rfl rfl rfl (ints_pure l rfl) ?_
  conv => whnf
  refine clI (idx_eq (by omega) l hl sz hz c) ?_
  conv => whnf
  refine retP rfl (frz_bool ?_)
  rw [Bool.eq_iff_iff]
  simp only [decide_eq_true_eq, ge_iff_le]
  rw [idxBad_iff]
  cases l.all numbered <;> simp
/-- Numbers of pages are different ones, and a version is one. -/
def numsOk (l : List Int) (v : Int) : Bool := decide l.Nodup && (l.all numbered && within v 0 1099511627776)
theorem numbers_eq (hn : 6 ≤ n) (l : List Int) (hl : l.length < 1073741824) (sz : Nat) (hz : l ≠ [] → sz = 1) (c : Bool) (v : Int) : C n 92 [.lst sz (l.map i64) c, i64 v] h = some (.ret (.bool (numsOk l v)), h) := by
  obtain ⟨m, rfl⟩ : ∃ m, n = m + 1 := ⟨n - 1, by omega⟩
  have cC : ∀ h, C m 132 [.lst sz (l.map i64) c, .fn (.func 133) [] []] h = some (.ret (.bool (!l.all numbered)), h) := fun h => contains_eq (by omega) l (by omega) sz hz c
  have cW : ∀ h, C m 71 [i64 v, i64 0, i64 1099511627776] h = some (.ret (.bool (within v 0 1099511627776)), h) := fun h => within_eq (by omega) _ _ _
  refine fun_pure F92 rfl rfl rfl (ints_pure l rfl) ?_
  conv => whnf
  by_cases hne : l = []
  · subst hne
    refine clI (clone0_eq (by omega) sz c) ?_
    conv => whnf
    refine clI (sort0_eq (by omega) 1 true) ?_
    conv => whnf
    refine clI (comp0_eq (by omega) 1 true) ?_
    conv => whnf
    refine clI (cC _) ?_
    conv => whnf
    refine clI (cW _) ?_
    conv => whnf
    refine retP rfl (frz_bool ?_)
    simp [numsOk]
  · have hs := hz hne
    subst hs
    have e0 := numbers_nodup l
    obtain ⟨hp', e3, _⟩ := compN_eq (n := m) (by omega) (l := sortZ l) (b := 0) (hp := [.cells 0 (some 3) ((sortZ l).map i64) 0]) (by rw [sortZ_len]; omega) rfl
    rw [sortZ_len] at e3
    refine clI (cloneN_eq (hp := []) (by omega) hne hl c) ?_
    conv => whnf
    refine clI (sortN_eq (b := 0) (hp := [.cells 0 (some 3) (l.map i64) 0]) (by omega) (by omega) rfl) ?_
    conv => whnf
    refine clI e3 ?_
    conv => whnf
    refine bre (fun a => ?_) (fun a => ?_)
    · have hd : l.Nodup := e0.1 (by simp only [List.length_map] at a; omega)
      conv => whnf
      refine clI (cC _) ?_
      conv => whnf
      refine brn (fun q => ?_) (fun q => ?_)
      · rw [Bool.not_eq_false'] at q
        conv => whnf
        refine clI (cW _) ?_
        conv => whnf
        refine retP rfl (frz_bool ?_)
        simp [numsOk, hd, q]
      · rw [Bool.not_eq_true'] at q
        conv => whnf
        refine retP rfl (frz_bool ?_)
        simp [numsOk, hd, q]
    · have hd : ¬ l.Nodup := fun q => a (by rw [e0.2 q, List.length_map])
      conv => whnf
      refine retP rfl (frz_bool ?_)
      simp [numsOk, hd]
end
end Go.Proofs
/- Contracts: a long value in pieces. -/
set_option linter.unusedVariables false
set_option linter.unusedSimpArgs false
namespace Go.Proofs
open Go Go.Abs
/-- A long value in pieces. -/
def pieceAt (s : Str) (k : Nat) : Str := (s.drop (490 * k)).take 490
def pieceN (s : Str) : Nat := (s.length + 489) / 490
def pieces (s : Str) : List Str := (List.range (pieceN s)).map (pieceAt s)
section
variable {n : Nat} {h : AHeap}
theorem piece1_eq (hn : 1 ≤ n) (s : Str) : C n 90 [.str s] h = some (.ret (.bool (s != [])), h) := by
  obtain ⟨m, rfl⟩ : ∃ m, n = m + 1 := ⟨n - 1, by omega⟩
  refine fun_pure F90 rfl rfl rfl rfl ?_
  conv => whnf
  exact retP rfl (frz_bool rfl)
theorem piece2_eq (hn : 1 ≤ n) (s : Str) (hs : s.length < 1099511627776) : C n 91 [.str s] h = some (.ret (.tup [.str (s.take 490), .str (s.drop 490)]), h) := by
  obtain ⟨m, rfl⟩ : ∃ m, n = m + 1 := ⟨n - 1, by omega⟩
  refine fun_pure F91 rfl rfl rfl rfl ?_
  conv => whnf
  have e1 : s.take (min 490 s.length) = s.take 490 := by rw [List.take_eq_take_iff]; omega
  have e2 : s.drop (min 490 s.length) = s.drop 490 := by
    rcases Nat.lt_or_ge s.length 490 with q | q
    · rw [Nat.min_eq_right (by omega), List.drop_of_length_le (Nat.le_refl _), List.drop_of_length_le (by omega)]
    · rw [Nat.min_eq_left q]
  refine ⟨((min 490 s.length : Nat) : Int), by simp only [cond_false]; split <;> omega, ?_⟩
  conv => whnf
  refine ss_hi (c := min 490 s.length) (by omega) ?_
  conv => whnf
  refine ss_lo (c := min 490 s.length) (by omega) ?_
  conv => whnf
  refine retP rfl ?_
  show some (AV.tup [.str (s.take (min 490 s.length)), .str (s.drop (min 490 s.length))]) = _
  rw [e1, e2]
/-- The rows of a list of strings. -/
abbrev rowS (l : List Str) : List (List AV) := (l.map AV.str).map fun x => [x]
theorem pieceN_lt {s : Str} {j : Nat} (h : s.drop (490 * j) ≠ []) : j < pieceN s := by
  have : (s.drop (490 * j)).length ≠ 0 := fun e => h (List.length_eq_zero_iff.1 e)
  rw [List.length_drop] at this
  unfold pieceN; omega
theorem pieceN_end {s : Str} {j : Nat} (hj : j ≤ pieceN s) (h : s.drop (490 * j) = []) : j = pieceN s := by
  have : (s.drop (490 * j)).length = 0 := by rw [h]; rfl
  rw [List.length_drop] at this
  unfold pieceN at hj ⊢; omega
theorem vbuf_frzS {el : TypeId} {hp : AHeap} {L : AV} {xs : List Str} (hne : xs ≠ []) (b : VBuf el 1 hp L (rowS xs)) : Abs.frz hp 64 L = some (.lst 1 (xs.map .str) false) := by
  rcases b.2 with ⟨rfl, h2⟩ | ⟨eb, ver, frz, rfl, h2, _⟩
  · exact (hne (by simpa [rowS] using h2)).elim
  · rw [vflatten_ones] at h2
    unfold Abs.frz
    simp only [h2, List.length_map]
    rw [if_pos ⟨trivial, by omega⟩]
    have h1 : ((xs.map AV.str).drop 0).take (xs.length * 1) = xs.map AV.str := by rw [List.drop_zero]; exact List.take_of_length_le (by simp)
    rw [h1, allM_id (fun x hm => by obtain ⟨k, _, rfl⟩ := List.mem_map.1 hm; rfl)]
    simp only
    rw [if_pos (by rw [List.all_eq_true]; intro x hm; obtain ⟨k, _, rfl⟩ := List.mem_map.1 hm; rfl)]
    rfl
theorem rowS_snoc (l : List Str) (x : Str) : rowS (l ++ [x]) = rowS l ++ [[.str x]] := by simp [rowS]
theorem divided_eq (hn : 2 ≤ n) (s : Str) (hs : s.length < 1073741824) (hne : s ≠ []) : C n 89 [.str s, .fn (.func 90) [] [], .fn (.func 91) [] []] h = some (.ret (.lst 1 ((pieces s).map .str) false), h) := by
  obtain ⟨m, rfl⟩ : ∃ m, n = m + 1 := ⟨n - 1, by omega⟩
  have c1 : ∀ (t : Str) h, C m 90 [.str t] h = some (.ret (.bool (t != [])), h) := fun t h => piece1_eq (by omega) t
  have c2 : ∀ (t : Str) (ht : t.length < 1099511627776) h, C m 91 [.str t] h = some (.ret (.tup [.str (t.take 490), .str (t.drop 490)]), h) := fun t ht h => piece2_eq (by omega) t ht
  have fine1 : fnOk Tryz.prog 90 = true := by kernel_rfl
  have fine2 : fnOk Tryz.prog 91 = true := by kernel_rfl
  refine fun_pure F89 rfl rfl rfl rfl ?_
  conv => whnf
  refine loopI (by decide) rfl (α := Nat × AV × AHeap) (fun x => ⟨[(0, .str (s.drop (490 * x.1))), (1, .fn (.func 90) [] []), (2, .fn (.func 91) [] []), (7, x.2.1)], x.2.2, []⟩)
    (fun x => x.1 ≤ pieceN s ∧ VBuf 9 1 x.2.2 x.2.1 (rowS ((List.range x.1).map (pieceAt s)))) (fun x => pieceN s - x.1) (0, .lst 0 [] true, []) ⟨⟨rfl, rfl, rfl, rfl⟩, rfl, rfl⟩ ⟨Nat.zero_le _, VBuf.nil⟩ (by show pieceN s - 0 < KK; unfold pieceN; simp only [KK]; omega) ?_
  rintro ⟨j, L, hp⟩ ⟨g1, g2⟩
  simp only at g1 g2
  conv => whnf
  refine cvI fine1 (c1 _ _) ?_
  conv => whnf
  refine brq (fun a => ?_) (fun a => ?_)
  · have hj := pieceN_lt a
    have hl : (s.drop (490 * j)).length < 1099511627776 := by rw [List.length_drop]; omega
    conv => whnf
    refine cvI fine2 (c2 _ hl _) ?_
    obtain ⟨v, hp', ea, b', _⟩ := vbuf_app (x := .lst 1 [.str ((s.drop (490 * j)).take 490)] true) g2 rfl (vfirst_one hp rfl) ⟨rfl, rfl⟩ (by simp [rowS]; unfold pieceN at hj; omega)
    conv => whnf
    refine ⟨rfl, ?_⟩
    conv => whnf
    refine apI ea ?_
    conv => whnf
    refine nxI (j + 1, v, hp') ⟨hj, ?_⟩ (by simp only; omega) ⟨⟨?_, rfl, rfl, rfl⟩, rfl, rfl⟩
    · simp only
      rw [List.range_succ, List.map_append, List.map_cons, List.map_nil, rowS_snoc]
      exact b'
    · show some (AV.str ((s.drop (490 * j)).drop 490)) = some (AV.str (s.drop (490 * (j + 1))))
      rw [List.drop_drop]
      rfl
  · have hj := pieceN_end g1 a
    subst hj
    conv => whnf
    refine cutI (by decide) rfl (t := ⟨[(7, L)], hp, []⟩) ⟨rfl, rfl, rfl⟩ ?_
    conv => whnf
    refine retP rfl ?_
    refine vbuf_frzS ?_ g2
    intro e
    have := congrArg List.length e
    unfold pieces at this
    rw [List.length_map, List.length_range, List.length_nil] at this
    unfold pieceN at this
    have h0 : s.length ≠ 0 := fun q => hne (List.length_eq_zero_iff.1 q)
    omega
theorem pieces_eq (hn : 3 ≤ n) (s : Str) (hs : s.length < 1073741824) : C n 29 [.str s] h = some (.ret (.tup (if within s.length 65 4000 = true then [.lst 1 ((pieces s).map .str) false, i64 0] else [.lst 0 [] true, i64 1])), h) := by
  obtain ⟨m, rfl⟩ : ∃ m, n = m + 1 := ⟨n - 1, by omega⟩
  refine fun_pure F29 rfl rfl rfl rfl ?_
  conv => whnf
  refine clI (within_eq (by omega) _ _ _) ?_
  conv => whnf
  refine brn (fun a => ?_) (fun a => ?_)
  · rw [a, if_neg (by decide)]
    conv => whnf
    exact retP rfl rfl
  · rw [a, if_pos rfl]
    have hne : s ≠ [] := by
      rintro rfl
      have := within_iff.1 a
      simp at this
    conv => whnf
    refine clI (divided_eq (by omega) s hs hne) ?_
    conv => whnf
    refine retP rfl ?_
    refine (frzOk_tup fun x hx => ?_) _
    simp at hx
    rcases hx with rfl | rfl
    · refine frzOk_lst fun x hx => ?_
      obtain ⟨k, _, rfl⟩ := List.mem_map.1 hx
      exact frzOk_str
    · exact frzOk_int
end
end Go.Proofs
/- The looked-up text of the functions. -/
namespace Go.Proofs
open Go Go.Abs
/- f73 understory/page.plain: 22 temporaries, depth 5, 1 parameters, results [t2] -/
def c73 : RC :=
 (.seq (.ops [(oP 1 (.box 25 (.t 0))),
 (oP 2 (.mv (.c (.bool false))))])
 (.seq (.ops [(oP 3 (.fieldAddr 3 (.t 1))),
 (oP 4 (.load false 1 (.t 3))),
 (oP 5 (.bin .eql (.t 4) (.c (.int .i64 0)))),
 (mV 6 5),
 (oG 7 6 true (.fieldAddr 4 (.t 1))),
 (oG 8 6 true (.load false 1 (.t 7))),
 (oG 9 6 true (.bin .eql (.t 8) (.c (.int .i64 0)))),
 (oP 10 (.pick (.t 6) (.t 9) (.c (.bool false)))),
 (mV 11 10),
 (oG 12 11 true (.fieldAddr 5 (.t 1))),
 (oG 13 11 true (.load false 1 (.t 12))),
 (oG 14 11 true (.un .not (.t 13))),
 (oP 15 (.pick (.t 11) (.t 14) (.c (.bool false)))),
 (mV 16 15),
 (oG 17 16 true (.fieldAddr 6 (.t 1))),
 (oG 18 16 true (.load false 1 (.t 17))),
 (oG 19 16 true (.lenL (.t 18))),
 (oG 20 16 true (.bin .eql (.t 19) (.c (.int .i64 0)))),
 (oP 21 (.pick (.t 16) (.t 20) (.c (.bool false)))),
 (mV 2 21)])
 .ret))
theorem F73 : FI 73 1 22 5 [.tmp 2] c73 := ⟨⟨Tryz.f73, Tryz.func73, by kernel_rfl, by kernel_rfl, by kernel_rfl⟩, by kernel_rfl, by decide, by kernel_rfl⟩
/- f74 understory/page.linked: 9 temporaries, depth 4, 1 parameters, results [t2] -/
def c74 : RC :=
 (.seq (.ops [(oP 2 (.mv (.c (.bool false))))])
 (.seq (.ops [(mV 3 0),
 (oP 4 (.bin .eql (.t 3) (.c (.int .i64 0)))),
 (mV 5 4),
 (oG 6 5 false (.mv (.t 0))),
 (oG 7 5 false (.callF 70 [(.t 6)])),
 (oP 8 (.pick (.t 5) (.c (.bool true)) (.t 7))),
 (mV 2 8)])
 .ret))
theorem F74 : FI 74 1 9 4 [.tmp 2] c74 := ⟨⟨Tryz.f74, Tryz.func74, by kernel_rfl, by kernel_rfl, by kernel_rfl⟩, by kernel_rfl, by decide, by kernel_rfl⟩
/- f75 understory/page.freed: 66 temporaries, depth 7, 1 parameters, results [t2] -/
def c75 : RC :=
 (.seq (.ops [(oP 2 (.mv (.c (.bool false))))])
 (.seq (.seq (.ops [(mV 7 0),
 (oP 8 (.lenL (.t 7))),
 (oP 9 (.mv (.c (.int .i64 0))))])
 (.block 0
 (.loop
 (.seq (.ops [(oP 10 (.bin .lss (.t 9) (.t 8)))])
 (.seq (.cond (.t 10)
 .skip
 (.exit 0))
 (.seq (.block 1
 (.seq (.ops [(mV 11 9),
 (oP 12 (.indexAddrL 2 (.t 7) (.t 9))),
 (oP 13 (.load true 2 (.t 12))),
 (oP 4 (.alloc 165 [(.int .i64 0), (.lst 0 [] true)])),
 (mV 3 11),
 (oU (.store 2 (.t 4) (.t 13)))])
 (.seq (.seq (.draw [((oP 14 (.fieldAddr 0 (.t 4))), 0),
 ((oP 15 (.load false 1 (.t 14))), 1),
 ((oP 16 (.callF 71 [(.t 15), (.c (.int .i64 0)), (.c (.int .i64 1099511627776))])), 0),
 ((oP 17 (.un .not (.t 16))), 0),
 ((mV 18 17), 0),
 ((oG 19 18 false (.fieldAddr 1 (.t 4))), 0),
 ((oG 20 18 false (.load false 1 (.t 19))), 1),
 ((oG 21 18 false (.lenL (.t 20))), 0),
 ((oG 22 18 false (.bin .eql (.t 21) (.c (.int .i64 0)))), 0),
 ((oP 23 (.pick (.t 18) (.c (.bool true)) (.t 22))), 0),
 ((mV 24 23), 0),
 ((oG 25 24 false (.mv (.t 3))), 0),
 ((oG 26 24 false (.bin .gtr (.t 25) (.c (.int .i64 0)))), 0),
 ((oG 27 24 false (.mv (.t 26))), 0),
 ((oG 28 27 true (.mv (.t 0))), 0),
 ((oG 29 27 true (.mv (.t 3))), 0),
 ((oG 30 27 true (.bin .sub (.t 29) (.c (.int .i64 1)))), 0),
 ((oG 31 27 true (.indexAddrL 2 (.t 28) (.t 30))), 0),
 ((oG 32 27 true (.fieldAddr 0 (.t 31))), 0),
 ((oG 33 27 true (.load false 1 (.t 32))), 1),
 ((oG 34 27 true (.fieldAddr 0 (.t 4))), 0),
 ((oG 35 27 true (.load false 1 (.t 34))), 1),
 ((oG 36 27 true (.bin .geq (.t 33) (.t 35))), 0),
 ((oG 37 24 false (.pick (.t 27) (.t 36) (.c (.bool false)))), 0),
 ((oP 38 (.pick (.t 24) (.c (.bool true)) (.t 37))), 0)])
 (.cond (.t 38)
 (.seq (.ops [(oP 2 (.mv (.c (.bool false))))])
 .ret)
 .skip))
 (.cut (.seq (.ops [(oP 39 (.fieldAddr 1 (.t 4))),
 (oP 40 (.load false 1 (.t 39))),
 (oP 41 (.lenL (.t 40))),
 (oP 42 (.mv (.c (.int .i64 0))))])
 (.block 2
 (.loop
 (.seq (.ops [(oP 43 (.bin .lss (.t 42) (.t 41)))])
 (.seq (.cond (.t 43)
 .skip
 (.exit 2))
 (.seq (.block 3
 (.seq (.ops [(mV 44 42),
 (oP 45 (.indexAddrL 1 (.t 40) (.t 42))),
 (oP 46 (.load false 1 (.t 45))),
 (mV 5 44),
 (mV 6 46)])
 (.seq (.ops [(mV 47 6),
 (oP 48 (.callF 70 [(.t 47)])),
 (oP 49 (.un .not (.t 48))),
 (mV 50 49),
 (oG 51 50 false (.mv (.t 5))),
 (oG 52 50 false (.bin .gtr (.t 51) (.c (.int .i64 0)))),
 (oG 53 50 false (.mv (.t 52))),
 (oG 54 53 true (.fieldAddr 1 (.t 4))),
 (oG 55 53 true (.load false 1 (.t 54))),
 (oG 56 53 true (.mv (.t 5))),
 (oG 57 53 true (.bin .sub (.t 56) (.c (.int .i64 1)))),
 (oG 58 53 true (.indexAddrL 1 (.t 55) (.t 57))),
 (oG 59 53 true (.load false 1 (.t 58))),
 (oG 60 53 true (.mv (.t 6))),
 (oG 61 53 true (.bin .geq (.t 59) (.t 60))),
 (oG 62 50 false (.pick (.t 53) (.t 61) (.c (.bool false)))),
 (oP 63 (.pick (.t 50) (.c (.bool true)) (.t 62)))])
 (.cond (.t 63)
 (.seq (.ops [(oP 2 (.mv (.c (.bool false))))])
 .ret)
 .skip))))
 (.ops [(oP 64 (.bin .add (.t 42) (.c (.int .i64 1)))),
 (mV 42 64)])))))))))))
 (.cut (.ops [(oP 65 (.bin .add (.t 9) (.c (.int .i64 1)))),
 (mV 9 65)]))))))))
 (.cut (.seq (.ops [(oP 2 (.mv (.c (.bool true))))])
 .ret))))
theorem F75 : FI 75 1 66 7 [.tmp 2] c75 := ⟨⟨Tryz.f75, Tryz.func75, by kernel_rfl, by kernel_rfl, by kernel_rfl⟩, by kernel_rfl, by decide, by kernel_rfl⟩
/- f76 understory/page.listed: 21 temporaries, depth 5, 1 parameters, results [t2] -/
def c76 : RC :=
 (.seq (.ops [(oP 2 (.mv (.c (.int .i64 0))))])
 (.seq (.ops [(oP 3 (.mv (.c (.int .i64 6))))])
 (.seq (.seq (.ops [(mV 6 0),
 (oP 7 (.lenL (.t 6))),
 (oP 8 (.mv (.c (.int .i64 0))))])
 (.block 0
 (.loop
 (.seq (.ops [(oP 9 (.bin .lss (.t 8) (.t 7)))])
 (.seq (.cond (.t 9)
 .skip
 (.exit 0))
 (.seq (.block 1
 (.seq (.ops [(oP 10 (.indexAddrL 2 (.t 6) (.t 8))),
 (oP 11 (.load true 2 (.t 10))),
 (oP 5 (.alloc 165 [(.int .i64 0), (.lst 0 [] true)])),
 (oU (.store 2 (.t 5) (.t 11)))])
 (.ops [(mV 12 3),
 (oP 13 (.fieldAddr 1 (.t 5))),
 (oP 14 (.load false 1 (.t 13))),
 (oP 15 (.lenL (.t 14))),
 (oP 16 (.bin .mul (.c (.int .i64 4)) (.t 15))),
 (oP 17 (.bin .add (.c (.int .i64 8)) (.t 16))),
 (oP 18 (.bin .add (.t 12) (.t 17))),
 (mV 3 18)])))
 (.ops [(oP 19 (.bin .add (.t 8) (.c (.int .i64 1)))),
 (mV 8 19)])))))))
 (.cut (.seq (.ops [(mV 20 3),
 (mV 2 20)])
 .ret)))))
theorem F76 : FI 76 1 21 5 [.tmp 2] c76 := ⟨⟨Tryz.f76, Tryz.func76, by kernel_rfl, by kernel_rfl, by kernel_rfl⟩, by kernel_rfl, by decide, by kernel_rfl⟩
/- f16 understory/page.Check: 102 temporaries, depth 7, 1 parameters, results [t2] -/
def c16 : RC :=
 (.seq (.ops [(oP 1 (.box 25 (.t 0))),
 (oP 2 (.mv (.c (.int .i64 0))))])
 (.seq (.seq (.ops [(oP 4 (.fieldAddr 1 (.t 1))),
 (oP 5 (.load false 1 (.t 4))),
 (oP 6 (.callF 70 [(.t 5)])),
 (oP 7 (.un .not (.t 6))),
 (mV 8 7),
 (oG 9 8 false (.fieldAddr 2 (.t 1))),
 (oG 10 8 false (.load false 1 (.t 9))),
 (oG 11 8 false (.callF 71 [(.t 10), (.c (.int .i64 0)), (.c (.int .i64 1099511627776))])),
 (oG 12 8 false (.un .not (.t 11))),
 (oP 13 (.pick (.t 8) (.c (.bool true)) (.t 12)))])
 (.cond (.t 13)
 (.seq (.ops [(oP 2 (.mv (.c (.int .i64 2))))])
 .ret)
 .skip))
 (.seq (.ops [(oP 3 (.mv (.c (.bool false))))])
 (.seq (.seq (.ops [(oP 14 (.fieldAddr 0 (.t 1))),
 (oP 15 (.load false 1 (.t 14)))])
 (.block 0
 (.seq (.seq (.ops [(oP 17 (.bin .eql (.t 15) (.c (.int .i64 1)))),
 (mV 16 17)])
 (.cond (.t 16)
 .skip
 (.ops [(oP 18 (.bin .eql (.t 15) (.c (.int .i64 2)))),
 (mV 16 18)])))
 (.cond (.t 16)
 (.ops [(oP 19 (.fieldAddr 3 (.t 1))),
 (oP 20 (.load false 1 (.t 19))),
 (oP 21 (.callF 71 [(.t 20), (.c (.int .i64 0)), (.c (.int .i64 255))])),
 (mV 22 21),
 (oG 23 22 true (.fieldAddr 0 (.t 1))),
 (oG 24 22 true (.load false 1 (.t 23))),
 (oG 25 22 true (.bin .eql (.t 24) (.c (.int .i64 1)))),
 (oG 26 22 true (.fieldAddr 4 (.t 1))),
 (oG 27 22 true (.load false 1 (.t 26))),
 (oG 28 22 true (.bin .eql (.t 27) (.c (.int .i64 0)))),
 (oG 29 22 true (.cmp false 4 (.t 25) (.t 28))),
 (oP 30 (.pick (.t 22) (.t 29) (.c (.bool false)))),
 (mV 31 30),
 (oG 32 31 true (.fieldAddr 6 (.t 1))),
 (oG 33 31 true (.load false 1 (.t 32))),
 (oG 34 31 true (.fieldAddr 4 (.t 1))),
 (oG 35 31 true (.load false 1 (.t 34))),
 (oG 36 31 true (.callF 72 [(.t 33), (.t 35)])),
 (oP 37 (.pick (.t 31) (.t 36) (.c (.bool false)))),
 (mV 38 37),
 (oG 39 38 true (.fieldAddr 7 (.t 1))),
 (oG 40 38 true (.load false 1 (.t 39))),
 (oG 41 38 true (.bin .eql (.t 40) (.c (.int .i64 0)))),
 (oP 42 (.pick (.t 38) (.t 41) (.c (.bool false)))),
 (mV 43 42),
 (oG 44 43 true (.fieldAddr 8 (.t 1))),
 (oG 45 43 true (.load false 1 (.t 44))),
 (oG 46 43 true (.bin .eql (.t 45) (.c (.str [])))),
 (oP 47 (.pick (.t 43) (.t 46) (.c (.bool false)))),
 (mV 48 47),
 (oG 49 48 true (.fieldAddr 9 (.t 1))),
 (oG 50 48 true (.load false 1 (.t 49))),
 (oG 51 48 true (.lenL (.t 50))),
 (oG 52 48 true (.bin .eql (.t 51) (.c (.int .i64 0)))),
 (oP 53 (.pick (.t 48) (.t 52) (.c (.bool false)))),
 (mV 3 53)])
 (.seq (.ops [(oP 55 (.bin .eql (.t 15) (.c (.int .i64 3)))),
 (mV 54 55)])
 (.cond (.t 54)
 (.ops [(oP 56 (.load true 10 (.t 1))),
 (oP 57 (.callF 73 [(.t 56)])),
 (mV 58 57),
 (oG 59 58 true (.fieldAddr 7 (.t 1))),
 (oG 60 58 true (.load false 1 (.t 59))),
 (oG 61 58 true (.callF 74 [(.t 60)])),
 (oP 62 (.pick (.t 58) (.t 61) (.c (.bool false)))),
 (mV 63 62),
 (oG 64 63 true (.fieldAddr 8 (.t 1))),
 (oG 65 63 true (.load false 1 (.t 64))),
 (oG 66 63 true (.lenS (.t 65))),
 (oG 67 63 true (.callF 71 [(.t 66), (.c (.int .i64 1)), (.c (.int .i64 490))])),
 (oP 68 (.pick (.t 63) (.t 67) (.c (.bool false)))),
 (mV 69 68),
 (oG 70 69 true (.fieldAddr 9 (.t 1))),
 (oG 71 69 true (.load false 1 (.t 70))),
 (oG 72 69 true (.lenL (.t 71))),
 (oG 73 69 true (.bin .eql (.t 72) (.c (.int .i64 0)))),
 (oP 74 (.pick (.t 69) (.t 73) (.c (.bool false)))),
 (mV 3 74)])
 (.seq (.ops [(oP 76 (.bin .eql (.t 15) (.c (.int .i64 4)))),
 (mV 75 76)])
 (.cond (.t 75)
 (.ops [(oP 77 (.load true 10 (.t 1))),
 (oP 78 (.callF 73 [(.t 77)])),
 (mV 79 78),
 (oG 80 79 true (.fieldAddr 7 (.t 1))),
 (oG 81 79 true (.load false 1 (.t 80))),
 (oG 82 79 true (.callF 74 [(.t 81)])),
 (oP 83 (.pick (.t 79) (.t 82) (.c (.bool false)))),
 (mV 84 83),
 (oG 85 84 true (.fieldAddr 8 (.t 1))),
 (oG 86 84 true (.load false 1 (.t 85))),
 (oG 87 84 true (.bin .eql (.t 86) (.c (.str [])))),
 (oP 88 (.pick (.t 84) (.t 87) (.c (.bool false)))),
 (mV 89 88),
 (oG 90 89 true (.fieldAddr 9 (.t 1))),
 (oG 91 89 true (.load false 1 (.t 90))),
 (oG 92 89 true (.callF 75 [(.t 91)])),
 (oP 93 (.pick (.t 89) (.t 92) (.c (.bool false)))),
 (mV 94 93),
 (oG 95 94 true (.fieldAddr 9 (.t 1))),
 (oG 96 94 true (.load false 1 (.t 95))),
 (oG 97 94 true (.callF 76 [(.t 96)])),
 (oG 98 94 true (.bin .leq (.t 97) (.c (.int .i64 496)))),
 (oP 99 (.pick (.t 94) (.t 98) (.c (.bool false)))),
 (mV 3 99)])
 .skip))))))))
 (.seq (.seq (.ops [(mV 100 3),
 (oP 101 (.un .not (.t 100)))])
 (.cond (.t 101)
 (.seq (.ops [(oP 2 (.mv (.c (.int .i64 2))))])
 .ret)
 .skip))
 (.seq (.ops [(oP 2 (.mv (.c (.int .i64 0))))])
 .ret))))))
theorem F16 : FI 16 1 102 7 [.tmp 2] c16 := ⟨⟨Tryz.f16, Tryz.func16, by kernel_rfl, by kernel_rfl, by kernel_rfl⟩, by kernel_rfl, by decide, by kernel_rfl⟩
/- f58 understory/page.bodyOf: 31 temporaries, depth 6, 1 parameters, results [t2] -/
def c58 : RC :=
 (.seq (.ops [(oP 1 (.box 25 (.t 0))),
 (oP 2 (.mv (.c .nili)))])
 (.seq (.seq (.ops [(oP 3 (.fieldAddr 0 (.t 1))),
 (oP 4 (.load false 1 (.t 3)))])
 (.block 0
 (.seq (.ops [(oP 6 (.bin .eql (.t 4) (.c (.int .i64 3)))),
 (mV 5 6)])
 (.cond (.t 5)
 (.seq (.ops [(oP 7 (.fieldAddr 7 (.t 1))),
 (oP 8 (.load false 1 (.t 7))),
 (oP 9 (.fieldAddr 8 (.t 1))),
 (oP 10 (.load false 1 (.t 9))),
 (oP 11 (.build [(.int .i64 0), (.str [])] [(0, 1, (.t 8)), (1, 1, (.t 10))])),
 (oP 12 (.mkIfc 174 (.t 11))),
 (mV 2 12)])
 .ret)
 (.seq (.ops [(oP 14 (.bin .eql (.t 4) (.c (.int .i64 4)))),
 (mV 13 14)])
 (.cond (.t 13)
 (.seq (.ops [(oP 15 (.fieldAddr 7 (.t 1))),
 (oP 16 (.load false 1 (.t 15))),
 (oP 17 (.fieldAddr 9 (.t 1))),
 (oP 18 (.load false 1 (.t 17))),
 (oP 19 (.build [(.int .i64 0), (.lst 0 [] true)] [(0, 1, (.t 16)), (1, 1, (.t 18))])),
 (oP 20 (.mkIfc 176 (.t 19))),
 (mV 2 20)])
 .ret)
 .skip))))))
 (.seq (.ops [(oP 21 (.fieldAddr 3 (.t 1))),
 (oP 22 (.load false 1 (.t 21))),
 (oP 23 (.fieldAddr 4 (.t 1))),
 (oP 24 (.load false 1 (.t 23))),
 (oP 25 (.fieldAddr 5 (.t 1))),
 (oP 26 (.load false 1 (.t 25))),
 (oP 27 (.fieldAddr 6 (.t 1))),
 (oP 28 (.load false 1 (.t 27))),
 (oP 29 (.build [(.int .i64 0), (.int .i64 0), (.bool false), (.lst 0 [] true)] [(0, 1, (.t 22)), (1, 1, (.t 24)), (2, 1, (.t 26)), (3, 1, (.t 28))])),
 (oP 30 (.mkIfc 178 (.t 29))),
 (mV 2 30)])
 .ret)))
theorem F58 : FI 58 1 31 6 [.tmp 2] c58 := ⟨⟨Tryz.f58, Tryz.func58, by kernel_rfl, by kernel_rfl, by kernel_rfl⟩, by kernel_rfl, by decide, by kernel_rfl⟩
/- f62 understory/page.ended: 21 temporaries, depth 5, 1 parameters, results [t2] -/
def c62 : RC :=
 (.seq (.ops [(oP 2 (.mv (.c (.str []))))])
 (.seq (.ops [(mV 4 0),
 (oP 5 (.callF 112 [(.t 4)])),
 (mV 3 5)])
 (.seq (.ops [(mV 6 0),
 (mV 7 3),
 (oP 8 (.toInt .u8 (.t 7))),
 (mV 9 3),
 (oP 10 (.bin .shr (.t 9) (.c (.int .u64 8)))),
 (oP 11 (.toInt .u8 (.t 10))),
 (mV 12 3),
 (oP 13 (.bin .shr (.t 12) (.c (.int .u64 16)))),
 (oP 14 (.toInt .u8 (.t 13))),
 (mV 15 3),
 (oP 16 (.bin .shr (.t 15) (.c (.int .u64 24)))),
 (oP 17 (.toInt .u8 (.t 16))),
 (oP 18 (.mkLst 1 false 4 [(.int .u8 0)] [(0, 1, (.t 8)), (1, 1, (.t 11)), (2, 1, (.t 14)), (3, 1, (.t 17))])),
 (oP 19 (.bytesStr (.t 18))),
 (oP 20 (.bin .add (.t 6) (.t 19))),
 (mV 2 20)])
 .ret)))
theorem F62 : FI 62 1 21 5 [.tmp 2] c62 := ⟨⟨Tryz.f62, Tryz.func62, by kernel_rfl, by kernel_rfl, by kernel_rfl⟩, by kernel_rfl, by decide, by kernel_rfl⟩
/- f68 understory/page.blockOf: 8 temporaries, depth 4, 1 parameters, results [*t2] -/
def c68 : RC :=
 (.seq (.ops [(oP 2 (.alloc 136 [(.int .u8 0), (.int .u8 0), (.int .u8 0), (.int .u8 0), (.int .u8 0), (.int .u8 0), (.int .u8 0), (.int .u8 0), (.int .u8 0), (.int .u8 0), (.int .u8 0), (.int .u8 0), (.int .u8 0), (.int .u8 0), (.int .u8 0), (.int .u8 0), (.int .u8 0), (.int .u8 0), (.int .u8 0), (.int .u8 0), (.int .u8 0), (.int .u8 0), (.int .u8 0), (.int .u8 0), (.int .u8 0), (.int .u8 0), (.int .u8 0), (.int .u8 0), (.int .u8 0), (.int .u8 0), (.int .u8 0), (.int .u8 0), (.int .u8 0), (.int .u8 0), (.int .u8 0), (.int .u8 0), (.int .u8 0), (.int .u8 0), (.int .u8 0), (.int .u8 0), (.int .u8 0), (.int .u8 0), (.int .u8 0), (.int .u8 0), (.int .u8 0), (.int .u8 0), (.int .u8 0), (.int .u8 0), (.int .u8 0), (.int .u8 0), (.int .u8 0), (.int .u8 0), (.int .u8 0), (.int .u8 0), (.int .u8 0), (.int .u8 0), (.int .u8 0), (.int .u8 0), (.int .u8 0), (.int .u8 0), (.int .u8 0), (.int .u8 0), (.int .u8 0), (.int .u8 0), (.int .u8 0), (.int .u8 0), (.int .u8 0), (.int .u8 0), (.int .u8 0), (.int .u8 0), (.int .u8 0), (.int .u8 0), (.int .u8 0), (.int .u8 0), (.int .u8 0), (.int .u8 0), (.int .u8 0), (.int .u8 0), (.int .u8 0), (.int .u8 0), (.int .u8 0), (.int .u8 0), (.int .u8 0), (.int .u8 0), (.int .u8 0), (.int .u8 0), (.int .u8 0), (.int .u8 0), (.int .u8 0), (.int .u8 0), (.int .u8 0), (.int .u8 0), (.int .u8 0), (.int .u8 0), (.int .u8 0), (.int .u8 0), (.int .u8 0), (.int .u8 0), (.int .u8 0), (.int .u8 0), (.int .u8 0), (.int .u8 0), (.int .u8 0), (.int .u8 0), (.int .u8 0), (.int .u8 0), (.int .u8 0), (.int .u8 0), (.int .u8 0), (.int .u8 0), (.int .u8 0), (.int .u8 0), (.int .u8 0), (.int .u8 0), (.int .u8 0), (.int .u8 0), (.int .u8 0), (.int .u8 0), (.int .u8 0), (.int .u8 0), (.int .u8 0), (.int .u8 0), (.int .u8 0), (.int .u8 0), (.int .u8 0), (.int .u8 0), (.int .u8 0), (.int .u8 0), (.int .u8 0), (.int .u8 0), (.int .u8 0), (.int .u8 0), (.int .u8 0), (.int .u8 0), (.int .u8 0), (.int .u8 0), (.int .u8 0), (.int .u8 0), (.int .u8 0), (.int .u8 0), (.int .u8 0), (.int .u8 0), (.int .u8 0), (.int .u8 0), (.int .u8 0), (.int .u8 0), (.int .u8 0), (.int .u8 0), (.int .u8 0), (.int .u8 0), (.int .u8 0), (.int .u8 0), (.int .u8 0), (.int .u8 0), (.int .u8 0), (.int .u8 0), (.int .u8 0), (.int .u8 0), (.int .u8 0), (.int .u8 0), (.int .u8 0), (.int .u8 0), (.int .u8 0), (.int .u8 0), (.int .u8 0), (.int .u8 0), (.int .u8 0), (.int .u8 0), (.int .u8 0), (.int .u8 0), (.int .u8 0), (.int .u8 0), (.int .u8 0), (.int .u8 0), (.int .u8 0), (.int .u8 0), (.int .u8 0), (.int .u8 0), (.int .u8 0), (.int .u8 0), (.int .u8 0), (.int .u8 0), (.int .u8 0), (.int .u8 0), (.int .u8 0), (.int .u8 0), (.int .u8 0), (.int .u8 0), (.int .u8 0), (.int .u8 0), (.int .u8 0), (.int .u8 0), (.int .u8 0), (.int .u8 0), (.int .u8 0), (.int .u8 0), (.int .u8 0), (.int .u8 0), (.int .u8 0), (.int .u8 0), (.int .u8 0), (.int .u8 0), (.int .u8 0), (.int .u8 0), (.int .u8 0), (.int .u8 0), (.int .u8 0), (.int .u8 0), (.int .u8 0), (.int .u8 0), (.int .u8 0), (.int .u8 0), (.int .u8 0), (.int .u8 0), (.int .u8 0), (.int .u8 0), (.int .u8 0), (.int .u8 0), (.int .u8 0), (.int .u8 0), (.int .u8 0), (.int .u8 0), (.int .u8 0), (.int .u8 0), (.int .u8 0), (.int .u8 0), (.int .u8 0), (.int .u8 0), (.int .u8 0), (.int .u8 0), (.int .u8 0), (.int .u8 0), (.int .u8 0), (.int .u8 0), (.int .u8 0), (.int .u8 0), (.int .u8 0), (.int .u8 0), (.int .u8 0), (.int .u8 0), (.int .u8 0), (.int .u8 0), (.int .u8 0), (.int .u8 0), (.int .u8 0), (.int .u8 0), (.int .u8 0), (.int .u8 0), (.int .u8 0), (.int .u8 0), (.int .u8 0), (.int .u8 0), (.int .u8 0), (.int .u8 0), (.int .u8 0), (.int .u8 0), (.int .u8 0), (.int .u8 0), (.int .u8 0), (.int .u8 0), (.int .u8 0), (.int .u8 0), (.int .u8 0), (.int .u8 0), (.int .u8 0), (.int .u8 0), (.int .u8 0), (.int .u8 0), (.int .u8 0), (.int .u8 0), (.int .u8 0), (.int .u8 0), (.int .u8 0), (.int .u8 0), (.int .u8 0), (.int .u8 0), (.int .u8 0), (.int .u8 0), (.int .u8 0), (.int .u8 0), (.int .u8 0), (.int .u8 0), (.int .u8 0), (.int .u8 0), (.int .u8 0), (.int .u8 0), (.int .u8 0), (.int .u8 0), (.int .u8 0), (.int .u8 0), (.int .u8 0), (.int .u8 0), (.int .u8 0), (.int .u8 0), (.int .u8 0), (.int .u8 0), (.int .u8 0), (.int .u8 0), (.int .u8 0), (.int .u8 0), (.int .u8 0), (.int .u8 0), (.int .u8 0), (.int .u8 0), (.int .u8 0), (.int .u8 0), (.int .u8 0), (.int .u8 0), (.int .u8 0), (.int .u8 0), (.int .u8 0), (.int .u8 0), (.int .u8 0), (.int .u8 0), (.int .u8 0), (.int .u8 0), (.int .u8 0), (.int .u8 0), (.int .u8 0), (.int .u8 0), (.int .u8 0), (.int .u8 0), (.int .u8 0), (.int .u8 0), (.int .u8 0), (.int .u8 0), (.int .u8 0), (.int .u8 0), (.int .u8 0), (.int .u8 0), (.int .u8 0), (.int .u8 0), (.int .u8 0), (.int .u8 0), (.int .u8 0), (.int .u8 0), (.int .u8 0), (.int .u8 0), (.int .u8 0), (.int .u8 0), (.int .u8 0), (.int .u8 0), (.int .u8 0), (.int .u8 0), (.int .u8 0), (.int .u8 0), (.int .u8 0), (.int .u8 0), (.int .u8 0), (.int .u8 0), (.int .u8 0), (.int .u8 0), (.int .u8 0), (.int .u8 0), (.int .u8 0), (.int .u8 0), (.int .u8 0), (.int .u8 0), (.int .u8 0), (.int .u8 0), (.int .u8 0), (.int .u8 0), (.int .u8 0), (.int .u8 0), (.int .u8 0), (.int .u8 0), (.int .u8 0), (.int .u8 0), (.int .u8 0), (.int .u8 0), (.int .u8 0), (.int .u8 0), (.int .u8 0), (.int .u8 0), (.int .u8 0), (.int .u8 0), (.int .u8 0), (.int .u8 0), (.int .u8 0), (.int .u8 0), (.int .u8 0), (.int .u8 0), (.int .u8 0), (.int .u8 0), (.int .u8 0), (.int .u8 0), (.int .u8 0), (.int .u8 0), (.int .u8 0), (.int .u8 0), (.int .u8 0), (.int .u8 0), (.int .u8 0), (.int .u8 0), (.int .u8 0), (.int .u8 0), (.int .u8 0), (.int .u8 0), (.int .u8 0), (.int .u8 0), (.int .u8 0), (.int .u8 0), (.int .u8 0), (.int .u8 0), (.int .u8 0), (.int .u8 0), (.int .u8 0), (.int .u8 0), (.int .u8 0), (.int .u8 0), (.int .u8 0), (.int .u8 0), (.int .u8 0), (.int .u8 0), (.int .u8 0), (.int .u8 0), (.int .u8 0), (.int .u8 0), (.int .u8 0), (.int .u8 0), (.int .u8 0), (.int .u8 0), (.int .u8 0), (.int .u8 0), (.int .u8 0), (.int .u8 0), (.int .u8 0), (.int .u8 0), (.int .u8 0), (.int .u8 0), (.int .u8 0), (.int .u8 0), (.int .u8 0), (.int .u8 0), (.int .u8 0), (.int .u8 0), (.int .u8 0), (.int .u8 0), (.int .u8 0), (.int .u8 0), (.int .u8 0), (.int .u8 0), (.int .u8 0), (.int .u8 0), (.int .u8 0), (.int .u8 0), (.int .u8 0), (.int .u8 0), (.int .u8 0), (.int .u8 0), (.int .u8 0), (.int .u8 0), (.int .u8 0), (.int .u8 0), (.int .u8 0), (.int .u8 0), (.int .u8 0), (.int .u8 0), (.int .u8 0), (.int .u8 0), (.int .u8 0), (.int .u8 0), (.int .u8 0), (.int .u8 0), (.int .u8 0), (.int .u8 0), (.int .u8 0), (.int .u8 0), (.int .u8 0), (.int .u8 0), (.int .u8 0), (.int .u8 0), (.int .u8 0), (.int .u8 0), (.int .u8 0), (.int .u8 0), (.int .u8 0), (.int .u8 0), (.int .u8 0), (.int .u8 0), (.int .u8 0), (.int .u8 0), (.int .u8 0), (.int .u8 0), (.int .u8 0), (.int .u8 0), (.int .u8 0), (.int .u8 0), (.int .u8 0), (.int .u8 0), (.int .u8 0), (.int .u8 0), (.int .u8 0), (.int .u8 0), (.int .u8 0), (.int .u8 0), (.int .u8 0), (.int .u8 0), (.int .u8 0), (.int .u8 0), (.int .u8 0), (.int .u8 0), (.int .u8 0), (.int .u8 0), (.int .u8 0), (.int .u8 0), (.int .u8 0), (.int .u8 0), (.int .u8 0), (.int .u8 0), (.int .u8 0), (.int .u8 0)]))])
 (.seq (.ops [(oP 3 (.alloc 136 [(.int .u8 0), (.int .u8 0), (.int .u8 0), (.int .u8 0), (.int .u8 0), (.int .u8 0), (.int .u8 0), (.int .u8 0), (.int .u8 0), (.int .u8 0), (.int .u8 0), (.int .u8 0), (.int .u8 0), (.int .u8 0), (.int .u8 0), (.int .u8 0), (.int .u8 0), (.int .u8 0), (.int .u8 0), (.int .u8 0), (.int .u8 0), (.int .u8 0), (.int .u8 0), (.int .u8 0), (.int .u8 0), (.int .u8 0), (.int .u8 0), (.int .u8 0), (.int .u8 0), (.int .u8 0), (.int .u8 0), (.int .u8 0), (.int .u8 0), (.int .u8 0), (.int .u8 0), (.int .u8 0), (.int .u8 0), (.int .u8 0), (.int .u8 0), (.int .u8 0), (.int .u8 0), (.int .u8 0), (.int .u8 0), (.int .u8 0), (.int .u8 0), (.int .u8 0), (.int .u8 0), (.int .u8 0), (.int .u8 0), (.int .u8 0), (.int .u8 0), (.int .u8 0), (.int .u8 0), (.int .u8 0), (.int .u8 0), (.int .u8 0), (.int .u8 0), (.int .u8 0), (.int .u8 0), (.int .u8 0), (.int .u8 0), (.int .u8 0), (.int .u8 0), (.int .u8 0), (.int .u8 0), (.int .u8 0), (.int .u8 0), (.int .u8 0), (.int .u8 0), (.int .u8 0), (.int .u8 0), (.int .u8 0), (.int .u8 0), (.int .u8 0), (.int .u8 0), (.int .u8 0), (.int .u8 0), (.int .u8 0), (.int .u8 0), (.int .u8 0), (.int .u8 0), (.int .u8 0), (.int .u8 0), (.int .u8 0), (.int .u8 0), (.int .u8 0), (.int .u8 0), (.int .u8 0), (.int .u8 0), (.int .u8 0), (.int .u8 0), (.int .u8 0), (.int .u8 0), (.int .u8 0), (.int .u8 0), (.int .u8 0), (.int .u8 0), (.int .u8 0), (.int .u8 0), (.int .u8 0), (.int .u8 0), (.int .u8 0), (.int .u8 0), (.int .u8 0), (.int .u8 0), (.int .u8 0), (.int .u8 0), (.int .u8 0), (.int .u8 0), (.int .u8 0), (.int .u8 0), (.int .u8 0), (.int .u8 0), (.int .u8 0), (.int .u8 0), (.int .u8 0), (.int .u8 0), (.int .u8 0), (.int .u8 0), (.int .u8 0), (.int .u8 0), (.int .u8 0), (.int .u8 0), (.int .u8 0), (.int .u8 0), (.int .u8 0), (.int .u8 0), (.int .u8 0), (.int .u8 0), (.int .u8 0), (.int .u8 0), (.int .u8 0), (.int .u8 0), (.int .u8 0), (.int .u8 0), (.int .u8 0), (.int .u8 0), (.int .u8 0), (.int .u8 0), (.int .u8 0), (.int .u8 0), (.int .u8 0), (.int .u8 0), (.int .u8 0), (.int .u8 0), (.int .u8 0), (.int .u8 0), (.int .u8 0), (.int .u8 0), (.int .u8 0), (.int .u8 0), (.int .u8 0), (.int .u8 0), (.int .u8 0), (.int .u8 0), (.int .u8 0), (.int .u8 0), (.int .u8 0), (.int .u8 0), (.int .u8 0), (.int .u8 0), (.int .u8 0), (.int .u8 0), (.int .u8 0), (.int .u8 0), (.int .u8 0), (.int .u8 0), (.int .u8 0), (.int .u8 0), (.int .u8 0), (.int .u8 0), (.int .u8 0), (.int .u8 0), (.int .u8 0), (.int .u8 0), (.int .u8 0), (.int .u8 0), (.int .u8 0), (.int .u8 0), (.int .u8 0), (.int .u8 0), (.int .u8 0), (.int .u8 0), (.int .u8 0), (.int .u8 0), (.int .u8 0), (.int .u8 0), (.int .u8 0), (.int .u8 0), (.int .u8 0), (.int .u8 0), (.int .u8 0), (.int .u8 0), (.int .u8 0), (.int .u8 0), (.int .u8 0), (.int .u8 0), (.int .u8 0), (.int .u8 0), (.int .u8 0), (.int .u8 0), (.int .u8 0), (.int .u8 0), (.int .u8 0), (.int .u8 0), (.int .u8 0), (.int .u8 0), (.int .u8 0), (.int .u8 0), (.int .u8 0), (.int .u8 0), (.int .u8 0), (.int .u8 0), (.int .u8 0), (.int .u8 0), (.int .u8 0), (.int .u8 0), (.int .u8 0), (.int .u8 0), (.int .u8 0), (.int .u8 0), (.int .u8 0), (.int .u8 0), (.int .u8 0), (.int .u8 0), (.int .u8 0), (.int .u8 0), (.int .u8 0), (.int .u8 0), (.int .u8 0), (.int .u8 0), (.int .u8 0), (.int .u8 0), (.int .u8 0), (.int .u8 0), (.int .u8 0), (.int .u8 0), (.int .u8 0), (.int .u8 0), (.int .u8 0), (.int .u8 0), (.int .u8 0), (.int .u8 0), (.int .u8 0), (.int .u8 0), (.int .u8 0), (.int .u8 0), (.int .u8 0), (.int .u8 0), (.int .u8 0), (.int .u8 0), (.int .u8 0), (.int .u8 0), (.int .u8 0), (.int .u8 0), (.int .u8 0), (.int .u8 0), (.int .u8 0), (.int .u8 0), (.int .u8 0), (.int .u8 0), (.int .u8 0), (.int .u8 0), (.int .u8 0), (.int .u8 0), (.int .u8 0), (.int .u8 0), (.int .u8 0), (.int .u8 0), (.int .u8 0), (.int .u8 0), (.int .u8 0), (.int .u8 0), (.int .u8 0), (.int .u8 0), (.int .u8 0), (.int .u8 0), (.int .u8 0), (.int .u8 0), (.int .u8 0), (.int .u8 0), (.int .u8 0), (.int .u8 0), (.int .u8 0), (.int .u8 0), (.int .u8 0), (.int .u8 0), (.int .u8 0), (.int .u8 0), (.int .u8 0), (.int .u8 0), (.int .u8 0), (.int .u8 0), (.int .u8 0), (.int .u8 0), (.int .u8 0), (.int .u8 0), (.int .u8 0), (.int .u8 0), (.int .u8 0), (.int .u8 0), (.int .u8 0), (.int .u8 0), (.int .u8 0), (.int .u8 0), (.int .u8 0), (.int .u8 0), (.int .u8 0), (.int .u8 0), (.int .u8 0), (.int .u8 0), (.int .u8 0), (.int .u8 0), (.int .u8 0), (.int .u8 0), (.int .u8 0), (.int .u8 0), (.int .u8 0), (.int .u8 0), (.int .u8 0), (.int .u8 0), (.int .u8 0), (.int .u8 0), (.int .u8 0), (.int .u8 0), (.int .u8 0), (.int .u8 0), (.int .u8 0), (.int .u8 0), (.int .u8 0), (.int .u8 0), (.int .u8 0), (.int .u8 0), (.int .u8 0), (.int .u8 0), (.int .u8 0), (.int .u8 0), (.int .u8 0), (.int .u8 0), (.int .u8 0), (.int .u8 0), (.int .u8 0), (.int .u8 0), (.int .u8 0), (.int .u8 0), (.int .u8 0), (.int .u8 0), (.int .u8 0), (.int .u8 0), (.int .u8 0), (.int .u8 0), (.int .u8 0), (.int .u8 0), (.int .u8 0), (.int .u8 0), (.int .u8 0), (.int .u8 0), (.int .u8 0), (.int .u8 0), (.int .u8 0), (.int .u8 0), (.int .u8 0), (.int .u8 0), (.int .u8 0), (.int .u8 0), (.int .u8 0), (.int .u8 0), (.int .u8 0), (.int .u8 0), (.int .u8 0), (.int .u8 0), (.int .u8 0), (.int .u8 0), (.int .u8 0), (.int .u8 0), (.int .u8 0), (.int .u8 0), (.int .u8 0), (.int .u8 0), (.int .u8 0), (.int .u8 0), (.int .u8 0), (.int .u8 0), (.int .u8 0), (.int .u8 0), (.int .u8 0), (.int .u8 0), (.int .u8 0), (.int .u8 0), (.int .u8 0), (.int .u8 0), (.int .u8 0), (.int .u8 0), (.int .u8 0), (.int .u8 0), (.int .u8 0), (.int .u8 0), (.int .u8 0), (.int .u8 0), (.int .u8 0), (.int .u8 0), (.int .u8 0), (.int .u8 0), (.int .u8 0), (.int .u8 0), (.int .u8 0), (.int .u8 0), (.int .u8 0), (.int .u8 0), (.int .u8 0), (.int .u8 0), (.int .u8 0), (.int .u8 0), (.int .u8 0), (.int .u8 0), (.int .u8 0), (.int .u8 0), (.int .u8 0), (.int .u8 0), (.int .u8 0), (.int .u8 0), (.int .u8 0), (.int .u8 0), (.int .u8 0), (.int .u8 0), (.int .u8 0), (.int .u8 0), (.int .u8 0), (.int .u8 0), (.int .u8 0), (.int .u8 0), (.int .u8 0), (.int .u8 0), (.int .u8 0), (.int .u8 0), (.int .u8 0), (.int .u8 0), (.int .u8 0), (.int .u8 0), (.int .u8 0), (.int .u8 0), (.int .u8 0), (.int .u8 0), (.int .u8 0), (.int .u8 0), (.int .u8 0), (.int .u8 0), (.int .u8 0), (.int .u8 0), (.int .u8 0), (.int .u8 0), (.int .u8 0), (.int .u8 0), (.int .u8 0), (.int .u8 0), (.int .u8 0), (.int .u8 0), (.int .u8 0), (.int .u8 0), (.int .u8 0), (.int .u8 0), (.int .u8 0), (.int .u8 0), (.int .u8 0), (.int .u8 0), (.int .u8 0), (.int .u8 0), (.int .u8 0), (.int .u8 0), (.int .u8 0), (.int .u8 0), (.int .u8 0), (.int .u8 0), (.int .u8 0), (.int .u8 0), (.int .u8 0), (.int .u8 0), (.int .u8 0), (.int .u8 0), (.int .u8 0), (.int .u8 0), (.int .u8 0), (.int .u8 0), (.int .u8 0), (.int .u8 0), (.int .u8 0), (.int .u8 0), (.int .u8 0), (.int .u8 0), (.int .u8 0), (.int .u8 0), (.int .u8 0), (.int .u8 0), (.int .u8 0), (.int .u8 0), (.int .u8 0), (.int .u8 0), (.int .u8 0), (.int .u8 0), (.int .u8 0), (.int .u8 0), (.int .u8 0), (.int .u8 0), (.int .u8 0), (.int .u8 0), (.int .u8 0), (.int .u8 0), (.int .u8 0), (.int .u8 0), (.int .u8 0), (.int .u8 0), (.int .u8 0)]))])
 (.seq (.ops [(oP 4 (.sliceP 512 1 (.t 3) none none none)),
 (mV 5 0),
 (oP 6 (.cpy 1 (.t 4) (.t 5)))])
 (.seq (.ops [(oP 7 (.load true 512 (.t 3))),
 (oU (.store 512 (.t 2) (.t 7)))])
 .ret))))
theorem F68 : FI 68 1 8 4 [.cell 2 136] c68 := ⟨⟨Tryz.f68, Tryz.func68, by kernel_rfl, by kernel_rfl, by kernel_rfl⟩, by kernel_rfl, by decide, by kernel_rfl⟩
/- f12 understory/page.Encode: 45 temporaries, depth 6, 1 parameters, results [t2, t3] -/
def c12 : RC :=
 (.seq (.ops [(oP 1 (.box 25 (.t 0))),
 (oP 2 (.mv (.c (.str [])))),
 (oP 3 (.mv (.c (.int .i64 0))))])
 (.seq (.seq (.ops [(oP 5 (.load true 10 (.t 1))),
 (oP 6 (.callF 16 [(.t 5)])),
 (oP 7 (.bin .neq (.t 6) (.c (.int .i64 0))))])
 (.cond (.t 7)
 (.seq (.ops [(oP 2 (.mv (.c (.str [])))),
 (oP 3 (.mv (.c (.int .i64 2))))])
 .ret)
 .skip))
 (.seq (.ops [(oP 8 (.build [.nilp, (.lst 0 [] true)] [])),
 (oP 9 (.box 117 (.t 8))),
 (mV 4 9)])
 (.seq (.ops [(mV 10 4),
 (oP 11 (.nilCheck (.t 10))),
 (oP 12 (.fieldAddr 0 (.t 11))),
 (oP 13 (.callF 56 [(.t 12), (.c (.int .u8 85))]))])
 (.seq (.ops [(mV 14 4),
 (oP 15 (.fieldAddr 0 (.t 1))),
 (oP 16 (.load false 1 (.t 15))),
 (oP 17 (.callF 57 [(.t 14), (.t 16), (.c (.int .i64 1))]))])
 (.seq (.ops [(mV 18 4),
 (oP 19 (.fieldAddr 1 (.t 1))),
 (oP 20 (.load false 1 (.t 19))),
 (oP 21 (.callF 57 [(.t 18), (.t 20), (.c (.int .i64 4))]))])
 (.seq (.ops [(mV 22 4),
 (oP 23 (.fieldAddr 2 (.t 1))),
 (oP 24 (.load false 1 (.t 23))),
 (oP 25 (.callF 57 [(.t 22), (.t 24), (.c (.int .i64 6))]))])
 (.seq (.ops [(oP 26 (.load true 10 (.t 1))),
 (oP 27 (.callF 58 [(.t 26)])),
 (mV 28 4),
 (oP 29 (.inv (.t 27) "understory/page.write" [(.t 28)]))])
 (.cut (.seq (.draw [((mV 30 4), 0),
 ((oP 31 (.nilCheck (.t 30))), 0),
 ((oP 32 (.fieldAddr 0 (.t 31))), 0),
 ((mV 33 4), 0),
 ((oP 34 (.nilCheck (.t 33))), 0),
 ((oP 35 (.fieldAddr 0 (.t 34))), 0),
 ((oP 36 (.callF 61 [(.t 35)])), 2),
 ((oP 37 (.bin .sub (.c (.int .i64 508)) (.t 36))), 0),
 ((oP 38 (.callF 60 [(.c (.str [0])), (.t 37)])), 0),
 ((oP 39 (.callF 59 [(.t 32), (.t 38)])), 2)])
 (.seq (.ops [(mV 40 4),
 (oP 41 (.nilCheck (.t 40))),
 (oP 42 (.fieldAddr 0 (.t 41))),
 (oP 43 (.callF 63 [(.t 42)])),
 (oP 44 (.callF 62 [(.t 43)])),
 (mV 2 44),
 (oP 3 (.mv (.c (.int .i64 0))))])
 .ret)))))))))))
theorem F12 : FI 12 1 45 6 [.tmp 2, .tmp 3] c12 := ⟨⟨Tryz.f12, Tryz.func12, by kernel_rfl, by kernel_rfl, by kernel_rfl⟩, by kernel_rfl, by decide, by kernel_rfl⟩
end Go.Proofs
/- Contracts: few entries, entries that fit, the capacity. -/
set_option linter.unusedVariables false
set_option linter.unusedSimpArgs false
namespace Go.Proofs
open Go Go.Abs
def tiny (e : Entry) : Bool := decide (e.key.length ≤ 300) && decide (e.val.length ≤ 300)
def few (l : List Entry) : Bool := decide (l.length ≤ 100) && l.all tiny
theorem few_bad {l : List Entry} {j : Nat} (hj : j < l.length) (hb : tiny l[j] = false) : few l = false := by
  have : l.all tiny = false := by
    rw [List.all_eq_false]
    exact ⟨l[j], List.getElem_mem hj, by simp [hb]⟩
  simp [few, this]
theorem few_iff {l : List Entry} : few l = true ↔ l.length ≤ 100 ∧ ∀ e ∈ l, e.key.length ≤ 300 ∧ e.val.length ≤ 300 := by
  simp [few, tiny]
section
variable {n : Nat} {h : AHeap}
theorem few_loop {m : Nat} (l : List Entry) (sz : Nat) (hz : l ≠ [] → sz = 22) (c : Bool) {Q : Ex → LS → Prop} {s : LS}
    (hs : LS.sub ⟨[(0, .lst sz (l.map Entry.av) c), (3, i64 0)], [], []⟩ s)
    (hE : few l = decide (l.length ≤ 100) → ∀ L, lk L 0 = some (.lst sz (l.map Entry.av) c) → Q (.exit 0) ⟨L, [], []⟩) (hR : few l = false → ∀ L, lk L 2 = some (.bool false) → Q .ret ⟨L, [], []⟩) :
    OkR Tryz.prog (C m) cfg0.inl KK 33 6 (.loop (c24.lp 0)) s Q := by
  refine loopI (by decide) rfl (α := Nat) (fun x => ⟨[(0, .lst sz (l.map Entry.av) c), (3, i64 x)], [], []⟩)
    (fun x => (x ≤ l.length ∧ x ≤ 101) ∧ ∀ i (hi : i < l.length), i < x → tiny l[i] = true) (fun x => 101 - x) 0 hs ?_ ?_ ?_
  · exact ⟨⟨Nat.zero_le _, by omega⟩, fun i _ hi => absurd hi (Nat.not_lt_zero _)⟩
  · show 101 - 0 < KK; simp only [KK]; omega
  · rintro j ⟨⟨g1, g0⟩, g2⟩
    have ext : ∀ (hj : j < l.length), tiny l[j] = true → ∀ i (hi : i < l.length), i < j + 1 → tiny l[i] = true := fun hj hv i hi hi2 => by
      by_cases e : i = j
      · subst e; exact hv
      · exact g2 i hi (by omega)
    conv => whnf
    refine brd (fun b => ?_) (fun b => ?_)
    · have hj : j < l.length := by simp at b; omega
      conv => whnf
      refine brd (fun d => ?_) (fun d => ?_)
      · repeat' (conv => whnf); first
          | (exfalso; omega)
          | refine brd (fun _ => ?_) (fun _ => ?_)
          | refine ixL entry_cells hj hz ?_
          | refine zI (z := ((j + 1 : Nat) : Int)) (by rw [wrap_i64 (by omega) (by omega)]; rfl) ?_
          | refine hR (few_bad hj ?_) _ rfl
          | refine nxI (j + 1) ⟨⟨hj, by omega⟩, ext hj ?_⟩ (by omega) ⟨⟨rfl, rfl⟩, rfl, rfl⟩
        all_goals simp [tiny]; omega
      · conv => whnf
        refine hE ?_ _ rfl
        have : l.length > 100 := by omega
        simp [few, show ¬ l.length ≤ 100 by omega]
    · have hj : j = l.length := by simp at b; omega
      conv => whnf
      refine hE ?_ _ rfl
      have : l.all tiny = true := by
        rw [List.all_eq_true]
        intro e he
        obtain ⟨i, hi, rfl⟩ := List.getElem_of_mem he
        exact g2 i hi (by omega)
      simp [few, this]

theorem few_eq (hn : 1 ≤ n) (l : List Entry) (sz : Nat) (hz : l ≠ [] → sz = 22) (c : Bool) : C n 24 [.lst sz (l.map Entry.av) c] h = some (.ret (.bool (few l)), h) := by
  obtain ⟨m, rfl⟩ : ∃ m, n = m + 1 := ⟨n - 1, by omega⟩
  refine fun_pure F24 rfl rfl rfl (pure_lst entry_pure l rfl) ?_
  conv => whnf
  refine few_loop l sz hz c ⟨⟨rfl, rfl⟩, rfl, rfl⟩ (fun e L hk => ?_) (fun e L hk => ?_)
  · refine cutI (by decide) rfl (t := ⟨[(0, .lst sz (l.map Entry.av) c)], [], []⟩) ⟨hk, rfl, rfl⟩ ?_
    conv => whnf
    exact retP rfl (frz_bool (by rw [e]; simp; omega))
  · exact retK hk (frz_bool e.symm)

def fits (l : List Entry) (lv : Int) : Bool := valid l lv && (match weight l lv with | some n => decide (n ≤ 496) | none => false)
theorem valid_iff {l : List Entry} {lv : Int} : valid l lv = true ↔ (0 ≤ lv ∧ lv ≤ 20) ∧ l ≠ [] ∧ (lv = 0 ∨ (2 ≤ l.length ∧ keyAt l 0 = [])) ∧ ∀ i, i < l.length → vAt lv l i = true := by
  simp [valid, within_iff, and_assoc]
theorem wsum_some {lv : Int} : ∀ {l : List Entry}, (∀ e ∈ l, weighB e lv = true) ↔ (∃ w, wsum lv l = some w)
  | [] => by simp [wsum]
  | e :: r => by
    simp only [List.mem_cons, forall_eq_or_imp, wsum]
    rw [wsum_some (l := r)]
    by_cases hw : weighB e lv = true
    · simp only [hw, if_true, true_and]
      constructor
      · rintro ⟨w, h⟩; exact ⟨_, by rw [h]; rfl⟩
      · rintro ⟨w, h⟩
        cases hr : wsum lv r with
        | none => rw [hr] at h; cases h
        | some x => exact ⟨x, rfl⟩
    · simp [hw]
theorem weigh_form {e : Entry} (hf : formOf e ≠ 0) : weighB e 0 = true := by
  have : formOf e = 0 ∨ formOf e = 1 ∨ formOf e = 2 ∨ formOf e = 3 := by
    unfold formOf
    repeat' (first | split)
    all_goals simp
  simp [weighB]; omega
theorem valid_weight {l : List Entry} {lv : Int} (hv : valid l lv = true) : ∃ w, weight l lv = some w := by
  obtain ⟨h1, h2, h3, h4⟩ := valid_iff.1 hv
  have : ∃ w, wsum lv l = some w := wsum_some.1 fun e he => by
    obtain ⟨j, hj, rfl⟩ := List.getElem_of_mem he
    have := h4 j hj
    rw [vAt_unf hj] at this
    by_cases e0 : lv = 0
    · subst e0
      simp at this
      exact weigh_form this.1
    · simp [e0] at this
      simp [weighB, show 0 < lv by omega, this.1.1]
  obtain ⟨w, hw⟩ := this
  exact ⟨6 + w, by simp [weight, hw, within_iff.2 h1]⟩
theorem fits_eq (hn : 6 ≤ n) (l : List Entry) (hl : l.length < 1099511627776) (he : ∀ e ∈ l, e.Ok) (lv : Int) (sz : Nat) (hz : l ≠ [] → sz = 22) (c : Bool) : C n 72 [.lst sz (l.map Entry.av) c, i64 lv] h = some (.ret (.bool (fits l lv)), h) := by
  obtain ⟨m, rfl⟩ : ∃ m, n = m + 1 := ⟨n - 1, by omega⟩
  refine fun_pure F72 rfl rfl rfl (pure_lst entry_pure l rfl) ?_
  conv => whnf
  refine clI (valid_eq (by omega) l hl lv sz hz c) ?_
  conv => whnf
  refine brn (fun a => ?_) (fun a => ?_)
  · conv => whnf
    exact retP rfl (frz_bool (by simp [fits, a]))
  · obtain ⟨w, hw⟩ := valid_weight a
    have e : weightR l lv = .tup [i64 w, i64 0] := by simp [weightR, hw]
    conv => whnf
    refine clI (Eq.trans (weight_eq (by omega) l hl he lv sz hz c) (by rw [e])) ?_
    conv => whnf
    exact retP rfl (frz_bool (by simp [fits, a, hw]))
end
end Go.Proofs
