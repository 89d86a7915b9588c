/- Texts put together: Qo, Qg, Qh, Qp, Qr, Qi, Qj, Qs, Ql, Da, Db, Np, Qm. -/
import Derived.Test.YtfddiediieblhaaGreatLis9
import Derived.Test.YtfddiediieblhaaGreatLis8
import Derived.Test.YtfddiediieblhaaGreatLis7
/- Contracts: the reference's pages of a list. -/
set_option linter.unusedVariables false
set_option linter.unusedSimpArgs false
namespace Go.Proofs
open Go Go.Abs
theorem lstPg_frz {h : AHeap} {ds : List LP} {no : List Int} {v : Int} {n : Nat} : ∀ p ∈ lstPs ds no v, ∀ x ∈ p.cells, Abs.frz h (n + 4) x = some x := fun p hp x hx => by
  obtain ⟨k, _, rfl⟩ := List.mem_map.1 hp
  simp only [lstPg, Page.cells, List.mem_cons, List.not_mem_nil, or_false] at hx
  rcases hx with rfl | rfl | rfl | rfl | rfl | rfl | rfl | rfl | rfl | rfl
  all_goals first | rfl | exact avP_frz _ h
/-- One page more. -/
theorem lst_push {ds : List LP} {no : List Int} {v : Int} {j : Nat} {hp H : AHeap} {L : AV} {X : List AV} (g : WBuf 1 tPage 10 hp L (rowP ((List.range j).map (lstPg ds no v)))) (hj : j < 1048576) (hlo : 1 ≤ hp.length) (hX : (lstPg ds no v j).cells = X) (hk : ∀ k, k < hp.length → H[k]? = hp[k]?) (hl : hp.length ≤ H.length) :
    ∃ w hp', appR H tPage 10 L (.lst 10 [.agg X] true) = some (w, some hp') ∧ WBuf 1 tPage 10 hp' w (rowP ((List.range (j + 1)).map (lstPg ds no v))) ∧ hp'[0]? = hp[0]? ∧ 1 ≤ hp'.length := by
  have g1 : WBuf 1 tPage 10 H L (rowP ((List.range j).map (lstPg ds no v))) := g.keep fun k hb => hk k (g.blt hb).1
  subst hX
  obtain ⟨w, hp', ea, b', e0, e1⟩ := wbuf_app (x := .lst 10 [.agg (lstPg ds no v j).cells] true) g1 (by omega) rfl (first_agg _ rfl rfl) ⟨rfl, rfl⟩ (by simp; omega)
  refine ⟨w, hp', ea, ?_, ?_, by omega⟩
  · rw [List.range_succ, List.map_append, List.map_cons, List.map_nil, rowP, List.map_append]
    exact b'
  · rw [e0 0 (by decide)]
    exact hk 0 (by omega)
section
variable {n : Nat} {h : AHeap}
theorem refListNeeds_eq (hn : 3 ≤ n) (l : List Freed) (hl : l.length < 1048576) (hf : ∀ f ∈ l, f.Ok ∧ f.pages.length < 9223372036854775808) (hw : freedOk l = true → wgt (l.map Freed.core) < 1048576) (sz : Nat) (hz : l ≠ [] → sz = 2) (c : Bool) : C n 39 [.lst sz (l.map Freed.av) c] h = some (.ret (.agg [i64 (if freedOk l = true then ((partsOf (l.map Freed.core)).length : Int) else 0), i64 (if freedOk l = true then 0 else 2)]), h) := by
  obtain ⟨m, rfl⟩ : ∃ m, n = m + 1 := ⟨n - 1, by omega⟩
  have cF : ∀ h, C m 53 [.lst sz (l.map Freed.av) c] h = some (.ret (.bool (freedOk l)), h) := fun h => refFreed_eq (by omega) l hl hf sz hz c
  refine fun_pure F39 rfl rfl rfl (pure_lst freed_pure l rfl) ?_
  cases hk : freedOk l with
  | false =>
    rw [hk] at cF
    conv => whnf
    refine clI (cF _) ?_
    conv => whnf
    refine stI (xs := [i64 0, i64 2]) (by rfl) (by rfl) (by rfl) (by rfl) (by rfl) ?_
    exact ⟨rfl, _, cell_res (el := some 92) (f := 0) (cs := [i64 0, i64 2]) (N := 2) (b := 0) rfl (by kernel_rfl) rfl rfl, rfl⟩
  | true =>
    rw [hk] at cF
    obtain ⟨r, e1, ⟨ds, sh, rfl, h1, h2, h3⟩⟩ := refParts_eq (n := m) (by omega) l hl (freed_few hk hf) (freedOk_ne hk) (hw hk) sz hz c
    have hd : ((ds.map avP).length : Int) = ((partsOf (l.map Freed.core)).length : Int) := by rw [← h1.eq, List.length_map, List.length_map]
    conv => whnf
    refine clI (cF _) ?_
    conv => whnf
    refine clI (e1 _) ?_
    conv => whnf
    refine stI (xs := [i64 ((ds.map avP).length : Nat), i64 0]) (by rfl) (by rfl) (by rfl) (by rfl) (by rfl) ?_
    refine ⟨rfl, _, cell_res (el := some 92) (f := 0) (cs := [i64 ((ds.map avP).length : Nat), i64 0]) (N := 2) (b := 0) rfl (by kernel_rfl) rfl rfl, ?_⟩
    show some (AV.agg [i64 ((ds.map avP).length : Nat), i64 0]) = _
    rw [hd]
    rfl
set_option maxRecDepth 10000 in
theorem refListPages_eq (hn : 4 ≤ n) (l : List Freed) (hl : l.length < 1048576) (hf : ∀ f ∈ l, f.Ok ∧ f.pages.length < 9223372036854775808) (hw : freedOk l = true → wgt (l.map Freed.core) < 1048576) (sz : Nat) (hz : l ≠ [] → sz = 2) (c : Bool) (no : List Int) (hno : no.length < 1048576) (nz : Nat) (hnz : no ≠ [] → nz = 1) (nc : Bool) (v : Int) :
    ∃ (ps : List Page) (sh : Sh) (e : Int), (∀ h, C n 41 [.lst sz (l.map Freed.av) c, .lst nz (no.map i64) nc, i64 v] h = some (.ret (.agg [.lst sh.sz (ps.map Page.av) sh.c, i64 e]), h)) ∧ ListSpec l no v ps e ∧ (ps ≠ [] → sh.sz = 10) ∧ ∀ p ∈ ps, p.Ok := by
  obtain ⟨m, rfl⟩ : ∃ m, n = m + 1 := ⟨n - 1, by omega⟩
  have cF : ∀ h, C m 53 [.lst sz (l.map Freed.av) c] h = some (.ret (.bool (freedOk l)), h) := fun h => refFreed_eq (by omega) l hl hf sz hz c
  have cN : ∀ h, C m 94 [.lst nz (no.map i64) nc, i64 v] h = some (.ret (.bool (numsOk no v)), h) := fun h => refNumbered_eq (by omega) no (by omega) nz hnz nc v
  have hpure : pureBs [.lst sz (l.map Freed.av) c, .lst nz (no.map i64) nc, i64 v] = true := pure_lst freed_pure l (ints_pure no rfl)
  cases hk : freedOk l with
  | false =>
    rw [hk] at cF
    refine ⟨[], ⟨0, true⟩, 2, fun h => ?_, .form hk, fun q => (q rfl).elim, fun p hp => (by cases hp)⟩
    refine fun_cold F41 rfl rfl rfl hpure ?_
    conv => whnf
    refine clI (cF _) ?_
    conv => whnf
    refine stI (xs := [.lst 0 [] true, i64 2]) (by rfl) (by rfl) (by rfl) (by rfl) (by rfl) ?_
    exact ⟨rfl, _, cell_res (el := some 81) (f := 0) (cs := [.lst 0 [] true, i64 2]) (N := 2) (b := 0) rfl (by kernel_rfl) rfl rfl, rfl⟩
  | true =>
    rw [hk] at cF
    have hfew := freed_few hk hf
    have hne := freedOk_ne hk
    obtain ⟨r, e1, ⟨ds, sh, rfl, h1, h2, h3⟩⟩ := refParts_eq (n := m) (by omega) l hl hfew hne (hw hk) sz hz c
    have hd : (partsOf (l.map Freed.core)).length = ds.length := by rw [← h1.eq, List.length_map]
    have hsm := h1.small (by rw [List.length_map]; exact hl) (fun x hx => by obtain ⟨f, hf', rfl⟩ := List.mem_map.1 hx; exact ⟨hne f hf', (hfew f hf').2⟩)
    have hw2 : ∀ x ∈ ds, x.1.length < 1048576 ∧ ∀ f ∈ x.1, f.pages.length < 1048576 := fun x hx => by
      obtain ⟨q1, q2⟩ := hsm (coreP x) (List.mem_map.2 ⟨x, hx, rfl⟩)
      refine ⟨by simpa [coreP] using q1, fun f hf' => q2 f.core (List.mem_map.2 ⟨f, hf', rfl⟩)⟩
    by_cases hlt : no.length < ds.length
    · refine ⟨[], ⟨0, true⟩, 1, fun h => ?_, .arg hk (.inl (by omega)), fun q => (q rfl).elim, fun p hp => (by cases hp)⟩
      refine fun_cold F41 rfl rfl rfl hpure ?_
      conv => whnf
      refine clI (cF _) ?_
      conv => whnf
      refine clI (e1 _) ?_
      conv => whnf
      refine brd (fun _ => ?_) (fun a => absurd (by rw [List.length_map, List.length_map]; omega) a)
      conv => whnf
      refine stI (xs := [.lst 0 [] true, i64 1]) (by rfl) (by rfl) (by rfl) (by rfl) (by rfl) ?_
      exact ⟨rfl, _, cell_res (el := some 81) (f := 0) (cs := [.lst 0 [] true, i64 1]) (N := 2) (b := 0) rfl (by kernel_rfl) rfl rfl, rfl⟩
    cases hq : numsOk no v with
    | false =>
      rw [hq] at cN
      refine ⟨[], ⟨0, true⟩, 1, fun h => ?_, .arg hk (.inr hq), fun q => (q rfl).elim, fun p hp => (by cases hp)⟩
      refine fun_cold F41 rfl rfl rfl hpure ?_
      conv => whnf
      refine clI (cF _) ?_
      conv => whnf
      refine clI (e1 _) ?_
      conv => whnf
      refine brd (fun a => absurd a (by rw [List.length_map, List.length_map]; omega)) (fun _ => ?_)
      conv => whnf
      refine clI (cN _) ?_
      conv => whnf
      refine stI (xs := [.lst 0 [] true, i64 1]) (by rfl) (by rfl) (by rfl) (by rfl) (by rfl) ?_
      exact ⟨rfl, _, cell_res (el := some 81) (f := 0) (cs := [.lst 0 [] true, i64 1]) (N := 2) (b := 0) rfl (by kernel_rfl) rfl rfl, rfl⟩
    | true =>
      rw [hq] at cN
      have hlp : (lstPs ds no v).length = no.length := by simp [lstPs]
      refine ⟨lstPs ds no v, if no = [] then ⟨0, true⟩ else ⟨10, false⟩, 0, fun h => ?_, .ok hk (by omega) hq hlp (lstPs_spec h1), fun q => ?_, lstPs_ok h2 hw2⟩
      case refine_2 =>
        rw [if_neg]
        rintro rfl
        exact q (List.length_eq_zero_iff.1 hlp)
      refine fun_cold F41 rfl rfl rfl hpure ?_
      conv => whnf
      refine clI (cF _) ?_
      conv => whnf
      refine clI (e1 _) ?_
      conv => whnf
      refine brd (fun a => absurd a (by rw [List.length_map, List.length_map]; omega)) (fun _ => ?_)
      conv => whnf
      refine clI (cN _) ?_
      conv => whnf
      refine loopI (by decide) rfl (α := Nat × AV × AHeap) (fun x => ⟨[(1, .lst nz (no.map i64) nc), (2, i64 v), (6, .ptr 0 0 0), (7, .lst sh.sz (ds.map avP) sh.c), (8, x.2.1), (9, i64 x.1)], x.2.2, []⟩)
        (fun x => x.1 ≤ no.length ∧ WBuf 1 tPage 10 x.2.2 x.2.1 (rowP ((List.range x.1).map (lstPg ds no v))) ∧ x.2.2[0]? = some (.cells 0 (some 81) [.lst 0 [] true, i64 0] 0) ∧ 1 ≤ x.2.2.length ∧ (no = [] → x.2.1 = .lst 0 [] true)) (fun x => no.length - x.1) (0, .lst 0 [] true, [.cells 0 (some 81) [.lst 0 [] true, i64 0] 0]) ⟨⟨rfl, rfl, rfl, rfl, rfl, rfl⟩, rfl, rfl⟩ ⟨Nat.zero_le _, WBuf.nil, rfl, by decide, fun _ => rfl⟩ (by show no.length - 0 < KK; simp only [KK]; omega) ?_
      rintro ⟨j, L, hp⟩ ⟨g1, g2, g3, hlo, g4⟩
      simp only at g1 g2 g3 hlo g4
      conv => whnf
      refine brd (fun a => ?_) (fun a => ?_)
      · have hj : j < no.length := by simp only [List.length_map] at a; omega
        have hnn : no ≠ [] := by rintro rfl; simp at hj
        have n1 : no.getD j 0 = no[j] := by simp [hj]
        conv => whnf
        refine ⟨by omega, hnz hnn, i64 no[j], by simp [hj], [i64 no[j]], rfl, ?_⟩
        conv => whnf
        refine stI (get_last _ _) (xs := [i64 4, i64 no[j], i64 v, i64 0, i64 0, .bool false, .lst 0 [] true, i64 0, .str [], .lst 0 [] true]) (by rfl) (by rfl) (by rfl) (by rfl) ?_
        conv => whnf
        refine brd (fun a1 => ?_) (fun a1 => ?_)
        · have hj1 : j < ds.length := by simp only [List.length_map] at a1; omega
          have hdne : ds ≠ [] := by rintro rfl; simp at hj1
          have n3 : ds.getD j ([], ⟨0, true⟩) = ds[j] := by simp [hj1]
          conv => whnf
          refine ⟨by omega, h3 hdne, avP ds[j], by simp [hj1], [avP ds[j]], rfl, ?_⟩
          conv => whnf
          refine stI (get_set_last _ _ _) (xs := [avP ds[j]]) (by rfl) (by rfl) (by rfl) (by rfl) ?_
          conv => whnf
          refine zI (z := ((j + 1 : Nat) : Int)) (by rw [wrap_i64 (by simp only; omega) (by simp only; omega)]; rfl) ?_
          conv => whnf
          refine brd (fun a2 => ?_) (fun a2 => ?_)
          · have hj3 : j + 1 < no.length := by simp only [List.length_map] at a2; omega
            have n2 : nextOf no j = no[j + 1] := by unfold nextOf; rw [if_pos hj3]; simp [hj3]
            have hcell : (lstPg ds no v j).cells = [i64 4, i64 no[j], i64 v, i64 0, i64 0, .bool false, .lst 0 [] true, i64 no[j + 1], .str [], avP ds[j]] := by
              unfold Page.cells lstPg
              simp only [n1, n2, n3]
              rfl
            obtain ⟨w, hp', ea, b', e0, e2⟩ := lst_push g2 (by omega) hlo hcell (H := (((hp ++ [AB.cells 0 (some tPage) [i64 0, i64 0, i64 0, i64 0, i64 0, .bool false, .lst 0 [] true, i64 0, .str [], .lst 0 [] true] 0]).set hp.length (.cells 0 (some tPage) (putAt [i64 0, i64 0, i64 0, i64 0, i64 0, .bool false, .lst 0 [] true, i64 0, .str [], .lst 0 [] true] 0 [i64 4, i64 no[j], i64 v, i64 0, i64 0, .bool false, .lst 0 [] true, i64 0, .str [], .lst 0 [] true]) 0)).set hp.length (.cells 0 (some tPage) (putAt (putAt [i64 0, i64 0, i64 0, i64 0, i64 0, .bool false, .lst 0 [] true, i64 0, .str [], .lst 0 [] true] 0 [i64 4, i64 no[j], i64 v, i64 0, i64 0, .bool false, .lst 0 [] true, i64 0, .str [], .lst 0 [] true]) 9 [avP ds[j]]) 0)).set hp.length (.cells 0 (some tPage) (putAt (putAt (putAt [i64 0, i64 0, i64 0, i64 0, i64 0, .bool false, .lst 0 [] true, i64 0, .str [], .lst 0 [] true] 0 [i64 4, i64 no[j], i64 v, i64 0, i64 0, .bool false, .lst 0 [] true, i64 0, .str [], .lst 0 [] true]) 9 [avP ds[j]]) 7 [i64 no[j + 1]]) 0)) (fun k hk => by rw [List.set_set, List.set_set, List.getElem?_set_ne (by omega), List.getElem?_append_left hk]) (by simp)
            conv => whnf
            refine zI (z := ((j + 1 : Nat) : Int)) (by rw [wrap_i64 (by simp only; omega) (by simp only; omega)]; rfl) ?_
            conv => whnf
            refine ⟨by omega, hnz hnn, i64 no[j + 1], by simp [hj3], [i64 no[j + 1]], rfl, ?_⟩
            conv => whnf
            refine stI (List.getElem?_set_self (by simp)) (xs := [i64 no[j + 1]]) (by rfl) (by rfl) (by rfl) (by rfl) ?_
            conv => whnf
            refine ldI (List.getElem?_set_self (by simp)) ?_
            conv => whnf
            refine ⟨rfl, ?_⟩
            conv => whnf
            refine apI ea ?_
            conv => whnf
            refine zI (z := ((j + 1 : Nat) : Int)) (by rw [wrap_i64 (by simp only; omega) (by simp only; omega)]; rfl) ?_
            exact nxI (j + 1, w, hp') ⟨hj, b', e0.trans g3, e2, fun e => absurd e hnn⟩ (by simp only; omega) ⟨⟨rfl, rfl, rfl, rfl, rfl, rfl⟩, rfl, rfl⟩
          · have hj3 : ¬ j + 1 < no.length := by simp only [List.length_map] at a2; omega
            have n2 : nextOf no j = 0 := by unfold nextOf; rw [if_neg hj3]
            have hcell : (lstPg ds no v j).cells = [i64 4, i64 no[j], i64 v, i64 0, i64 0, .bool false, .lst 0 [] true, i64 0, .str [], avP ds[j]] := by
              unfold Page.cells lstPg
              simp only [n1, n2, n3]
              rfl
            obtain ⟨w, hp', ea, b', e0, e2⟩ := lst_push g2 (by omega) hlo hcell (H := ((hp ++ [AB.cells 0 (some tPage) [i64 0, i64 0, i64 0, i64 0, i64 0, .bool false, .lst 0 [] true, i64 0, .str [], .lst 0 [] true] 0]).set hp.length (.cells 0 (some tPage) (putAt [i64 0, i64 0, i64 0, i64 0, i64 0, .bool false, .lst 0 [] true, i64 0, .str [], .lst 0 [] true] 0 [i64 4, i64 no[j], i64 v, i64 0, i64 0, .bool false, .lst 0 [] true, i64 0, .str [], .lst 0 [] true]) 0)).set hp.length (.cells 0 (some tPage) (putAt (putAt [i64 0, i64 0, i64 0, i64 0, i64 0, .bool false, .lst 0 [] true, i64 0, .str [], .lst 0 [] true] 0 [i64 4, i64 no[j], i64 v, i64 0, i64 0, .bool false, .lst 0 [] true, i64 0, .str [], .lst 0 [] true]) 9 [avP ds[j]]) 0)) (fun k hk => by rw [List.set_set, List.getElem?_set_ne (by omega), List.getElem?_append_left hk]) (by simp)
            conv => whnf
            refine ldI (List.getElem?_set_self (by simp)) ?_
            conv => whnf
            refine ⟨rfl, ?_⟩
            conv => whnf
            refine apI ea ?_
            conv => whnf
            refine zI (z := ((j + 1 : Nat) : Int)) (by rw [wrap_i64 (by simp only; omega) (by simp only; omega)]; rfl) ?_
            exact nxI (j + 1, w, hp') ⟨hj, b', e0.trans g3, e2, fun e => absurd e hnn⟩ (by simp only; omega) ⟨⟨rfl, rfl, rfl, rfl, rfl, rfl⟩, rfl, rfl⟩
        · have hj1 : ¬ j < ds.length := by simp only [List.length_map] at a1; omega
          have n3 : ds.getD j ([], ⟨0, true⟩) = ([], ⟨0, true⟩) := by simp [Nat.le_of_not_lt hj1]
          conv => whnf
          refine zI (z := ((j + 1 : Nat) : Int)) (by rw [wrap_i64 (by simp only; omega) (by simp only; omega)]; rfl) ?_
          conv => whnf
          refine brd (fun a2 => ?_) (fun a2 => ?_)
          · have hj3 : j + 1 < no.length := by simp only [List.length_map] at a2; omega
            have n2 : nextOf no j = no[j + 1] := by unfold nextOf; rw [if_pos hj3]; simp [hj3]
            have hcell : (lstPg ds no v j).cells = [i64 4, i64 no[j], i64 v, i64 0, i64 0, .bool false, .lst 0 [] true, i64 no[j + 1], .str [], .lst 0 [] true] := by
              unfold Page.cells lstPg
              simp only [n1, n2, n3]
              rfl
            obtain ⟨w, hp', ea, b', e0, e2⟩ := lst_push g2 (by omega) hlo hcell (H := ((hp ++ [AB.cells 0 (some tPage) [i64 0, i64 0, i64 0, i64 0, i64 0, .bool false, .lst 0 [] true, i64 0, .str [], .lst 0 [] true] 0]).set hp.length (.cells 0 (some tPage) (putAt [i64 0, i64 0, i64 0, i64 0, i64 0, .bool false, .lst 0 [] true, i64 0, .str [], .lst 0 [] true] 0 [i64 4, i64 no[j], i64 v, i64 0, i64 0, .bool false, .lst 0 [] true, i64 0, .str [], .lst 0 [] true]) 0)).set hp.length (.cells 0 (some tPage) (putAt (putAt [i64 0, i64 0, i64 0, i64 0, i64 0, .bool false, .lst 0 [] true, i64 0, .str [], .lst 0 [] true] 0 [i64 4, i64 no[j], i64 v, i64 0, i64 0, .bool false, .lst 0 [] true, i64 0, .str [], .lst 0 [] true]) 7 [i64 no[j + 1]]) 0)) (fun k hk => by rw [List.set_set, List.getElem?_set_ne (by omega), List.getElem?_append_left hk]) (by simp)
            conv => whnf
            refine zI (z := ((j + 1 : Nat) : Int)) (by rw [wrap_i64 (by simp only; omega) (by simp only; omega)]; rfl) ?_
            conv => whnf
            refine ⟨by omega, hnz hnn, i64 no[j + 1], by simp [hj3], [i64 no[j + 1]], rfl, ?_⟩
            conv => whnf
            refine stI (get_set_last _ _ _) (xs := [i64 no[j + 1]]) (by rfl) (by rfl) (by rfl) (by rfl) ?_
            conv => whnf
            refine ldI (List.getElem?_set_self (by simp)) ?_
            conv => whnf
            refine ⟨rfl, ?_⟩
            conv => whnf
            refine apI ea ?_
            conv => whnf
            refine zI (z := ((j + 1 : Nat) : Int)) (by rw [wrap_i64 (by simp only; omega) (by simp only; omega)]; rfl) ?_
            exact nxI (j + 1, w, hp') ⟨hj, b', e0.trans g3, e2, fun e => absurd e hnn⟩ (by simp only; omega) ⟨⟨rfl, rfl, rfl, rfl, rfl, rfl⟩, rfl, rfl⟩
          · have hj3 : ¬ j + 1 < no.length := by simp only [List.length_map] at a2; omega
            have n2 : nextOf no j = 0 := by unfold nextOf; rw [if_neg hj3]
            have hcell : (lstPg ds no v j).cells = [i64 4, i64 no[j], i64 v, i64 0, i64 0, .bool false, .lst 0 [] true, i64 0, .str [], .lst 0 [] true] := by
              unfold Page.cells lstPg
              simp only [n1, n2, n3]
              rfl
            obtain ⟨w, hp', ea, b', e0, e2⟩ := lst_push g2 (by omega) hlo hcell (H := (hp ++ [AB.cells 0 (some tPage) [i64 0, i64 0, i64 0, i64 0, i64 0, .bool false, .lst 0 [] true, i64 0, .str [], .lst 0 [] true] 0]).set hp.length (.cells 0 (some tPage) (putAt [i64 0, i64 0, i64 0, i64 0, i64 0, .bool false, .lst 0 [] true, i64 0, .str [], .lst 0 [] true] 0 [i64 4, i64 no[j], i64 v, i64 0, i64 0, .bool false, .lst 0 [] true, i64 0, .str [], .lst 0 [] true]) 0)) (fun k hk => by rw [List.getElem?_set_ne (by omega), List.getElem?_append_left hk]) (by simp)
            conv => whnf
            refine ldI (get_set_last _ _ _) ?_
            conv => whnf
            refine ⟨rfl, ?_⟩
            conv => whnf
            refine apI ea ?_
            conv => whnf
            refine zI (z := ((j + 1 : Nat) : Int)) (by rw [wrap_i64 (by simp only; omega) (by simp only; omega)]; rfl) ?_
            exact nxI (j + 1, w, hp') ⟨hj, b', e0.trans g3, e2, fun e => absurd e hnn⟩ (by simp only; omega) ⟨⟨rfl, rfl, rfl, rfl, rfl, rfl⟩, rfl, rfl⟩
      · have hj : j = no.length := by simp only [List.length_map] at a; omega
        subst hj
        change WBuf 1 tPage 10 hp L (rowP (lstPs ds no v)) at g2
        by_cases hnn : no = []
        · subst hnn
          have hps : lstPs ds [] v = [] := rfl
          rw [hps] at g2 ⊢
          rw [if_pos rfl]
          have hL := g4 rfl
          subst hL
          have e4 : (hp.set 0 (.cells 0 (some 81) (putAt [.lst 0 [] true, i64 0] 0 [.lst 0 [] true, i64 0]) 0))[0]? = some (.cells 0 (some 81) [.lst 0 [] true, i64 0] 0) := by
            rw [List.getElem?_set_self (lt_of_get g3)]; rfl
          conv => whnf
          refine cutI (by decide) rfl (t := ⟨[(6, .ptr 0 0 0), (8, .lst 0 [] true)], hp, []⟩) ⟨⟨rfl, rfl⟩, rfl, rfl⟩ ?_
          conv => whnf
          refine stI (xs := [.lst 0 [] true, i64 0]) g3 (by rfl) (by rfl) (by rfl) (by rfl) ?_
          exact ⟨rfl, _, cell_res (el := some 81) (f := 0) (cs := [.lst 0 [] true, i64 0]) (N := 2) (b := 0) rfl (by kernel_rfl) rfl e4, rfl⟩
        · rw [if_neg hnn]
          have hpn : lstPs ds no v ≠ [] := by
            intro e
            rw [e, List.length_nil] at hlp
            exact hnn (List.length_eq_zero_iff.1 hlp.symm)
          obtain ⟨eb, ver, rfl⟩ := g2.sl (by simpa [rowP] using hpn)
          have b4 := g2.low (k := 0) (.cells 0 (some 81) (putAt [.lst 0 [] true, i64 0] 0 [.sl 10 eb ver 0 (rowP (lstPs ds no v)).length, i64 0]) 0) (by decide)
          have e4 : (hp.set 0 (.cells 0 (some 81) (putAt [.lst 0 [] true, i64 0] 0 [.sl 10 eb ver 0 (rowP (lstPs ds no v)).length, i64 0]) 0))[0]? = some (.cells 0 (some 81) [.sl 10 eb ver 0 (rowP (lstPs ds no v)).length, i64 0] 0) := by
            rw [List.getElem?_set_self (lt_of_get g3)]; rfl
          conv => whnf
          refine cutI (by decide) rfl (t := ⟨[(6, .ptr 0 0 0), (8, .sl 10 eb ver 0 (rowP (lstPs ds no v)).length)], hp, []⟩) ⟨⟨rfl, rfl⟩, rfl, rfl⟩ ?_
          conv => whnf
          refine stI (xs := [.sl 10 eb ver 0 (rowP (lstPs ds no v)).length, i64 0]) g3 (by rfl) (by rfl) (by rfl) (by rfl) ?_
          refine ⟨rfl, _, cell_res (el := some 81) (f := 0) (cs := [.sl 10 eb ver 0 (rowP (lstPs ds no v)).length, i64 0]) (N := 2) (b := 0) rfl (by kernel_rfl) rfl e4, ?_⟩
          exact frz_agg2 (n := 63) (vbuf_frzP (n := 62) hpn (fun p hp => lstPg_frz (n := 58) p hp) b4.1) rfl
end
end Go.Proofs
/- Lists of freed pages in memory: the last one grows. -/
set_option linter.unusedVariables false
set_option linter.unusedSimpArgs false
namespace Go.Proofs
open Go Go.Abs
theorem row_cell {ts : List FQ} {j : Nat} (hj : j < ts.length) (o : Nat) (ho : o < 2) : ((ts.map rowQ).flatten)[j * 2 + o]? = (rowQ ts[j])[o]? := by
  induction ts generalizing j with
  | nil => simp at hj
  | cons t r ih =>
    cases j with
    | zero =>
      simp only [List.map_cons, List.flatten_cons, Nat.zero_mul, Nat.zero_add, List.getElem_cons_zero]
      rw [List.getElem?_append_left (by simp [rowQ]; omega)]
    | succ j =>
      simp only [List.map_cons, List.flatten_cons, List.getElem_cons_succ]
      have h1 : (rowQ t).length = 2 := rfl
      rw [List.getElem?_append_right (by rw [h1]; omega), h1, show (j + 1) * 2 + o - 2 = j * 2 + o by omega]
      exact ih (by simpa using hj)
theorem first_ints (h : AHeap) (l : List Int) (c : Bool) : firstA h 1 l.length (.lst 1 (l.map i64) c) = some (l.map i64) := by
  unfold firstA
  simp only [List.length_map]
  rw [if_pos ⟨Nat.le_refl _, .inl trivial⟩]
  have h1 : (l.map i64).take l.length = l.map i64 := List.take_of_length_le (by simp)
  rw [h1]
  have h2 : (l.map i64).map AV.cells? = l.map fun e => some [i64 e] := by rw [List.map_map]; rfl
  rw [h2]
  rw [if_pos (by rw [List.all_eq_true]; intro x hx; obtain ⟨e, _, rfl⟩ := List.mem_map.1 hx; rfl)]
  congr 1
  rw [List.flatMap_map]
  have : ∀ l : List Int, (l.flatMap fun e => (some [i64 e]).getD []) = l.map i64 := fun l => by
    induction l with
    | nil => rfl
    | cons a r ih => simp [List.flatMap_cons] at ih ⊢; exact ih
  exact this l
/-- Numbers appended to numbers. -/
theorem nq_app {kc : Bool} {hp : AHeap} {ps qs : List Int} {P Q : AV} (p : NQ false hp ps P) (q : NQ kc hp qs Q) (hl : ps.length + qs.length ≤ 1073741824) :
    ∃ v oh, appR hp 3 1 P Q = some (v, oh) ∧ NQ false (oh.getD hp) (ps ++ qs) v ∧ (∀ k, k < hp.length → blkQ P ≠ some k → (oh.getD hp)[k]? = hp[k]?) ∧ hp.length ≤ (oh.getD hp).length ∧ (∀ k, blkQ v = some k → blkQ P = some k ∨ hp.length ≤ k) := by
  have hs : ∀ l : List Int, (l.map i64).all AV.scal = true := fun l => by
    rw [List.all_eq_true]; intro x hx; obtain ⟨k, _, rfl⟩ := List.mem_map.1 hx; rfl
  have hL : lenA Q = some qs.length := by
    rcases q with (⟨rfl | rfl, rfl⟩ | ⟨b, ver, frz, rfl, _⟩) | ⟨_, z, c, rfl, _⟩
    · rfl
    · rfl
    · rfl
    · simp [lenA]
  have hF : firstA hp 1 qs.length Q = some (qs.map i64) := by
    rcases q with (⟨rfl | rfl, rfl⟩ | ⟨b, ver, frz, rfl, h2, _⟩) | ⟨_, z, c, rfl, hz⟩
    rotate_right
    · by_cases e : qs = []
      · subst e; unfold firstA; simp
      · rw [hz e]; exact first_ints hp qs c
    · unfold firstA; simp
    · rfl
    · have e1 : (qs.map i64).take qs.length = qs.map i64 := List.take_of_length_le (by simp)
      unfold firstA
      simp [h2, e1]
  unfold appR
  rw [hL]
  simp only
  rw [hF]
  simp only [hs, Bool.not_true, Bool.false_eq_true, if_false]
  have hP : (∃ z, P = .lst z [] true ∧ ps = [] ∧ (z = 0 ∨ z = 1)) ∨ ∃ b ver frz, P = .sl 1 b ver 0 ps.length ∧ hp[b]? = some (.cells ver (some 3) (ps.map i64) frz) ∧ frz ≤ ps.length := by
    rcases p with (⟨rfl | rfl, h⟩ | h) | ⟨h, _⟩
    · exact .inl ⟨0, rfl, h, .inl rfl⟩
    · exact .inl ⟨1, rfl, h, .inr rfl⟩
    · exact .inr h
    · cases h
  rcases hP with ⟨z, rfl, rfl, hz⟩ | ⟨b, ver, frz, rfl, h2, h3⟩
  · simp only
    by_cases e : qs.length = 0
    · have : qs = [] := List.length_eq_zero_iff.1 e
      subst this
      rw [if_pos (show ([] : List Int).length = 0 from rfl)]
      refine ⟨_, _, rfl, .inl (.inl ⟨?_, rfl⟩), fun k _ _ => rfl, Nat.le_refl _, fun k hk => by cases hk⟩
      rcases hz with rfl | rfl
      · exact .inl rfl
      · exact .inr rfl
    · rw [if_neg e]
      have h3 : firstA hp 1 ([] : List AV).length (.lst z [] true) = some [] := by
        rcases hz with rfl | rfl
        · unfold firstA; simp
        · rfl
      rw [h3]
      simp only [List.length_nil, Nat.zero_add]
      rw [if_pos ⟨by simpa using hl, rfl⟩]
      refine ⟨_, _, rfl, .inl (.inr ⟨hp.length, 0, 0, rfl, by simp, Nat.zero_le _⟩), fun k hk _ => ?_, by simp, fun k hk => by cases hk; exact .inr (Nat.le_refl _)⟩
      simp only [Option.getD_some]
      rw [List.getElem?_append_left hk]
  · simp only
    rw [h2]
    simp only
    rw [if_pos ⟨.inl trivial, trivial, trivial, trivial, by simp, hs ps, hl, by simpa using h3⟩]
    by_cases e : qs.length = 0
    · have : qs = [] := List.length_eq_zero_iff.1 e
      subst this
      rw [if_pos (show ([] : List Int).length = 0 from rfl)]
      exact ⟨_, _, rfl, .inl (.inr ⟨b, ver, frz, by simp, by simpa using h2, by simpa using h3⟩), fun k _ _ => rfl, Nat.le_refl _, fun k hk => .inl hk⟩
    · rw [if_neg e]
      refine ⟨_, _, rfl, .inl (.inr ⟨b, ver + 1, frz, by simp, ?_, by simp; omega⟩), fun k hk hn => ?_, by simp, fun k hk => .inl hk⟩
      · simp only [Option.getD_some, List.map_append]; rw [List.getElem?_set_self (lt_of_get h2)]
      · simp only [Option.getD_some]
        have : b ≠ k := fun e => hn (by rw [← e]; rfl)
        rw [List.getElem?_set_ne this]
/-- The last one's numbers are others. -/
theorem LB.last {kc : Bool} {lo : Nat} {hp hp2 : AHeap} {ts : List FQ} {t : FQ} {eb ver frz : Nat} (l : LB kc lo hp (.sl 2 eb ver 0 (ts ++ [t]).length) (ts ++ [t])) (hb : hp[eb]? = some (.cells ver (some tFrd) ((ts ++ [t]).map rowQ).flatten frz)) (hfz : frz ≤ ((ts ++ [t]).map rowQ).flatten.length) (ps : List Int) (v : AV) (hlo : lo ≤ hp.length) (q : NQ kc hp2 ps v)
    (hk : ∀ k, k < hp.length → blkQ t.2.2 ≠ some k → hp2[k]? = hp[k]?) (hv : ∀ k, blkQ v = some k → blkQ t.2.2 = some k ∨ hp.length ≤ k) :
    hp2[eb]? = hp[eb]? ∧ LB kc lo (hp2.set eb (.cells ver (some tFrd) (putAt ((ts ++ [t]).map rowQ).flatten (ts.length * 2 + 1) [v]) frz)) (.sl 2 eb ver 0 (ts ++ [t]).length) (ts ++ [(t.1, ps, v)]) := by
  have hebl := lt_of_get hb
  have hteb : blkQ t.2.2 ≠ some eb := fun e => (l.own t (by simp) eb e).2 rfl
  have h1 : hp2[eb]? = hp[eb]? := hk eb hebl hteb
  have hlen : (ts ++ [t]).length = (ts ++ [((t.1, ps, v) : FQ)]).length := by simp
  have hput : putAt ((ts ++ [t]).map rowQ).flatten (ts.length * 2 + 1) [v] = ((ts ++ [((t.1, ps, v) : FQ)]).map rowQ).flatten := by
    have := putAt_rows (w := 2) (o := 1) (xs := [v]) (by simp) (rows := (ts ++ [t]).map rowQ) (j := ts.length) (fun r hm => by obtain ⟨s, _, rfl⟩ := List.mem_map.1 hm; rfl) (by simp)
    rw [this]
    congr 1
    simp [rowQ, putAt]
  have hap := List.pairwise_append.1 l.apart
  have htsl : ∀ s ∈ ts, ∀ b, blkQ s.2.2 = some b → b < hp.length ∧ blkQ t.2.2 ≠ some b ∧ b ≠ eb := fun s hs b hb => by
    have hm : s ∈ ts ++ [t] := by simp [hs]
    exact ⟨(l.val s hm).lt hb, hap.2.2 s hs t (by simp) b hb, fun e => (l.own s hm b hb).2 (by rw [e]; rfl)⟩
  have hveb : ∀ b, blkQ v = some b → b ≠ eb := fun b hvb e => by
    rcases hv b hvb with h | h
    · exact hteb (by rw [← e]; exact h)
    · omega
  refine ⟨h1, ⟨⟨⟨fun r hm => ?_, .inr ⟨eb, ver, frz, ?_, ?_, ?_⟩⟩, fun eb' ver' e => ?_⟩, fun s hs => ?_, fun s hs b hb' => ?_, ?_, fun e => by simp at e, fun eb' ver' el cs f e hc => ?_⟩⟩
  · obtain ⟨s, hs, rfl⟩ := List.mem_map.1 hm
    rw [List.mem_append, List.mem_singleton] at hs
    rcases hs with hs | rfl
    · exact l.buf.1.1 _ (List.mem_map.2 ⟨s, by simp [hs], rfl⟩)
    · exact rowQ_ok q
  · rw [List.length_map, hlen]
  · rw [List.getElem?_set_self (lt_of_get (h1.trans hb)), hput]
  · have e1 : ((ts ++ [t]).map rowQ).flatten.length = ((ts ++ [((t.1, ps, v) : FQ)]).map rowQ).flatten.length := by simp [rowQ]
    rw [← e1]; exact hfz
  · have := (l.buf.2 eb ver (by rw [List.length_map]))
    have := (AV.sl.inj e).2.1
    omega
  · rw [List.mem_append, List.mem_singleton] at hs
    rcases hs with hs | rfl
    · refine (l.val s (by simp [hs])).stays fun b hb' => ?_
      obtain ⟨q1, q2, q3⟩ := htsl s hs b hb'
      rw [List.getElem?_set_ne (Ne.symm q3), hk b q1 q2]
    · exact q.stays fun b hb' => by rw [List.getElem?_set_ne (Ne.symm (hveb b hb'))]
  · rw [List.mem_append, List.mem_singleton] at hs
    rcases hs with hs | rfl
    · exact ⟨(l.own s (by simp [hs]) b hb').1, fun e => (htsl s hs b hb').2.2 (Option.some.inj e).symm⟩
    · refine ⟨?_, fun e => hveb b hb' (Option.some.inj e).symm⟩
      rcases hv b hb' with h | h
      · exact (l.own t (by simp) b h).1
      · omega
  · rw [List.pairwise_append]
    refine ⟨hap.1, List.pairwise_singleton _ _, fun s hs t' ht' b hb1 hb2 => ?_⟩
    rw [List.mem_singleton] at ht'
    subst ht'
    obtain ⟨q1, q2, q3⟩ := htsl s hs b hb1
    rcases hv b hb2 with h | h
    · exact q2 h
    · omega
  · cases e
    rw [List.getElem?_set_self (lt_of_get (h1.trans hb))] at hc
    cases hc
    exact l.fz _ _ _ _ _ rfl hb
end Go.Proofs
/- Contracts: the list of the pages of a list. -/
set_option linter.unusedVariables false
set_option linter.unusedSimpArgs false
namespace Go.Proofs
open Go Go.Abs
/-- The first of a page goes on with the last one, where the versions are equal. -/
def addF0 : List FP → FP → List FP
  | [], f => [f]
  | [a], f => if a.1 = f.1 then [(a.1, a.2 ++ f.2)] else [a, f]
  | a :: b :: r, f => a :: addF0 (b :: r) f
theorem addF0_snoc (a f : FP) : ∀ ts : List FP, addF0 (ts ++ [a]) f = ts ++ (if a.1 = f.1 then [(a.1, a.2 ++ f.2)] else [a, f])
  | [] => rfl
  | [b] => rfl
  | b :: c :: r => by
    have := addF0_snoc a f (c :: r)
    show b :: addF0 (c :: (r ++ [a])) f = _
    rw [show c :: (r ++ [a]) = (c :: r) ++ [a] from rfl, this]
    rfl
def addP (ts fs : List FP) : List FP := match fs with
  | [] => ts
  | f :: r => addF0 ts f ++ r
/-- What the pages of a list have, in one list. -/
def allF (l : List Page) : List FP := l.foldl (fun ts p => addP ts (p.freed.map Freed.core)) []
theorem allF_take {l : List Page} {i : Nat} (hi : i < l.length) : allF (l.take (i + 1)) = addP (allF (l.take i)) (l[i].freed.map Freed.core) := by
  unfold allF
  rw [List.take_succ_eq_append_getElem hi, List.foldl_append]
  rfl
theorem addP_take {ts fs : List FP} {k : Nat} (hk : k < fs.length) : addP ts (fs.take (k + 1)) = if k = 0 then addF0 (addP ts (fs.take k)) fs[k] else addP ts (fs.take k) ++ [fs[k]] := by
  cases fs with
  | nil => simp at hk
  | cons f r =>
    by_cases e : k = 0
    · subst e
      simp [addP]
    · obtain ⟨j, rfl⟩ : ∃ j, k = j + 1 := ⟨k - 1, by omega⟩
      rw [if_neg e]
      have hj : j < r.length := by simpa using hk
      simp only [List.take_succ_cons, addP, List.getElem_cons_succ]
      rw [List.take_succ_eq_append_getElem hj, List.append_assoc]
theorem wgt_app (a b : List FP) : wgt (a ++ b) = wgt a + wgt b := by simp [wgt]
theorem wgt_one (f : FP) : wgt [f] = f.2.length + 1 := by simp [wgt]
theorem wgt_mem {l : List FP} {x : FP} (h : x ∈ l) : x.2.length + 1 ≤ wgt l := by
  induction l with
  | nil => cases h
  | cons a r ih =>
    simp only [wgt, List.map_cons, List.sum_cons] at ih ⊢
    rcases List.mem_cons.1 h with rfl | h
    · omega
    · have := ih h; omega
theorem wgt_len (l : List FP) : l.length ≤ wgt l := by
  induction l with
  | nil => exact Nat.le_refl _
  | cons a r ih => simp only [wgt, List.map_cons, List.sum_cons, List.length_cons] at ih ⊢; omega
/-- How much the pages have. -/
def wl (l : List Page) : Nat := (l.map fun p => wgt (p.freed.map Freed.core)).sum
theorem wl_drop {l : List Page} {i : Nat} (hi : i < l.length) : wl (l.drop i) = wgt (l[i].freed.map Freed.core) + wl (l.drop (i + 1)) := by
  unfold wl
  rw [List.drop_eq_getElem_cons hi, List.map_cons, List.sum_cons]
theorem wgt_drop {fs : List Freed} {k : Nat} (hk : k < fs.length) : wgt ((fs.drop k).map Freed.core) = (fs[k].pages.length + 1) + wgt ((fs.drop (k + 1)).map Freed.core) := by
  unfold wgt
  rw [List.drop_eq_getElem_cons hk, List.map_cons, List.map_cons, List.sum_cons]
  rfl
section
variable {n : Nat} {h : AHeap}
/-- A copy of numbers, in memory. -/
theorem cloneQ_eq (hn : 1 ≤ n) (hp : AHeap) (f : Freed) (hf : f.Ok) (hl : f.pages.length < 1048576) :
    (f.pages = [] ∧ C n 102 [.lst f.sh.sz (f.pages.map i64) f.sh.c] hp = some (.ret (.lst 1 [] true), hp)) ∨
    (f.pages ≠ [] ∧ C n 102 [.lst f.sh.sz (f.pages.map i64) f.sh.c] hp = some (.ret (.sl 1 hp.length 0 0 f.pages.length), hp ++ [.cells 0 (some 3) (f.pages.map i64) 0])) := by
  by_cases e : f.pages = []
  · left
    refine ⟨e, ?_⟩
    rw [e]
    exact clone0_eq hn _ _
  · right
    refine ⟨e, ?_⟩
    rw [hf e]
    exact cloneN_eq hn e (by omega) _
set_option maxRecDepth 10000 in
/-- The inner loop, one round. -/
theorem listOf_in {m : Nat} (hm : 1 ≤ m) (l : List Page) (sz : Nat) (c : Bool) (i : Nat) (fs : List Freed) (fz : Nat) (hfz : fs ≠ [] → fz = 2) (fc : Bool) (hfs : ∀ f ∈ fs, f.Ok) (L0 : AV) (hp0 : AHeap) (ts0 : List FQ) (b0 : LB false 0 hp0 L0 ts0) (hw : wgt (ts0.map coreQ) + wgt (fs.map Freed.core) < 1048576) {Q : Ex → LS → Prop} {st : LS}
    (hs : LS.sub ⟨[(0, .lst sz (l.map Page.av) c), (4, L0), (15, .lst sz (l.map Page.av) c), (16, i64 l.length), (17, i64 i), (22, .lst fz (fs.map Freed.av) fc), (23, i64 fs.length), (24, i64 0)], hp0, []⟩ st)
    (hE : ∀ L hp ts, LB false 0 hp L ts → ts.map coreQ = addP (ts0.map coreQ) (fs.map Freed.core) → ∀ Lt, subL [(0, .lst sz (l.map Page.av) c), (4, L), (15, .lst sz (l.map Page.av) c), (16, i64 l.length), (17, i64 i)] Lt → Q (.exit 2) ⟨Lt, hp, []⟩) :
    OkR Tryz.prog (C m) cfg0.inl KK 90 7 (.loop (c42.lp 1)) st Q := by
  refine loopI (by decide) rfl (α := Nat × AV × AHeap × List FQ) (fun x => ⟨[(0, .lst sz (l.map Page.av) c), (4, x.2.1), (15, .lst sz (l.map Page.av) c), (16, i64 l.length), (17, i64 i), (22, .lst fz (fs.map Freed.av) fc), (23, i64 fs.length), (24, i64 x.1)], x.2.2.1, []⟩)
    (fun x => x.1 ≤ fs.length ∧ LB false 0 x.2.2.1 x.2.1 x.2.2.2 ∧ x.2.2.2.map coreQ = addP (ts0.map coreQ) ((fs.map Freed.core).take x.1) ∧ wgt (x.2.2.2.map coreQ) + wgt ((fs.drop x.1).map Freed.core) < 1048576) (fun x => fs.length - x.1) (0, L0, hp0, ts0) hs ⟨Nat.zero_le _, b0, rfl, by simpa using hw⟩ (by
      have := wgt_len (fs.map Freed.core)
      rw [List.length_map] at this
      show fs.length - 0 < KK; simp only [KK]; omega) ?_
  rintro ⟨k, L, hp, ts⟩ ⟨g1, g2, g3, g4⟩
  simp only at g1 g2 g3 g4
  have hfl : fs.length < 1048576 := by
    have := wgt_len (fs.map Freed.core)
    rw [List.length_map] at this
    omega
  conv => whnf
  refine brd (fun a => ?_) (fun a => ?_)
  · have hk : k < fs.length := by simp only at a; omega
    have hkc : k < (fs.map Freed.core).length := by rw [List.length_map]; exact hk
    have hcg : (fs.map Freed.core)[k] = fs[k].core := List.getElem_map _
    have hstep := addP_take (ts := ts0.map coreQ) hkc
    rw [hcg, ← g3] at hstep
    rw [wgt_drop hk] at g4
    have hfk := hfs _ (List.getElem_mem hk)
    have htl := wgt_len (ts.map coreQ)
    rw [List.length_map] at htl
    have hH1 : ((hp ++ [AB.cells 0 (some tFrd) [i64 0, .lst 0 [] true] 0]).set hp.length (.cells 0 (some tFrd) (putAt [i64 0, .lst 0 [] true] 0 fs[k].cells) 0)).length = hp.length + 1 := by simp
    have hpl' : fs[k].pages.length < 1048576 := by omega
    obtain ⟨P, Hc, cC, hP, hNQ, hkeep, hlen, hbl⟩ : ∃ P Hc, C m 102 [.lst fs[k].sh.sz (fs[k].pages.map i64) fs[k].sh.c] ((hp ++ [AB.cells 0 (some tFrd) [i64 0, .lst 0 [] true] 0]).set hp.length (.cells 0 (some tFrd) (putAt [i64 0, .lst 0 [] true] 0 fs[k].cells) 0)) = some (.ret P, Hc) ∧ (P = .lst 1 [] true ∨ ∃ nb cnt, P = .sl 1 nb 0 0 cnt) ∧ NQ false Hc fs[k].pages P ∧ (∀ b, b < hp.length + 1 → Hc[b]? = ((hp ++ [AB.cells 0 (some tFrd) [i64 0, .lst 0 [] true] 0]).set hp.length (.cells 0 (some tFrd) (putAt [i64 0, .lst 0 [] true] 0 fs[k].cells) 0))[b]?) ∧ hp.length + 1 ≤ Hc.length ∧ (∀ b, blkQ P = some b → hp.length + 1 ≤ b) := by
      rcases cloneQ_eq (n := m) hm ((hp ++ [AB.cells 0 (some tFrd) [i64 0, .lst 0 [] true] 0]).set hp.length (.cells 0 (some tFrd) (putAt [i64 0, .lst 0 [] true] 0 fs[k].cells) 0)) fs[k] hfk hpl' with ⟨e0, cC⟩ | ⟨e0, cC⟩
      · exact ⟨_, _, cC, .inl rfl, .inl (.inl ⟨.inr rfl, e0⟩), fun _ _ => rfl, by rw [hH1]; exact Nat.le_refl _, fun b hb => by cases hb⟩
      · refine ⟨_, _, cC, .inr ⟨_, _, rfl⟩, .inl (.inr ⟨_, 0, 0, rfl, by simp, Nat.zero_le _⟩), fun b hb => ?_, by rw [List.length_append, hH1]; simp, fun b hb => ?_⟩
        · rw [List.getElem?_append_left (by rw [hH1]; exact hb)]
        · cases hb; rw [hH1]; exact Nat.le_refl _
    have hP1 := hNQ.scal.2
    have fE0 : Hc[hp.length]? = some (.cells 0 (some tFrd) (putAt [i64 0, .lst 0 [] true] 0 fs[k].cells) 0) := by
      rw [hkeep _ (Nat.lt_succ_self _), List.getElem?_set_self (by simp)]
    have fE : (Hc.set hp.length (.cells 0 (some tFrd) (putAt (putAt [i64 0, .lst 0 [] true] 0 fs[k].cells) 1 [P]) 0))[hp.length]? = some (.cells 0 (some tFrd) [i64 fs[k].ver, P] 0) := by
      rw [List.getElem?_set_self (lt_of_get fE0)]; rfl
    have old : ∀ b, b < hp.length → (Hc.set hp.length (.cells 0 (some tFrd) (putAt (putAt [i64 0, .lst 0 [] true] 0 fs[k].cells) 1 [P]) 0))[b]? = hp[b]? := fun b hb => by
      rw [List.getElem?_set_ne (by omega), hkeep b (by omega), List.getElem?_set_ne (by omega), List.getElem?_append_left hb]
    have gL : LB false 0 (Hc.set hp.length (.cells 0 (some tFrd) (putAt (putAt [i64 0, .lst 0 [] true] 0 fs[k].cells) 1 [P]) 0)) L ts := g2.old fun b _ hb => old b hb
    have qP : NQ false (Hc.set hp.length (.cells 0 (some tFrd) (putAt (putAt [i64 0, .lst 0 [] true] 0 fs[k].cells) 1 [P]) 0)) fs[k].pages P := hNQ.stays fun b hb => by
      have := hbl b hb
      rw [List.getElem?_set_ne (by omega)]
    have hfree : ∀ b, blkQ P = some b → hp.length < b := fun b hb => hbl b hb
    obtain ⟨L', hp', ea, g7, _, _, _⟩ := gL.push (Nat.zero_le _) (fs[k].ver, fs[k].pages, P) qP (fun b hb => ⟨Nat.zero_le _, fun e => by
      have h1 := (g2.lt (.inl e)).1
      have := hfree b hb
      omega⟩) (fun s hs b hb1 hb2 => by
      have h1 := (g2.lt (.inr ⟨s, hs, hb1⟩)).1
      have := hfree b hb2
      omega) (by omega)
    have hcore : (ts ++ [((fs[k].ver, fs[k].pages, P) : FQ)]).map coreQ = ts.map coreQ ++ [fs[k].core] := by rw [List.map_append]; rfl
    have hwt : wgt ((ts ++ [((fs[k].ver, fs[k].pages, P) : FQ)]).map coreQ) + wgt ((fs.drop (k + 1)).map Freed.core) < 1048576 := by
      rw [hcore, wgt_app, wgt_one]
      simp only [Freed.core]
      omega
    rcases List.eq_nil_or_concat ts with hts | ⟨ts1, t, hts⟩
    · subst hts
      have hL := g2.emp rfl
      subst hL
      have hpl : ([] ++ [((fs[k].ver, fs[k].pages, P) : FQ)]).map coreQ = addP (ts0.map coreQ) ((fs.map Freed.core).take (k + 1)) := by
        rw [hcore, hstep]
        split <;> rfl
      rcases hP with rfl | ⟨nb, cnt, rfl⟩
      all_goals
        conv => whnf
        refine ixL freed_cells hk hfz ?_
        conv => whnf
        refine stI (get_last _ _) (xs := fs[k].cells) (by rfl) (by rfl) (by rfl) (by rfl) ?_
        conv => whnf
        refine ldI (get_set_last _ _ _) ?_
        conv => whnf
        refine clI cC ?_
        conv => whnf
        refine stI fE0 hP1 (by rfl) (by rfl) (by rfl) ?_
        conv => whnf
        refine zI (z := -1) (by rfl) ?_
        conv => whnf
        refine bre (fun e => ?_) (fun e => ?_)
        all_goals
          conv => whnf
          refine ldI fE ?_
          conv => whnf
          refine ⟨rfl, ?_⟩
          conv => whnf
          refine apI ea ?_
          conv => whnf
          refine zI (z := ((k + 1 : Nat) : Int)) (by rw [wrap_i64 (by simp only; omega) (by simp only; omega)]; rfl) ?_
          exact nxI (k + 1, L', hp', _) ⟨hk, g7, hpl, hwt⟩ (by simp only; omega) ⟨⟨rfl, rfl, rfl, rfl, rfl, rfl, rfl, rfl⟩, rfl, rfl⟩
    · rw [List.concat_eq_append] at hts
      subst hts
      obtain ⟨eb, ver, hL⟩ := g2.buf.sl (by simp)
      rw [List.length_map] at hL
      subst hL
      obtain ⟨frz, hbb, hfz2⟩ : ∃ frz, (Hc.set hp.length (.cells 0 (some tFrd) (putAt (putAt [i64 0, .lst 0 [] true] 0 fs[k].cells) 1 [P]) 0))[eb]? = some (.cells ver (some tFrd) ((ts1 ++ [t]).map rowQ).flatten frz) ∧ frz ≤ ((ts1 ++ [t]).map rowQ).flatten.length := by
        rcases gL.buf.1.2 with ⟨h, _⟩ | ⟨eb', ver', frz, h, h2, h3⟩
        · cases h
        · obtain ⟨_, q1, q2, _, _⟩ := AV.sl.inj h
          subst q1 q2
          exact ⟨frz, h2, h3⟩
      have hc0 : ((ts1 ++ [t]).map rowQ).flatten[ts1.length * 2 + 0]? = some (i64 t.1) := by
        rw [row_cell (by simp) 0 (by decide)]; simp [rowQ]
      have hc1 : ((ts1 ++ [t]).map rowQ).flatten[ts1.length * 2 + 1]? = some t.2.2 := by
        rw [row_cell (by simp) 1 (by decide)]; simp [rowQ]
      have hmerge : t.1 = fs[k].ver → k = 0 → addP (ts0.map coreQ) ((fs.map Freed.core).take (k + 1)) = (ts1 ++ [((t.1, t.2.1 ++ fs[k].pages, P) : FQ)]).map coreQ := fun e1 e2 => by
        rw [hstep, if_pos e2, List.map_append, List.map_cons, List.map_nil, addF0_snoc, if_pos (by simpa [coreQ, Freed.core] using e1)]
        simp [coreQ, Freed.core]
      have hsplit : ¬ (t.1 = fs[k].ver ∧ k = 0) → ((ts1 ++ [t]) ++ [((fs[k].ver, fs[k].pages, P) : FQ)]).map coreQ = addP (ts0.map coreQ) ((fs.map Freed.core).take (k + 1)) := fun e => by
        rw [hcore, hstep]
        by_cases e2 : k = 0
        · rw [if_pos e2, List.map_append, List.map_cons, List.map_nil, addF0_snoc, if_neg (by simp only [coreQ, Freed.core]; exact fun q => e ⟨q, e2⟩)]
          simp
        · rw [if_neg e2]
      have htw := wgt_mem (l := (ts1 ++ [t]).map coreQ) (x := coreQ t) (by simp)
      change t.2.1.length + 1 ≤ _ at htw
      obtain ⟨v, oh, ea2, qv, kv, lv, bv⟩ := nq_app (gL.val t (by simp)) qP (by omega)
      have gN := gL.last hbb hfz2 (t.2.1 ++ fs[k].pages) v (Nat.zero_le _) qv kv bv
      have hwt2 : wgt ((ts1 ++ [((t.1, t.2.1 ++ fs[k].pages, v) : FQ)]).map coreQ) + wgt ((fs.drop (k + 1)).map Freed.core) < 1048576 := by
        rw [List.map_append, wgt_app] at g4 ⊢
        simp only [List.map_cons, List.map_nil, wgt_one, coreQ, List.length_append] at g4 ⊢
        omega
      have hlen2 : ((ts1 ++ [t]).map rowQ).flatten.length = (ts1.length + 1) * 2 := by
        rw [rows_len (sz := 2) (fun r hm => by obtain ⟨s, _, rfl⟩ := List.mem_map.1 hm; rfl)]
        simp
      have hble : Nat.ble (0 + ((ts1.length : Nat) : Int).toNat * 2 + 1 + [v].length) ((ts1 ++ [t]).map rowQ).flatten.length = true := by
        rw [Nat.ble_eq, hlen2]
        simp only [List.length_cons, List.length_nil]
        omega
      rcases hP with rfl | ⟨nb, cnt, rfl⟩
      all_goals
        conv => whnf
        refine ixL freed_cells hk hfz ?_
        conv => whnf
        refine stI (get_last _ _) (xs := fs[k].cells) (by rfl) (by rfl) (by rfl) (by rfl) ?_
        conv => whnf
        refine ldI (get_set_last _ _ _) ?_
        conv => whnf
        refine clI cC ?_
        conv => whnf
        refine stI fE0 hP1 (by rfl) (by rfl) (by rfl) ?_
        conv => whnf
        refine zI (z := (ts1.length : Int)) (by rw [wrap_i64 (by simp only [List.length_append, List.length_cons, List.length_nil]; omega) (by simp only [List.length_append, List.length_cons, List.length_nil] at htl ⊢; omega)]; simp only [List.length_append, List.length_cons, List.length_nil]; omega) ?_
        conv => whnf
        refine bre (fun e => ?_) (fun e => ?_)
        · have hk0 : k = 0 := by simp only at e; omega
          conv => whnf
          refine ⟨by omega, by simp; omega, rfl, ?_⟩
          conv => whnf
          refine ldI hbb ?_
          conv => whnf
          refine wpartI (v := i64 t.1) (by unfold partR; rw [if_neg (by decide), Int.toNat_natCast, Nat.zero_add]; exact hc0) ?_
          conv => whnf
          refine ldI fE ?_
          conv => whnf
          refine bre (fun e1 => ?_) (fun e1 => ?_)
          · conv => whnf
            refine ⟨by omega, by simp; omega, rfl, ?_⟩
            conv => whnf
            refine ldI hbb ?_
            conv => whnf
            refine wpartI (v := t.2.2) (by unfold partR; rw [if_neg (by decide), Int.toNat_natCast, Nat.zero_add]; exact hc1) ?_
            conv => whnf
            refine ldI fE ?_
            conv => whnf
            refine ⟨_, ea2, ?_⟩
            cases oh with
            | none =>
              conv => whnf
              refine ⟨by omega, by simp; omega, rfl, ?_⟩
              conv => whnf
              refine stI (xs := [v]) hbb qv.scal.2 (by rfl) hble (by rw [gL.fz _ _ _ _ _ rfl hbb]; rfl) ?_
              conv => whnf
              refine zI (z := ((k + 1 : Nat) : Int)) (by rw [wrap_i64 (by simp only; omega) (by simp only; omega)]; rfl) ?_
              refine nxI (k + 1, _, _, ts1 ++ [(t.1, t.2.1 ++ fs[k].pages, v)]) ⟨hk, ?_, (by rw [hmerge e1 hk0]; simp [coreQ]), hwt2⟩ (by simp only; omega) ⟨⟨rfl, rfl, rfl, rfl, rfl, rfl, rfl, rfl⟩, rfl, rfl⟩
              have := gN.2
              rw [show 0 + ((ts1.length : Nat) : Int).toNat * 2 + 1 = ts1.length * 2 + 1 by omega]
              exact this
            | some h9 =>
              conv => whnf
              refine ⟨by omega, by simp; omega, rfl, ?_⟩
              conv => whnf
              refine stI (xs := [v]) (gN.1.trans hbb) qv.scal.2 (by rfl) hble (by rw [gL.fz _ _ _ _ _ rfl hbb]; rfl) ?_
              conv => whnf
              refine zI (z := ((k + 1 : Nat) : Int)) (by rw [wrap_i64 (by simp only; omega) (by simp only; omega)]; rfl) ?_
              refine nxI (k + 1, _, _, ts1 ++ [(t.1, t.2.1 ++ fs[k].pages, v)]) ⟨hk, ?_, (by rw [hmerge e1 hk0]; simp [coreQ]), hwt2⟩ (by simp only; omega) ⟨⟨rfl, rfl, rfl, rfl, rfl, rfl, rfl, rfl⟩, rfl, rfl⟩
              have := gN.2
              rw [show 0 + ((ts1.length : Nat) : Int).toNat * 2 + 1 = ts1.length * 2 + 1 by omega]
              exact this
          · have hpl := hsplit fun q => e1 q.1
            conv => whnf
            refine ldI fE ?_
            conv => whnf
            refine ⟨rfl, ?_⟩
            conv => whnf
            refine apI ea ?_
            conv => whnf
            refine zI (z := ((k + 1 : Nat) : Int)) (by rw [wrap_i64 (by simp only; omega) (by simp only; omega)]; rfl) ?_
            exact nxI (k + 1, L', hp', _) ⟨hk, g7, hpl, hwt⟩ (by simp only; omega) ⟨⟨rfl, rfl, rfl, rfl, rfl, rfl, rfl, rfl⟩, rfl, rfl⟩
        · have hpl := hsplit fun q => e (by simp only; omega)
          conv => whnf
          refine ldI fE ?_
          conv => whnf
          refine ⟨rfl, ?_⟩
          conv => whnf
          refine apI ea ?_
          conv => whnf
          refine zI (z := ((k + 1 : Nat) : Int)) (by rw [wrap_i64 (by simp only; omega) (by simp only; omega)]; rfl) ?_
          exact nxI (k + 1, L', hp', _) ⟨hk, g7, hpl, hwt⟩ (by simp only; omega) ⟨⟨rfl, rfl, rfl, rfl, rfl, rfl, rfl, rfl⟩, rfl, rfl⟩
  · have hk : k = fs.length := by simp only at a; omega
    subst hk
    rw [List.take_of_length_le (by rw [List.length_map]; exact Nat.le_refl _)] at g3
    conv => whnf
    exact hE L hp ts g2 g3 _ ⟨rfl, rfl, rfl, rfl, rfl⟩
end
end Go.Proofs
/- Contracts: the reference's list of the pages of a list: the inner loop. -/
set_option linter.unusedVariables false
set_option linter.unusedSimpArgs false
namespace Go.Proofs
open Go Go.Abs
def constQ (f : Freed) : FQ := (f.ver, f.pages, .lst f.sh.sz (f.pages.map i64) f.sh.c)
theorem constQ_nq {hp : AHeap} {f : Freed} (hf : f.Ok) : NQ true hp (constQ f).2.1 (constQ f).2.2 := .inr ⟨rfl, _, _, rfl, hf⟩
theorem NQ.wide {hp : AHeap} {ps : List Int} {P : AV} (q : NQ false hp ps P) : NQ true hp ps P := by
  rcases q with h | ⟨h, _⟩
  · exact .inl h
  · cases h
/-- A memory of blocks of cells alone. -/
def Clean (h : AHeap) : Prop := ∀ (k : Nat) (b : AB), h[k]? = some b → ∃ v el cs f, b = AB.cells v el cs f
theorem Clean.one {h : AHeap} (c : Clean h) (v : Nat) (el : Option TypeId) (cs : List AV) (f : Nat) : Clean (h ++ [.cells v el cs f]) := fun k b hb => by
  rw [List.getElem?_append] at hb
  split at hb
  · exact c k b hb
  · rw [List.getElem?_singleton] at hb
    split at hb
    · cases hb; exact ⟨_, _, _, _, rfl⟩
    · cases hb
theorem Clean.set {h : AHeap} (c : Clean h) (k : Nat) (v : Nat) (el : Option TypeId) (cs : List AV) (f : Nat) : Clean (h.set k (.cells v el cs f)) := fun j b hb => by
  rw [List.getElem?_set] at hb
  split at hb
  · split at hb
    · cases hb; exact ⟨_, _, _, _, rfl⟩
    · cases hb
  · exact c j b hb
theorem clean_app {h : AHeap} (c : Clean h) {e : TypeId} {sz : Nat} {a b v : AV} {oh : Option AHeap} (ea : appR h e sz a b = some (v, oh)) : Clean (oh.getD h) := by
  unfold appR at ea
  repeat' split at ea
  all_goals first | (cases ea; done) | (cases ea; first | exact c | exact c.one _ _ _ _ | exact c.set _ _ _ _ _)
abbrev R0 : AB := .cells 0 (some 99) [.lst 0 [] true, i64 0] 0
set_option maxRecDepth 10000 in
/-- The inner loop, one round. -/
theorem refListOf_in {m : Nat} (l : List Page) (ho : ∀ p ∈ l, p.Ok) (sz : Nat) (hz : l ≠ [] → sz = 10) (c : Bool) (i : Nat) (hi : i < l.length) (hil : l.length ≤ 1000) (L0 : AV) (hp0 : AHeap) (ts0 : List FQ) (b0 : LB true 1 hp0 L0 ts0) (r0 : hp0[0]? = some R0) (hcl : Clean hp0) (hw : wgt (ts0.map coreQ) + wgt (l[i].freed.map Freed.core) < 1048576) {Q : Ex → LS → Prop} {st : LS}
    (hs : LS.sub ⟨[(0, .lst sz (l.map Page.av) c), (2, .ptr 0 0 0), (3, L0), (4, i64 i), (5, i64 0)], hp0, []⟩ st)
    (hE : ∀ L hp ts, LB true 1 hp L ts → hp[0]? = some R0 → Clean hp → ts.map coreQ = addP (ts0.map coreQ) (l[i].freed.map Freed.core) → ∀ Lt, subL [(0, .lst sz (l.map Page.av) c), (2, .ptr 0 0 0), (3, L), (4, i64 i)] Lt → Q (.exit 2) ⟨Lt, hp, []⟩) :
    OkR Tryz.prog (C m) cfg0.inl KK 99 7 (.loop (c43.lp 1)) st Q := by
  have op := ho _ (List.getElem_mem hi)
  obtain ⟨fs, hfsd⟩ : ∃ fs, l[i].freed = fs := ⟨_, rfl⟩
  have hfz : fs ≠ [] → l[i].fsh.sz = 2 := fun q => op.fsz (by rw [hfsd]; exact q)
  have hfs : ∀ f ∈ fs, f.Ok := fun f hf => (op.fr f (by rw [hfsd]; exact hf)).1
  have hpc : (Page.av l[i]).cells? = some [i64 l[i].kind, i64 l[i].no, i64 l[i].ver, i64 l[i].tree, i64 l[i].level, .bool l[i].top, .lst l[i].esh.sz (l[i].entries.map Entry.av) l[i].esh.c, i64 l[i].next, .str l[i].data, .lst l[i].fsh.sz (fs.map Freed.av) l[i].fsh.c] := by
    rw [← hfsd]; rfl
  rw [hfsd] at hw hE
  refine loopI (by decide) rfl (α := Nat × AV × AHeap × List FQ) (fun x => ⟨[(0, .lst sz (l.map Page.av) c), (2, .ptr 0 0 0), (3, x.2.1), (4, i64 i), (5, i64 x.1)], x.2.2.1, []⟩)
    (fun x => x.1 ≤ fs.length ∧ LB true 1 x.2.2.1 x.2.1 x.2.2.2 ∧ x.2.2.1[0]? = some R0 ∧ x.2.2.2.map coreQ = addP (ts0.map coreQ) ((fs.map Freed.core).take x.1) ∧ wgt (x.2.2.2.map coreQ) + wgt ((fs.drop x.1).map Freed.core) < 1048576 ∧ Clean x.2.2.1) (fun x => fs.length - x.1) (0, L0, hp0, ts0) hs ⟨Nat.zero_le _, b0, r0, rfl, by simpa using hw, hcl⟩ (by
      have := wgt_len (fs.map Freed.core)
      rw [List.length_map] at this
      show fs.length - 0 < KK; simp only [KK]; omega) ?_
  rintro ⟨k, L, hp, ts⟩ ⟨g1, g2, g0, g3, g4, gc⟩
  simp only at g1 g2 g0 g3 g4 gc
  have hlo := lt_of_get g0
  have hfl : fs.length < 1048576 := by
    have := wgt_len (fs.map Freed.core)
    rw [List.length_map] at this
    omega
  conv => whnf
  refine ⟨by omega, hz (fun e => by subst e; simp at hi), Page.av l[i], by simp [hi], _, hpc, ?_⟩
  conv => whnf
  refine brd (fun a => ?_) (fun a => ?_)
  · have hk : k < fs.length := by simp only [List.length_map] at a; omega
    have hkc : k < (fs.map Freed.core).length := by rw [List.length_map]; exact hk
    have hcg : (fs.map Freed.core)[k] = fs[k].core := List.getElem_map _
    have hstep := addP_take (ts := ts0.map coreQ) hkc
    rw [hcg, ← g3] at hstep
    rw [wgt_drop hk] at g4
    have hfk := hfs _ (List.getElem_mem hk)
    have htl := wgt_len (ts.map coreQ)
    rw [List.length_map] at htl
    have fE : ((hp ++ [AB.cells 0 (some tFrd) [i64 0, .lst 0 [] true] 0]).set hp.length (.cells 0 (some tFrd) (putAt [i64 0, .lst 0 [] true] 0 fs[k].cells) 0))[hp.length]? = some (.cells 0 (some tFrd) fs[k].cells 0) := by
      rw [List.getElem?_set_self (by simp)]; rfl
    have old : ∀ b, b < hp.length → ((hp ++ [AB.cells 0 (some tFrd) [i64 0, .lst 0 [] true] 0]).set hp.length (.cells 0 (some tFrd) (putAt [i64 0, .lst 0 [] true] 0 fs[k].cells) 0))[b]? = hp[b]? := fun b hb => by
      rw [List.getElem?_set_ne (by omega), List.getElem?_append_left hb]
    have hH1 : ((hp ++ [AB.cells 0 (some tFrd) [i64 0, .lst 0 [] true] 0]).set hp.length (.cells 0 (some tFrd) (putAt [i64 0, .lst 0 [] true] 0 fs[k].cells) 0)).length = hp.length + 1 := by simp
    obtain ⟨H, hH⟩ : ∃ H, ((hp ++ [AB.cells 0 (some tFrd) [i64 0, .lst 0 [] true] 0]).set hp.length (.cells 0 (some tFrd) (putAt [i64 0, .lst 0 [] true] 0 fs[k].cells) 0)) = H := ⟨_, rfl⟩
    have gL : LB true 1 H L ts := by rw [← hH]; exact g2.old fun b _ hb => old b hb
    have qP : NQ true H fs[k].pages (.lst fs[k].sh.sz (fs[k].pages.map i64) fs[k].sh.c) := constQ_nq hfk
    obtain ⟨L', hp', ea, g7, e7, _, _⟩ := gL.push (by rw [← hH, hH1]; omega) (constQ fs[k]) (constQ_nq hfk) (fun b hb => by cases hb) (fun s hs b hb1 hb2 => by cases hb2) (by omega)
    have r7 : hp'[0]? = some R0 := by rw [e7 0 (by decide), ← hH, old 0 hlo]; exact g0
    have hcore : (ts ++ [constQ fs[k]]).map coreQ = ts.map coreQ ++ [fs[k].core] := by rw [List.map_append]; rfl
    have hwt : wgt ((ts ++ [constQ fs[k]]).map coreQ) + wgt ((fs.drop (k + 1)).map Freed.core) < 1048576 := by
      rw [hcore, wgt_app, wgt_one]
      simp only [Freed.core]
      omega
    rw [hH] at fE
    have cH : Clean H := by rw [← hH]; exact (gc.one _ _ _ _).set _ _ _ _ _
    rcases List.eq_nil_or_concat ts with hts | ⟨ts1, t, hts⟩
    · subst hts
      have hL := g2.emp rfl
      subst hL
      have hpl : ([] ++ [constQ fs[k]]).map coreQ = addP (ts0.map coreQ) ((fs.map Freed.core).take (k + 1)) := by
        rw [hcore, hstep]
        split <;> rfl
      conv => whnf
      refine ⟨by omega, hz (fun e => by subst e; simp at hi), Page.av l[i], by simp [hi], _, hpc, ?_⟩
      conv => whnf
      refine ixL freed_cells hk hfz ?_
      conv => whnf
      refine stI (get_last _ _) (xs := fs[k].cells) (by rfl) (by rfl) (by rfl) (by rfl) ?_
      rw [hH]
      conv => whnf
      refine zI (z := -1) (by rfl) ?_
      conv => whnf
      refine bre (fun e => ?_) (fun e => ?_)
      all_goals
        conv => whnf
        refine ldI fE ?_
        conv => whnf
        refine ⟨rfl, ?_⟩
        conv => whnf
        refine apI ea ?_
        conv => whnf
        refine zI (z := ((k + 1 : Nat) : Int)) (by rw [wrap_i64 (by simp only; omega) (by simp only; omega)]; rfl) ?_
        exact nxI (k + 1, L', hp', _) ⟨hk, g7, r7, hpl, hwt, clean_app cH ea⟩ (by simp only; omega) ⟨⟨rfl, rfl, rfl, rfl, rfl⟩, rfl, rfl⟩
    · rw [List.concat_eq_append] at hts
      subst hts
      obtain ⟨eb, ver, hL⟩ := g2.buf.sl (by simp)
      rw [List.length_map] at hL
      subst hL
      obtain ⟨frz, hbb, hfz2⟩ : ∃ frz, H[eb]? = some (.cells ver (some tFrd) ((ts1 ++ [t]).map rowQ).flatten frz) ∧ frz ≤ ((ts1 ++ [t]).map rowQ).flatten.length := by
        rcases gL.buf.1.2 with ⟨h, _⟩ | ⟨eb', ver', frz, h, h2, h3⟩
        · cases h
        · obtain ⟨_, q1, q2, _, _⟩ := AV.sl.inj h
          subst q1 q2
          exact ⟨frz, h2, h3⟩
      have hc0 : ((ts1 ++ [t]).map rowQ).flatten[ts1.length * 2 + 0]? = some (i64 t.1) := by
        rw [row_cell (by simp) 0 (by decide)]; simp [rowQ]
      have hc1 : ((ts1 ++ [t]).map rowQ).flatten[ts1.length * 2 + 1]? = some t.2.2 := by
        rw [row_cell (by simp) 1 (by decide)]; simp [rowQ]
      have hsplit : ¬ (t.1 = fs[k].ver ∧ k = 0) → ((ts1 ++ [t]) ++ [constQ fs[k]]).map coreQ = addP (ts0.map coreQ) ((fs.map Freed.core).take (k + 1)) := fun e => by
        rw [hcore, hstep]
        by_cases e2 : k = 0
        · rw [if_pos e2, List.map_append, List.map_cons, List.map_nil, addF0_snoc, if_neg (by simp only [coreQ, Freed.core]; exact fun q => e ⟨q, e2⟩)]
          simp
        · rw [if_neg e2]
      have htw := wgt_mem (l := (ts1 ++ [t]).map coreQ) (x := coreQ t) (by simp)
      change t.2.1.length + 1 ≤ _ at htw
      conv => whnf
      refine ⟨by omega, hz (fun e => by subst e; simp at hi), Page.av l[i], by simp [hi], _, hpc, ?_⟩
      conv => whnf
      refine ixL freed_cells hk hfz ?_
      conv => whnf
      refine stI (get_last _ _) (xs := fs[k].cells) (by rfl) (by rfl) (by rfl) (by rfl) ?_
      rw [hH]
      conv => whnf
      refine zI (z := (ts1.length : Int)) (by rw [wrap_i64 (by simp only [List.length_append, List.length_cons, List.length_nil]; omega) (by simp only [List.length_append, List.length_cons, List.length_nil] at htl ⊢; omega)]; simp only [List.length_append, List.length_cons, List.length_nil]; omega) ?_
      conv => whnf
      refine bre (fun e => ?_) (fun e => ?_)
      · have hk0 : k = 0 := by simp only at e; omega
        have hmerge : t.1 = fs[k].ver → ∀ P, addP (ts0.map coreQ) ((fs.map Freed.core).take (k + 1)) = (ts1 ++ [((t.1, t.2.1 ++ fs[k].pages, P) : FQ)]).map coreQ := fun e1 P => by
          rw [hstep, if_pos hk0, List.map_append, List.map_cons, List.map_nil, addF0_snoc, if_pos (by simpa [coreQ, Freed.core] using e1)]
          simp [coreQ, Freed.core]
        obtain ⟨v1, oh1, ea1, q1, k1, l1, b1⟩ := nq_app (hp := H) (ps := []) (P := .lst 1 [] true) (.inl (.inl ⟨.inr rfl, rfl⟩)) (gL.val t (by simp)) (by simp; omega)
        rw [List.nil_append] at q1
        obtain ⟨v2, oh2, ea2, q2, k2, l2, b2⟩ := nq_app q1 (constQ_nq (hp := oh1.getD H) hfk) (by simp only [constQ]; omega)
        have cX := clean_app (clean_app cH ea1) ea2
        have hebl := lt_of_get hbb
        have hEl := lt_of_get fE
        have n1 : ∀ j, j < H.length → (oh1.getD H)[j]? = H[j]? := fun j hj => k1 j hj (by intro h; cases h)
        have nv1 : ∀ j, j < H.length → blkQ v1 ≠ some j := fun j hj e => by
          rcases b1 j e with h | h
          · cases h
          · omega
        have n2 : ∀ j, j < H.length → (oh2.getD (oh1.getD H))[j]? = H[j]? := fun j hj => (k2 j (by omega) (nv1 j hj)).trans (n1 j hj)
        have hbb1 := (n1 eb hebl).trans hbb
        have hbb2 := (n2 eb hebl).trans hbb
        have fE1 := (n1 _ hEl).trans fE
        have fE2 := (n2 _ hEl).trans fE
        have gN := gL.last (hp2 := oh2.getD (oh1.getD H)) hbb hfz2 (t.2.1 ++ fs[k].pages) v2 (by omega) q2.wide (fun j hj _ => n2 j hj) (fun j hj => by
          rcases b2 j hj with h | h
          · rcases b1 j h with h | h
            · cases h
            · exact .inr h
          · exact .inr (by omega))
        have hwt2 : wgt ((ts1 ++ [((t.1, t.2.1 ++ fs[k].pages, v2) : FQ)]).map coreQ) + wgt ((fs.drop (k + 1)).map Freed.core) < 1048576 := by
          rw [List.map_append, wgt_app] at g4 ⊢
          simp only [List.map_cons, List.map_nil, wgt_one, coreQ, List.length_append] at g4 ⊢
          omega
        have hlen2 : ((ts1 ++ [t]).map rowQ).flatten.length = (ts1.length + 1) * 2 := by
          rw [rows_len (sz := 2) (fun r hm => by obtain ⟨s, _, rfl⟩ := List.mem_map.1 hm; rfl)]
          simp
        have hble : Nat.ble (0 + ((ts1.length : Nat) : Int).toNat * 2 + 1 + [v2].length) ((ts1 ++ [t]).map rowQ).flatten.length = true := by
          rw [Nat.ble_eq, hlen2]
          simp only [List.length_cons, List.length_nil]
          omega
        have r8 : ∀ X, ((oh2.getD (oh1.getD H)).set eb X)[0]? = some R0 := fun X => by
          have : eb ≠ 0 := fun e => by
            have := (g2.lt (.inl (show blkQ (AV.sl 2 eb ver 0 (ts1 ++ [t]).length) = some eb from rfl))).2
            omega
          rw [List.getElem?_set_ne this, n2 0 (by omega), ← hH, old 0 hlo]
          exact g0
        conv => whnf
        refine ⟨by omega, by simp; omega, rfl, ?_⟩
        conv => whnf
        refine ldI hbb ?_
        conv => whnf
        refine wpartI (v := i64 t.1) (by unfold partR; rw [if_neg (by decide), Int.toNat_natCast, Nat.zero_add]; exact hc0) ?_
        conv => whnf
        refine ldI fE ?_
        conv => whnf
        refine bre (fun e1 => ?_) (fun e1 => ?_)
        · have hm1 := hmerge e1 v2
          conv => whnf
          refine ⟨rfl, ?_⟩
          conv => whnf
          refine ⟨by omega, by simp; omega, rfl, ?_⟩
          conv => whnf
          refine ldI hbb ?_
          conv => whnf
          refine wpartI (v := t.2.2) (by unfold partR; rw [if_neg (by decide), Int.toNat_natCast, Nat.zero_add]; exact hc1) ?_
          conv => whnf
          refine ldI fE ?_
          conv => whnf
          refine ⟨_, ea1, ?_⟩
          cases oh1
          all_goals
            conv => whnf
            refine ⟨?_, ?_⟩
            · repeat' first | ((conv => whnf) <;> done) | ((conv => whnf) <;> (first | exact ldI fE1 rfl | exact ldI hbb1 (wpartI (v := t.2.2) (by unfold partR; rw [if_neg (by decide), Int.toNat_natCast, Nat.zero_add]; exact hc1) rfl) | refine ⟨?_, ?_⟩))
            conv => whnf
            refine ⟨_, ea2, ?_⟩
            cases oh2
            all_goals
              conv => whnf
              refine ⟨?_, ?_⟩
              · repeat' first | ((conv => whnf) <;> done) | ((conv => whnf) <;> (first | exact ldI fE2 rfl | exact ldI hbb2 (wpartI (v := t.2.2) (by unfold partR; rw [if_neg (by decide), Int.toNat_natCast, Nat.zero_add]; exact hc1) rfl) | refine ⟨?_, ?_⟩))
              conv => whnf
              refine ⟨by omega, by simp; omega, rfl, ?_⟩
              conv => whnf
              refine stI (xs := [v2]) hbb2 q2.scal.2 (by rfl) hble (by rw [gL.fz _ _ _ _ _ rfl hbb]; rfl) ?_
              conv => whnf
              refine zI (z := ((k + 1 : Nat) : Int)) (by rw [wrap_i64 (by simp only; omega) (by simp only; omega)]; rfl) ?_
              refine nxI (k + 1, _, _, ts1 ++ [(t.1, t.2.1 ++ fs[k].pages, v2)]) ⟨hk, ?_, r8 _, hm1.symm, hwt2, cX.set _ _ _ _ _⟩ (by simp only; omega) ⟨⟨rfl, rfl, rfl, rfl, rfl⟩, rfl, rfl⟩
              have := gN.2
              rw [show 0 + ((ts1.length : Nat) : Int).toNat * 2 + 1 = ts1.length * 2 + 1 by omega]
              exact this
        · have hpl := hsplit fun q => e1 q.1
          conv => whnf
          refine ldI fE ?_
          conv => whnf
          refine ⟨rfl, ?_⟩
          conv => whnf
          refine apI ea ?_
          conv => whnf
          refine zI (z := ((k + 1 : Nat) : Int)) (by rw [wrap_i64 (by simp only; omega) (by simp only; omega)]; rfl) ?_
          exact nxI (k + 1, L', hp', _) ⟨hk, g7, r7, hpl, hwt, clean_app cH ea⟩ (by simp only; omega) ⟨⟨rfl, rfl, rfl, rfl, rfl⟩, rfl, rfl⟩
      · have hpl := hsplit fun q => e (by simp only; omega)
        conv => whnf
        refine ldI fE ?_
        conv => whnf
        refine ⟨rfl, ?_⟩
        conv => whnf
        refine apI ea ?_
        conv => whnf
        refine zI (z := ((k + 1 : Nat) : Int)) (by rw [wrap_i64 (by simp only; omega) (by simp only; omega)]; rfl) ?_
        exact nxI (k + 1, L', hp', _) ⟨hk, g7, r7, hpl, hwt, clean_app cH ea⟩ (by simp only; omega) ⟨⟨rfl, rfl, rfl, rfl, rfl⟩, rfl, rfl⟩
  · have hk : k = fs.length := by simp only [List.length_map] at a; omega
    subst hk
    rw [List.take_of_length_le (by rw [List.length_map]; exact Nat.le_refl _)] at g3
    conv => whnf
    exact hE L hp ts g2 g0 gc g3 _ ⟨rfl, rfl, rfl, rfl⟩
end Go.Proofs
/- Contracts: the reference's list of the pages of a list: a region whose order is open, with a call in memory and a new block. -/
set_option linter.unusedVariables false
set_option linter.unusedSimpArgs false
namespace Go.Proofs
open Go Go.Abs
section
variable {P : Program} {inl : FuncId → Bool} {call : CallF} {ops : Array Oper} {n d : Nat}
theorem val_of {o : Oper} {ri : RI} {tm : Tm} {L : Abs.LT} {h h' : AHeap} {v : AV} (H : HasL n d L tm) (hi : resI P ops o = some ri) (hw : WpV P call ri L h (fun _ v' h'' => v' = v ∧ h'' = h') (fun _ _ => False)) : valA P call ops o tm h = some (v, h') := by
  rcases WpV_sound H hi hw with ⟨_, _, _, _, g, rfl, rfl⟩ | ⟨_, _, _, _, g⟩
  · exact g
  · exact g.elim
theorem rgD_take {N : Nat} {La La' : Array Bool} {M M' : Mon} {tm : Tm} {h : AHeap} {r i : Nat} {rs : List Nat} {o : Oper} {v : AV} {dst : Option Tmp} (hm : monOk P call ops M tm h = true) (hr : Region.ready .any ops La = r :: rs) (hf : (r :: rs).find? (takeable P inl ops La M) = some i) (ho : ops[i]? = some o) (hd : o.dst = dst) (hL : La.setIfInBounds i true = La') (hM : takeM P inl o v M = M') (hv : valA P call ops o tm h = some (v, h)) :
    rgD P inl call ops (N + 1) La M tm h = rgD P inl call ops N La' M' (putT tm dst v) h := by
  subst hd hL hM
  rw [rgD, if_pos hm, hr]
  simp only [hf, ho, hv]
theorem rgD_one {N : Nat} {La La' : Array Bool} {M : Mon} {tm : Tm} {h h' : AHeap} {i : Nat} {o : Oper} {v : AV} {dst : Option Tmp} (hm : monOk P call ops M tm h = true) (hr : Region.ready .any ops La = [i]) (hf : [i].find? (takeable P inl ops La M) = none) (ho : ops[i]? = some o) (hd : o.dst = dst) (hL : La.setIfInBounds i true = La') (hv : valA P call ops o tm h = some (v, h')) :
    rgD P inl call ops (N + 1) La M tm h = rgD P inl call ops N La' M (putT tm dst v) h' := by
  subst hd hL
  rw [rgD, if_pos hm, hr]
  simp only [hf, agree, ho, hv]
theorem beqTm_refl (x : Tm) : beqTm x x = true := by
  have h : ∀ t : Tr, beqT t t = true := fun t => by
    induction t with
    | leaf => rfl
    | node v l r ih1 ih2 => simp [beqT, beqV_refl, ih1, ih2]
  unfold beqTm
  simp [h]
theorem beqH_refl {h : AHeap} (c : Clean h) : beqH h h = true := by
  have main : ∀ l : List AB, (∀ b ∈ l, ∃ v el cs f, b = AB.cells v el cs f) → beqH l l = true := fun l => by
    induction l with
    | nil => intro _; rfl
    | cons b r ih =>
      intro hb
      obtain ⟨v, el, cs, f, rfl⟩ := hb b (List.mem_cons_self ..)
      have := ih fun x hx => hb x (List.mem_cons_of_mem _ hx)
      simp [beqH, beqB, beqVs_refl, this]
  refine main h fun b hb => ?_
  obtain ⟨k, hk, rfl⟩ := List.mem_iff_getElem.1 hb
  exact c k _ (List.getElem?_eq_getElem hk)
theorem rgD_two {N : Nat} {La Lb Lc : Array Bool} {M : Mon} {tm : Tm} {h ha hb : AHeap} {a b : Nat} {oa ob : Oper} {va vb : AV} {da db : Option Tmp} {fin : Tm × AHeap} (hcl : Clean fin.2) (hm : monOk P call ops M tm h = true) (hr : Region.ready .any ops La = [a, b]) (hf : [a, b].find? (takeable P inl ops La M) = none)
    (ha1 : ops[a]? = some oa) (hva : valA P call ops oa tm h = some (va, ha)) (hda : oa.dst = da) (hLa : La.setIfInBounds a true = Lb) (hb1 : ops[b]? = some ob) (hvb : valA P call ops ob tm h = some (vb, hb)) (hdb : ob.dst = db) (hLb : La.setIfInBounds b true = Lc)
    (h1 : rgD P inl call ops N Lb M (putT tm da va) ha = some fin) (h2 : rgD P inl call ops N Lc M (putT tm db vb) hb = some fin) : rgD P inl call ops (N + 1) La M tm h = some fin := by
  subst hda hdb hLa hLb
  rw [rgD, if_pos hm, hr]
  simp only [hf, agree, ha1, hva, hb1, hvb, h1, h2, beqTm_refl, beqH_refl hcl, Bool.and_self, if_true]
theorem mon_one {o : Oper} {v : AV} {tm : Tm} {h : AHeap} (hv : valA P call ops o tm h = some (v, h)) : monOk P call ops [(o, v)] tm h = true := by
  unfold monOk
  simp only [List.all_cons, List.all_nil, hv, beqV_refl, Bool.and_self]
theorem rgD_end {La : Array Bool} {M : Mon} {tm : Tm} {h : AHeap} (hm : monOk P call ops M tm h = true) (hr : Region.ready .any ops La = []) : rgD P inl call ops 0 La M tm h = some (tm, h) := by
  rw [rgD, hm, hr]
  rfl
end
def rawOf : RC → Option Code
  | .seq a b => (rawOf a).orElse fun _ => rawOf b
  | .cond _ a b => (rawOf a).orElse fun _ => rawOf b
  | .block _ c => rawOf c
  | .loop c => rawOf c
  | .cut c => rawOf c
  | .raw c => some c
  | _ => none
def A43 : Array Oper := match rawOf c43 with
  | some (.region _ ops _) => ops
  | _ => #[]
def L43 (k : Nat) : Array Bool := (((List.range 10).map fun i => decide (i < k)).toArray)
abbrev Z43 : AB := .cells 0 (some 81) [.lst 0 [] true, i64 0] 0
theorem sz43 : A43.size = 10 := by kernel_rfl
abbrev q43 (k : Nat) (h : k < 10) : Oper := A43[k]'(by rw [sz43]; exact h)
theorem get43 (k : Nat) (h : k < 10) : A43[k]? = some (q43 k h) := Array.getElem?_eq_getElem _
theorem fork43 {m : Nat} {L : AV} {l : List Page} (hl0 : 0 < l.length) {sz : Nat} (hz : l ≠ [] → sz = 10) {c : Bool} {h h1 : AHeap} {vN a b : AV}
    (cL : C m 41 [L, vN, i64 l[0].ver] h = some (.ret (.agg [a, b]), h1))
    (cL' : C m 41 [L, vN, i64 l[0].ver] (h ++ [Z43]) = some (.ret (.agg [a, b]), h1 ++ [Z43]))
    (hlen : h1.length = h.length) (hab : a.scal = true ∧ b.scal = true) (hcl : Clean h1)
    {t7 : Tm} (H7 : HasL 99 7 (pt (pt (pt (pt (pt (pt (pt [(0, .lst sz (l.map Page.av) c), (2, .ptr 0 0 0), (3, L)] (some 78) L) (some 79) (.lst sz (l.map Page.av) c)) (some 80) vN) (some 81) (.lst sz (l.map Page.av) c)) (some 82) (.pin l[0].cells 0)) (some 83) (.pin l[0].cells 2)) (some 84) (i64 l[0].ver)) t7) : rgD Tryz.prog cfg0.inl (C m) A43 3 (L43 7) [(q43 6 (by decide), i64 l[0].ver)] t7 h = some (putT (putT t7 (some 85) (.agg [a, b])) (some 8) (.ptr h.length 0 0), (h1 ++ [Z43]).set h.length (.cells 0 (some 81) (putAt [.lst 0 [] true, i64 0] 0 [a, b]) 0)) ∧ HasL 99 7 (pt (pt (pt (pt (pt (pt (pt (pt (pt [(0, .lst sz (l.map Page.av) c), (2, .ptr 0 0 0), (3, L)] (some 78) L) (some 79) (.lst sz (l.map Page.av) c)) (some 80) vN) (some 81) (.lst sz (l.map Page.av) c)) (some 82) (.pin l[0].cells 0)) (some 83) (.pin l[0].cells 2)) (some 84) (i64 l[0].ver)) (some 85) (.agg [a, b])) (some 8) (.ptr h.length 0 0)) (putT (putT t7 (some 85) (.agg [a, b])) (some 8) (.ptr h.length 0 0)) := by
  have hn : 99 < 2 ^ 7 := by decide
  have H8 := H7.put hn (dst := some 85) rfl (.agg [a, b])
  have H9 := H8.put hn (dst := some 8) rfl (.ptr h.length 0 0)
  have G8 := H7.put hn (dst := some 8) rfl (.ptr h.length 0 0)
  have w7 : valA Tryz.prog (C m) A43 (q43 6 (by decide)) _ h = some (i64 l[0].ver, h) := val_of H7 (ri := ⟨some 84, none, .op (.load false 1 (.t 83))⟩) (by kernel_rfl) (by (conv => whnf); exact ⟨rfl, rfl⟩)
  have w8 : valA Tryz.prog (C m) A43 (q43 6 (by decide)) _ h1 = some (i64 l[0].ver, h1) := val_of H8 (ri := ⟨some 84, none, .op (.load false 1 (.t 83))⟩) (by kernel_rfl) (by (conv => whnf); exact ⟨rfl, rfl⟩)
  have w9 : ∀ X, valA Tryz.prog (C m) A43 (q43 6 (by decide)) _ X = some (i64 l[0].ver, X) := fun X => val_of H9 (ri := ⟨some 84, none, .op (.load false 1 (.t 83))⟩) (by kernel_rfl) (by (conv => whnf); exact ⟨rfl, rfl⟩)
  have x8 : valA Tryz.prog (C m) A43 (q43 6 (by decide)) _ (h ++ [Z43]) = some (i64 l[0].ver, h ++ [Z43]) := val_of G8 (ri := ⟨some 84, none, .op (.load false 1 (.t 83))⟩) (by kernel_rfl) (by (conv => whnf); exact ⟨rfl, rfl⟩)
  have e7 : valA Tryz.prog (C m) A43 (q43 7 (by decide)) _ h = some (.agg [a, b], h1) := val_of H7 (ri := ⟨some 85, none, .op (.callF 41 [.t 78, .t 80, .t 84])⟩) (by kernel_rfl) (by (conv => whnf); refine clI cL ?_; exact ⟨rfl, rfl⟩)
  have f7 : valA Tryz.prog (C m) A43 (q43 7 (by decide)) _ (h ++ [Z43]) = some (.agg [a, b], h1 ++ [Z43]) := val_of G8 (ri := ⟨some 85, none, .op (.callF 41 [.t 78, .t 80, .t 84])⟩) (by kernel_rfl) (by (conv => whnf); refine clI cL' ?_; exact ⟨rfl, rfl⟩)
  have e8 : valA Tryz.prog (C m) A43 (q43 8 (by decide)) _ h1 = some (.ptr h1.length 0 0, h1 ++ [Z43]) := val_of H8 (ri := ⟨some 8, none, .op (.alloc 81 [.lst 0 [] true, i64 0])⟩) (by kernel_rfl) (by (conv => whnf); exact ⟨rfl, rfl⟩)
  have f8 : valA Tryz.prog (C m) A43 (q43 8 (by decide)) _ h = some (.ptr h.length 0 0, h ++ [Z43]) := val_of H7 (ri := ⟨some 8, none, .op (.alloc 81 [.lst 0 [] true, i64 0])⟩) (by kernel_rfl) (by (conv => whnf); exact ⟨rfl, rfl⟩)
  have hget : (h1 ++ [Z43])[h.length]? = some Z43 := by rw [← hlen]; simp
  have hcells : (AV.agg [a, b]).cells? = some [a, b] := by
    show (if ([a, b] : List AV).all AV.scal = true then some [a, b] else none) = _
    rw [if_pos (by simp [hab.1, hab.2])]
  have e9 : valA Tryz.prog (C m) A43 (q43 9 (by decide)) _ (h1 ++ [Z43]) = some (.undef, (h1 ++ [Z43]).set h.length (.cells 0 (some 81) (putAt [.lst 0 [] true, i64 0] 0 [a, b]) 0)) := val_of H9 (ri := ⟨none, none, .op (.store 2 (.t 8) (.t 85))⟩) (by kernel_rfl) (by
    conv => whnf
    refine stI hget hcells (by rfl) (by rfl) (by rfl) ?_
    exact ⟨rfl, rfl⟩)
  have hfin : Clean ((h1 ++ [Z43]).set h.length (.cells 0 (some 81) (putAt [.lst 0 [] true, i64 0] 0 [a, b]) 0)) := (hcl.one _ _ _ _).set _ _ _ _ _
  have hS : sameM [(q43 6 (by decide), i64 l[0].ver)] [(q43 6 (by decide), .undef)] := rfl
  have r9 : rgD Tryz.prog cfg0.inl (C m) A43 1 (L43 9) [(q43 6 (by decide), i64 l[0].ver)] (putT (putT t7 (some 85) (.agg [a, b])) (some 8) (.ptr h.length 0 0)) (h1 ++ [Z43]) = some (putT (putT t7 (some 85) (.agg [a, b])) (some 8) (.ptr h.length 0 0), (h1 ++ [Z43]).set h.length (.cells 0 (some 81) (putAt [.lst 0 [] true, i64 0] 0 [a, b]) 0)) := by
    rw [rgD_one (N := 0) (i := 9) (La' := L43 10) (mon_one (w9 _)) (by kernel_rfl) (by rw [takeable_same hS]; kernel_rfl) (get43 9 (by decide)) (dst := none) (by kernel_rfl) (by kernel_rfl) e9]
    exact rgD_end (mon_one (w9 _)) (by kernel_rfl)
  have r8a : rgD Tryz.prog cfg0.inl (C m) A43 2 (L43 8) [(q43 6 (by decide), i64 l[0].ver)] (putT t7 (some 85) (.agg [a, b])) h1 = some (putT (putT t7 (some 85) (.agg [a, b])) (some 8) (.ptr h.length 0 0), (h1 ++ [Z43]).set h.length (.cells 0 (some 81) (putAt [.lst 0 [] true, i64 0] 0 [a, b]) 0)) := by
    rw [← r9]
    rw [rgD_one (N := 1) (i := 8) (La' := L43 9) (mon_one w8) (by kernel_rfl) (by rw [takeable_same hS]; kernel_rfl) (get43 8 (by decide)) (dst := some 8) (by kernel_rfl) (by kernel_rfl) e8, hlen]
  have r8b : rgD Tryz.prog cfg0.inl (C m) A43 2 ((L43 7).setIfInBounds 8 true) [(q43 6 (by decide), i64 l[0].ver)] (putT t7 (some 8) (.ptr h.length 0 0)) (h ++ [Z43]) = some (putT (putT t7 (some 85) (.agg [a, b])) (some 8) (.ptr h.length 0 0), (h1 ++ [Z43]).set h.length (.cells 0 (some 81) (putAt [.lst 0 [] true, i64 0] 0 [a, b]) 0)) := by
    rw [← r9, put_comm (x := some 85) (y := some 8) (fun d e1 e2 => by cases e1; cases e2)]
    rw [rgD_one (N := 1) (i := 7) (La' := L43 9) (mon_one x8) (by kernel_rfl) (by rw [takeable_same hS]; kernel_rfl) (get43 7 (by decide)) (dst := some 85) (by kernel_rfl) (by kernel_rfl) f7]
  have r7 : rgD Tryz.prog cfg0.inl (C m) A43 3 (L43 7) [(q43 6 (by decide), i64 l[0].ver)] t7 h = some (putT (putT t7 (some 85) (.agg [a, b])) (some 8) (.ptr h.length 0 0), (h1 ++ [Z43]).set h.length (.cells 0 (some 81) (putAt [.lst 0 [] true, i64 0] 0 [a, b]) 0)) := by
    exact rgD_two (N := 2) hfin (mon_one w7) (by kernel_rfl) (by rw [takeable_same hS]; kernel_rfl) (get43 7 (by decide)) e7 (da := some 85) (by kernel_rfl) (Lb := L43 8) (by kernel_rfl) (get43 8 (by decide)) f8 (db := some 8) (by kernel_rfl) (Lc := (L43 7).setIfInBounds 8 true) rfl r8a r8b
  exact ⟨r7, H9⟩
theorem region43 {ops : Array Oper} (hA : ops = A43) {m : Nat} {L : AV} {l : List Page} (hl0 : 0 < l.length) {sz : Nat} (hz : l ≠ [] → sz = 10) {c : Bool} {h h1 : AHeap} {vN a b : AV}
    (cN : ∀ h, C m 99 [.lst sz (l.map Page.av) c] h = some (.ret vN, h))
    (cL : C m 41 [L, vN, i64 l[0].ver] h = some (.ret (.agg [a, b]), h1))
    (cL' : C m 41 [L, vN, i64 l[0].ver] (h ++ [Z43]) = some (.ret (.agg [a, b]), h1 ++ [Z43]))
    (hlen : h1.length = h.length) (hab : a.scal = true ∧ b.scal = true) (hcl : Clean h1) {Q : Ex → LS → Prop}
    (hQ : Q .norm ⟨pt (pt (pt (pt (pt (pt (pt (pt (pt [(0, .lst sz (l.map Page.av) c), (2, .ptr 0 0 0), (3, L)] (some 78) L) (some 79) (.lst sz (l.map Page.av) c)) (some 80) vN) (some 81) (.lst sz (l.map Page.av) c)) (some 82) (.pin l[0].cells 0)) (some 83) (.pin l[0].cells 2)) (some 84) (i64 l[0].ver)) (some 85) (.agg [a, b])) (some 8) (.ptr h.length 0 0), (h1 ++ [Z43]).set h.length (.cells 0 (some 81) (putAt [.lst 0 [] true, i64 0] 0 [a, b]) 0), []⟩) :
    OkC Tryz.prog (C m) cfg0.inl KK 99 7 (.region 17 ops true) ⟨[(0, .lst sz (l.map Page.av) c), (2, .ptr 0 0 0), (3, L)], h, []⟩ Q := by
  subst hA
  intro tm H
  have hn : 99 < 2 ^ 7 := by decide
  have H1 := H.put hn (dst := some 78) rfl L
  have H2 := H1.put hn (dst := some 79) rfl (.lst sz (l.map Page.av) c)
  have H3 := H2.put hn (dst := some 80) rfl vN
  have H4 := H3.put hn (dst := some 81) rfl (.lst sz (l.map Page.av) c)
  have H5 := H4.put hn (dst := some 82) rfl (.pin l[0].cells 0)
  have H6 := H5.put hn (dst := some 83) rfl (.pin l[0].cells 2)
  have H7 := H6.put hn (dst := some 84) rfl (i64 l[0].ver)
  have e0 : valA Tryz.prog (C m) A43 (q43 0 (by decide)) tm h = some (L, h) := val_of H (ri := ⟨some 78, none, .op (.mv (.t 3))⟩) (by kernel_rfl) (by (conv => whnf); exact ⟨rfl, rfl⟩)
  have e1 : valA Tryz.prog (C m) A43 (q43 1 (by decide)) _ h = some (.lst sz (l.map Page.av) c, h) := val_of H1 (ri := ⟨some 79, none, .op (.mv (.t 0))⟩) (by kernel_rfl) (by (conv => whnf); exact ⟨rfl, rfl⟩)
  have e2 : valA Tryz.prog (C m) A43 (q43 2 (by decide)) _ h = some (vN, h) := val_of H2 (ri := ⟨some 80, none, .op (.callF 99 [.t 79])⟩) (by kernel_rfl) (by (conv => whnf); refine clI (cN _) ?_; exact ⟨rfl, rfl⟩)
  have e3 : valA Tryz.prog (C m) A43 (q43 3 (by decide)) _ h = some (.lst sz (l.map Page.av) c, h) := val_of H3 (ri := ⟨some 81, none, .op (.mv (.t 0))⟩) (by kernel_rfl) (by (conv => whnf); exact ⟨rfl, rfl⟩)
  have e4 : valA Tryz.prog (C m) A43 (q43 4 (by decide)) _ h = some (.pin l[0].cells 0, h) := val_of H4 (ri := ⟨some 82, none, .op (.indexAddrL 10 (.t 81) (.c (.int .i64 0)))⟩) (by kernel_rfl) (by (conv => whnf); refine ixL page_cells hl0 hz ?_; exact ⟨rfl, rfl⟩)
  have e5 : valA Tryz.prog (C m) A43 (q43 5 (by decide)) _ h = some (.pin l[0].cells 2, h) := val_of H5 (ri := ⟨some 83, none, .op (.fieldAddr 2 (.t 82))⟩) (by kernel_rfl) (by (conv => whnf); exact ⟨rfl, rfl⟩)
  have e6 : valA Tryz.prog (C m) A43 (q43 6 (by decide)) _ h = some (i64 l[0].ver, h) := val_of H6 (ri := ⟨some 84, none, .op (.load false 1 (.t 83))⟩) (by kernel_rfl) (by (conv => whnf); exact ⟨rfl, rfl⟩)
  obtain ⟨r7, H9⟩ := fork43 hl0 hz cL cL' hlen hab hcl H7
  have k0 : ∀ (k : Nat) (hk : k < 10) (v : AV), kindOf Tryz.prog cfg0.inl (q43 k hk) = .k0 → takeM Tryz.prog cfg0.inl (q43 k hk) v [] = [] := fun k hk v e => by unfold takeM; rw [e]; rfl
  have k1 : takeM Tryz.prog cfg0.inl (q43 6 (by decide)) (i64 l[0].ver) [] = [(q43 6 (by decide), i64 l[0].ver)] := by unfold takeM; rw [show kindOf Tryz.prog cfg0.inl (q43 6 (by decide)) = .k1 by kernel_rfl]; rfl
  have r0 : rgD Tryz.prog cfg0.inl (C m) A43 10 (L43 0) [] tm h = some (putT (putT (putT (putT (putT (putT (putT (putT (putT tm (some 78) L) (some 79) (.lst sz (l.map Page.av) c)) (some 80) vN) (some 81) (.lst sz (l.map Page.av) c)) (some 82) (.pin l[0].cells 0)) (some 83) (.pin l[0].cells 2)) (some 84) (i64 l[0].ver)) (some 85) (.agg [a, b])) (some 8) (.ptr h.length 0 0), (h1 ++ [Z43]).set h.length (.cells 0 (some 81) (putAt [.lst 0 [] true, i64 0] 0 [a, b]) 0)) := by
    rw [← r7]
    rw [rgD_take (N := 9) (i := 0) (La' := L43 1) (M' := []) rfl (r := 0) (rs := [1, 3, 8]) (by kernel_rfl) (by kernel_rfl) (get43 0 (by decide)) (dst := some 78) (by kernel_rfl) (by kernel_rfl) (k0 _ _ _ (by kernel_rfl)) e0]
    rw [rgD_take (N := 8) (i := 1) (La' := L43 2) (M' := []) rfl (r := 1) (rs := [3, 8]) (by kernel_rfl) (by kernel_rfl) (get43 1 (by decide)) (dst := some 79) (by kernel_rfl) (by kernel_rfl) (k0 _ _ _ (by kernel_rfl)) e1]
    rw [rgD_take (N := 7) (i := 2) (La' := L43 3) (M' := []) rfl (r := 2) (rs := [3, 8]) (by kernel_rfl) (by kernel_rfl) (get43 2 (by decide)) (dst := some 80) (by kernel_rfl) (by kernel_rfl) (k0 _ _ _ (by kernel_rfl)) e2]
    rw [rgD_take (N := 6) (i := 3) (La' := L43 4) (M' := []) rfl (r := 3) (rs := [8]) (by kernel_rfl) (by kernel_rfl) (get43 3 (by decide)) (dst := some 81) (by kernel_rfl) (by kernel_rfl) (k0 _ _ _ (by kernel_rfl)) e3]
    rw [rgD_take (N := 5) (i := 4) (La' := L43 5) (M' := []) rfl (r := 4) (rs := [8]) (by kernel_rfl) (by kernel_rfl) (get43 4 (by decide)) (dst := some 82) (by kernel_rfl) (by kernel_rfl) (k0 _ _ _ (by kernel_rfl)) e4]
    rw [rgD_take (N := 4) (i := 5) (La' := L43 6) (M' := []) rfl (r := 5) (rs := [8]) (by kernel_rfl) (by kernel_rfl) (get43 5 (by decide)) (dst := some 83) (by kernel_rfl) (by kernel_rfl) (k0 _ _ _ (by kernel_rfl)) e5]
    rw [rgD_take (N := 3) (i := 6) (La' := L43 7) (M' := [(q43 6 (by decide), i64 l[0].ver)]) rfl (r := 6) (rs := [8]) (by kernel_rfl) (by kernel_rfl) (get43 6 (by decide)) (dst := some 84) (by kernel_rfl) (by kernel_rfl) k1 e6]
  refine ⟨.norm, ⟨_, _, []⟩, ?_, _, H9, hQ⟩
  unfold evalC
  rw [if_pos rfl]
  unfold drawA
  rw [show sched Tryz.prog cfg0.inl A43 A43.size (Array.replicate A43.size false) [] = none by kernel_rfl]
  simp only
  rw [if_pos (show (Tryz.prog.follows .mixedOrders && Region.noSelect A43) = true by kernel_rfl), show Array.replicate A43.size false = L43 0 by kernel_rfl, sz43, r0]
  rfl
end Go.Proofs
/- Contracts: the list of the pages of a list, whole. -/
set_option linter.unusedVariables false
set_option linter.unusedSimpArgs false
namespace Go.Proofs
open Go Go.Abs
theorem wgt_addF0 (f : FP) : ∀ ts : List FP, wgt (addF0 ts f) ≤ wgt ts + (f.2.length + 1)
  | [] => by simp [addF0, wgt]
  | [a] => by
    unfold addF0
    split
    · simp only [wgt, List.map_cons, List.map_nil, List.sum_cons, List.sum_nil, List.length_append]; omega
    · simp only [wgt, List.map_cons, List.map_nil, List.sum_cons, List.sum_nil]; omega
  | a :: b :: r => by
    have := wgt_addF0 f (b :: r)
    show wgt (a :: addF0 (b :: r) f) ≤ _
    simp only [wgt, List.map_cons, List.sum_cons] at this ⊢
    omega
theorem wgt_addP (ts fs : List FP) : wgt (addP ts fs) ≤ wgt ts + wgt fs := by
  cases fs with
  | nil => simp [addP, wgt]
  | cons f r =>
    have := wgt_addF0 f ts
    unfold addP
    rw [wgt_app]
    simp only [wgt, List.map_cons, List.sum_cons] at this ⊢
    omega
/-- What ListOf returns. -/
structure LofS (l : List Page) (r : CRes) : Prop where
  ex : ∃ (fs : List Freed) (sh : Sh) (ps : List Page) (e : Int), r = .ret (.tup (if l = [] ∨ (e = 0 ∧ samePs l ps = true) then [.lst sh.sz (fs.map Freed.av) sh.c, i64 0] else [.lst 0 [] true, i64 2])) ∧ fs.map Freed.core = allF l ∧ (∀ f ∈ fs, f.Ok) ∧ (fs ≠ [] → sh.sz = 2) ∧ (l = [] ∨ ListSpec fs (l.map Page.no) (headV l) ps e)
section
variable {n : Nat} {h : AHeap}
set_option maxRecDepth 10000 in
theorem listOf_eq (hn : 9 ≤ n) (l : List Page) (hl : l.length ≤ 1000) (ho : ∀ p ∈ l, p.Ok) (hW : wl l < 1048576) (sz : Nat) (hz : l ≠ [] → sz = 10) (c : Bool) : ∃ r, (∀ h, C n 42 [.lst sz (l.map Page.av) c] h = some (r, h)) ∧ LofS l r := by
  obtain ⟨m, rfl⟩ : ∃ m, n = m + 1 := ⟨n - 1, by omega⟩
  refine fun_pureX F42 rfl rfl rfl (pure_lst page_pure l rfl) ?_
  by_cases hne : l = []
  · subst hne
    conv => whnf
    exact ⟨_, rfl, _, ⟨_, rfl, rfl⟩, ⟨[], ⟨0, true⟩, [], 0, by rw [if_pos (.inl rfl)]; rfl, rfl, (fun f hf => by cases hf), fun q => (q rfl).elim, .inl rfl⟩⟩
  have h0 : 0 < l.length := by cases l with | nil => exact (hne rfl).elim | cons => simp
  have hhd : l[0].ver = headV l := by cases l with | nil => exact (hne rfl).elim | cons => rfl
  have cN := fun h => numbersOf_eq (n := m) (h := h) (by omega) l (by omega) sz hz c hne
  have hs := hz hne
  subst hs
  conv => whnf
  refine bre (fun a => ?_) (fun _ => ?_)
  · exfalso; rw [List.length_map] at a; omega
  conv => whnf
  refine loopI (by decide) rfl (α := Nat × AV × AHeap × List FQ) (fun x => ⟨[(0, .lst 10 (l.map Page.av) c), (4, x.2.1), (15, .lst 10 (l.map Page.av) c), (16, i64 l.length), (17, i64 x.1)], x.2.2.1, []⟩)
    (fun x => x.1 ≤ l.length ∧ LB false 0 x.2.2.1 x.2.1 x.2.2.2 ∧ x.2.2.2.map coreQ = allF (l.take x.1) ∧ wgt (x.2.2.2.map coreQ) + wl (l.drop x.1) < 1048576) (fun x => l.length - x.1) (0, .lst 0 [] true, [], []) ⟨⟨rfl, rfl, rfl, lenI _ _, rfl⟩, rfl, rfl⟩ ⟨Nat.zero_le _, LB.nil, rfl, by simpa [wgt] using hW⟩ (by show l.length - 0 < KK; simp only [KK]; omega) ?_
  rintro ⟨i, L, hp, ts⟩ ⟨g1, g2, g3, g4⟩
  simp only at g1 g2 g3 g4
  conv => whnf
  refine brd (fun a => ?_) (fun a => ?_)
  · have hi : i < l.length := by simp only at a; omega
    have op := ho _ (List.getElem_mem hi)
    rw [wl_drop hi] at g4
    have hadd := wgt_addP (ts.map coreQ) (l[i].freed.map Freed.core)
    conv => whnf
    refine ixL page_cells hi hz ?_
    conv => whnf
    refine stI (get_last _ _) (xs := l[i].cells) (by rfl) (by rfl) (by rfl) (by rfl) ?_
    conv => whnf
    refine ldI (get_set_last _ _ _) ?_
    conv => whnf
    refine listOf_in (by omega) l 10 c i l[i].freed l[i].fsh.sz op.fsz l[i].fsh.c (fun f hf => (op.fr f hf).1) L _ ts (g2.old fun k _ hk => by rw [List.getElem?_set_ne (by simp only; omega), List.getElem?_append_left hk]) (by omega) ⟨⟨rfl, rfl, rfl, rfl, rfl, rfl, lenI Freed.av _, rfl⟩, rfl, rfl⟩ (fun L' hp' ts' b' e' Lt hL => ?_)
    conv => whnf
    refine cutI (by decide) rfl (t := ⟨[(0, .lst 10 (l.map Page.av) c), (4, L'), (15, .lst 10 (l.map Page.av) c), (16, i64 l.length), (17, i64 i)], hp', []⟩) ⟨hL, rfl, rfl⟩ ?_
    conv => whnf
    refine zI (z := ((i + 1 : Nat) : Int)) (by rw [wrap_i64 (by omega) (by omega)]; rfl) ?_
    exact nxI (i + 1, L', hp', ts') ⟨hi, b', by simp only; rw [e', g3, allF_take hi], by simp only; rw [e']; omega⟩ (by simp only; omega) ⟨⟨rfl, rfl, rfl, rfl, rfl⟩, rfl, rfl⟩
  · have hi : i = l.length := by simp only at a; omega
    subst hi
    rw [List.take_length] at g3
    obtain ⟨sh, f1, f2, f3⟩ := g2.frz 61
    have f4 : Abs.frz hp 63 L = some (.lst sh.sz ((ts.map toQ).map Freed.av) sh.c) := by
      obtain ⟨sh', q1, _, q3⟩ := g2.frz 60
      rw [f3, ← q3]; exact q1
    have hfs : (ts.map toQ).map Freed.core = allF l := by rw [toQ_core, g3]
    have hok : ∀ f ∈ ts.map toQ, f.Ok := fun f hm => by obtain ⟨t, ht, rfl⟩ := List.mem_map.1 hm; exact toQ_ok (g2.val t ht)
    have hwq : wgt ((ts.map toQ).map Freed.core) < 1048576 := by rw [toQ_core]; omega
    have hfl : ∀ f ∈ ts.map toQ, f.Ok ∧ f.pages.length < 9223372036854775808 := fun f hm => by
      have := wgt_mem (l := (ts.map toQ).map Freed.core) (x := f.core) (List.mem_map.2 ⟨f, hm, rfl⟩)
      change f.pages.length + 1 ≤ _ at this
      exact ⟨hok f hm, by omega⟩
    have hll : (ts.map toQ).length < 1048576 := by
      have := wgt_len ((ts.map toQ).map Freed.core)
      rw [List.length_map] at this
      omega
    have hsz : ts.map toQ ≠ [] → sh.sz = 2 := fun q => f2 fun e => q (by rw [e]; rfl)
    obtain ⟨ps, psh, e, cLP, spec, pz, pok⟩ := listPages_eq (n := m) (by omega) (ts.map toQ) hll hfl (fun _ => hwq) sh.sz hsz sh.c (l.map Page.no) (by rw [List.length_map]; omega) 1 (fun _ => rfl) false l[0].ver
    rw [hhd] at spec
    have cE := fun h => eqPages_eq (n := m) (h := h) (by omega) l ps (by omega) ho pok 10 psh.sz hz pz c psh.c
    obtain ⟨hpF, cL, hF⟩ : ∃ hpF, C m 40 [L, .lst 1 ((l.map Page.no).map i64) false, i64 l[0].ver] hp = some (.ret (.tup [.lst psh.sz (ps.map Page.av) psh.c, i64 e]), hpF) ∧ Abs.frz hpF 63 L = some (.lst sh.sz ((ts.map toQ).map Freed.av) sh.c) := by
      by_cases hts : ts = []
      · subst hts
        have hL := g2.emp rfl
        subst hL
        rw [if_pos rfl] at f3
        subst f3
        exact ⟨hp, cLP hp, rfl⟩
      · obtain ⟨eb, ver, hL⟩ := g2.buf.sl (by simpa using hts)
        obtain ⟨m', rfl⟩ : ∃ m', m = m' + 1 := ⟨m - 1, by omega⟩
        refine ⟨_, cold_mem (args' := [.lst sh.sz ((ts.map toQ).map Freed.av) sh.c, .lst 1 ((l.map Page.no).map i64) false, i64 l[0].ver]) rfl rfl (of_decide_eq_true (by kernel_rfl)) (by rw [hL]; rfl) ?_ (pure_lst freed_pure _ (ints_pure _ rfl)) (cLP hp) rfl rfl, ?_⟩
        · unfold allM allM allM allM
          rw [f1]
          have e2 : Abs.frz hp 64 (.lst 1 ((l.map Page.no).map i64) false) = some (.lst 1 ((l.map Page.no).map i64) false) := (frzOk_lst fun x hx => by obtain ⟨k, _, rfl⟩ := List.mem_map.1 hx; exact frzOk_int) hp
          rw [e2]
          rfl
        · rw [frz_lock]; exact f4
    have fin : ∀ (b : Bool), b = decide (e = 0 ∧ samePs l ps = true) → LofS l (.ret (.tup (if b = true then [.lst sh.sz ((ts.map toQ).map Freed.av) sh.c, i64 0] else [.lst 0 [] true, i64 2]))) := fun b hb => by
      subst hb
      refine ⟨ts.map toQ, sh, ps, e, ?_, hfs, hok, hsz, .inr spec⟩
      by_cases q : e = 0 ∧ samePs l ps = true
      · rw [if_pos (decide_eq_true q), if_pos (.inr q)]
      · rw [if_neg (by simpa using q), if_neg (by simp [hne]; simpa using q)]
    conv => whnf
    refine cutI (by decide) rfl (t := ⟨[(0, .lst 10 (l.map Page.av) c), (4, L)], hp, []⟩) ⟨⟨rfl, rfl⟩, rfl, rfl⟩ ?_
    conv => whnf
    refine clI (cN _) ?_
    conv => whnf
    refine ixL page_cells h0 hz ?_
    conv => whnf
    refine clI cL ?_
    conv => whnf
    refine ⟨?_, ?_⟩
    · repeat' first | ((conv => whnf) <;> done) | ((conv => whnf) <;> (first | exact ldI (rfl) rfl | refine ⟨?_, ?_⟩))
    conv => whnf
    refine brq (fun q => ?_) (fun q => ?_)
    · conv => whnf
      have := fin false (by symm; rw [decide_eq_false_iff_not]; exact fun h => q h.1)
      exact ⟨_, rfl, _, ⟨_, rfl, rfl⟩, this⟩
    conv => whnf
    refine clI (cE _) ?_
    conv => whnf
    refine brn (fun r => ?_) (fun r => ?_)
    · conv => whnf
      have := fin false (by symm; rw [decide_eq_false_iff_not]; exact fun h => by rw [r] at h; cases h.2)
      exact ⟨_, rfl, _, ⟨_, rfl, rfl⟩, this⟩
    · conv => whnf
      have := fin true (by symm; rw [decide_eq_true_eq]; exact ⟨q, r⟩)
      exact ⟨_, rfl, _, ⟨_, frz_tup2 hF rfl, rfl⟩, this⟩
end
end Go.Proofs
/- Lists of freed pages: what both answers have in common, and what was cut is put together again. -/
set_option linter.unusedVariables false
set_option linter.unusedSimpArgs false
namespace Go.Proofs
open Go Go.Abs
/-- Two pages of one list. -/
structure Alike (p q : Page) : Prop where
  kind : p.kind = q.kind
  no : p.no = q.no
  ver : p.ver = q.ver
  next : p.next = q.next
  data : p.data = q.data
  freed : p.freed.map Freed.core = q.freed.map Freed.core
  bp : Bare p
  bq : Bare q
theorem LPg.alike {ns : List Int} {v : Int} {ds : List (List FP)} {k : Nat} {p q : Page} (a : LPg ns v ds k p) (b : LPg ns v ds k q) : Alike p q :=
  ⟨a.kind.trans b.kind.symm, a.no.trans b.no.symm, a.ver.trans b.ver.symm, a.next.trans b.next.symm, a.data.trans b.data.symm, a.freed.trans b.freed.symm, a.bare, b.bare⟩
theorem Alike.plain {p q : Page} (a : Alike p q) : p.plain = true ∧ q.plain = true := by
  obtain ⟨a1, a2, a3, a4⟩ := a.bp
  obtain ⟨b1, b2, b3, b4⟩ := a.bq
  unfold Page.plain
  rw [a1, a2, a3, a4, b1, b2, b3, b4]
  exact ⟨rfl, rfl⟩
theorem Alike.sameR {p q : Page} (a : Alike p q) : sameR p q = true := by
  obtain ⟨a1, a2, a3, a4⟩ := a.bp
  obtain ⟨b1, b2, b3, b4⟩ := a.bq
  unfold Go.Proofs.sameR
  rw [a.kind, a.no, a.ver, a.next, a.data, a.freed, a1, a2, a3, b1, b2, b3, b4]
  simp
theorem Alike.sameP {p q : Page} (a : Alike p q) (x : Page) : Go.Proofs.sameP x p = Go.Proofs.sameP x q := by
  unfold Go.Proofs.sameP
  rw [a.kind, a.no, a.ver, a.next, a.data, a.freed, a.plain.1, a.plain.2]
theorem ListSpec.bare {l : List Freed} {no : List Int} {v : Int} {ps : List Page} {e : Int} (s : ListSpec l no v ps e) : ∀ p ∈ ps, Bare p := by
  cases s with
  | form => intro p hp; cases hp
  | arg => intro p hp; cases hp
  | ok _ _ _ _ h =>
    intro p hp
    obtain ⟨k, hk, rfl⟩ := List.mem_iff_getElem.1 hp
    exact (h k hk).bare
theorem ListSpec.one {l : List Freed} {no : List Int} {v : Int} {ps ps' : List Page} {e e' : Int} (s : ListSpec l no v ps e) (s' : ListSpec l no v ps' e') : e = e' ∧ ps.length = ps'.length ∧ ∀ k (hk : k < ps.length) (hk' : k < ps'.length), Alike ps[k] ps'[k] := by
  cases s with
  | form h =>
    cases s' with
    | form _ => exact ⟨rfl, rfl, fun k hk => absurd hk (Nat.not_lt_zero _)⟩
    | arg h2 _ => rw [h] at h2; cases h2
    | ok h2 _ _ _ _ => rw [h] at h2; cases h2
  | arg h q =>
    cases s' with
    | form h2 => rw [h] at h2; cases h2
    | arg _ _ => exact ⟨rfl, rfl, fun k hk => absurd hk (Nat.not_lt_zero _)⟩
    | ok _ h3 h4 _ _ =>
      rcases q with q | q
      · omega
      · rw [q] at h4; cases h4
  | ok h h3 h4 h5 h6 =>
    cases s' with
    | form h2 => rw [h] at h2; cases h2
    | arg _ q =>
      rcases q with q | q
      · omega
      · rw [q] at h4; cases h4
    | ok _ _ _ h5' h6' => exact ⟨rfl, h5.trans h5'.symm, fun k hk hk' => (h6 k hk).alike (h6' k hk')⟩
theorem ListSpec.core {a b : List Freed} (h : a.map Freed.core = b.map Freed.core) {no : List Int} {v : Int} {ps : List Page} {e : Int} (s : ListSpec a no v ps e) : ListSpec b no v ps e := by
  have h1 := freedOk_core h
  cases s with
  | form q => exact .form (by rw [← h1]; exact q)
  | arg q r => exact .arg (by rw [← h1]; exact q) (by rw [← h]; exact r)
  | ok q r t u w => exact .ok (by rw [← h1]; exact q) (by rw [← h]; exact r) t u (by rw [← h]; exact w)
theorem alikes_R {a b : List Page} (hl : a.length = b.length) (h : ∀ k (hk : k < a.length) (hk' : k < b.length), Alike a[k] b[k]) : samePsR a b = true := samePsR_yes hl fun j ha hb => (h j ha hb).sameR
theorem alikes_P {a b : List Page} (hl : a.length = b.length) (h : ∀ k (hk : k < a.length) (hk' : k < b.length), Alike a[k] b[k]) (l : List Page) : samePs l a = samePs l b := by
  have h1 : List.zipWith sameP l a = List.zipWith sameP l b := by
    apply List.ext_getElem
    · simp [hl]
    · intro i h1 h2
      simp only [List.length_zipWith] at h1 h2
      simp only [List.getElem_zipWith]
      exact (h i (by omega) (by omega)).sameP _
  unfold samePs
  rw [h1, hl]
end Go.Proofs
/- Contracts: the reference's list of the pages of a list. -/
set_option linter.unusedVariables false
set_option linter.unusedSimpArgs false
namespace Go.Proofs
open Go Go.Abs
theorem rch_i (h : AHeap) (n : Nat) (k : Int) : rchV h n (i64 k) = [] := by cases n <;> rfl
theorem rch_is (h : AHeap) (n : Nat) (l : List Int) : (l.map i64).flatMap (rchV h n) = [] := by
  induction l with
  | nil => rfl
  | cons a r ih => rw [List.map_cons, List.flatMap_cons, rch_i, ih]; rfl
theorem rch_NQ {kc : Bool} {h : AHeap} {ps : List Int} {P : AV} (q : NQ kc h ps P) (n : Nat) : rchV h (n + 1) P = (blkQ P).toList := by
  rcases q with (⟨rfl | rfl, _⟩ | ⟨b, ver, frz, rfl, h2, _⟩) | ⟨_, z, c, rfl, _⟩
  · rfl
  · rfl
  · unfold rchV
    simp only [h2, rch_is]
    rfl
  · show (ps.map i64).flatMap (rchV h n) = _
    rw [rch_is]; rfl
theorem rch_LB {kc : Bool} {lo : Nat} {h : AHeap} {L : AV} {ts : List FQ} (b : LB kc lo h L ts) (n : Nat) : rchV h (n + 2) L = (blkQ L).toList ++ ts.flatMap fun t => (blkQ t.2.2).toList := by
  have main : ∀ ts : List FQ, (∀ t ∈ ts, NQ kc h t.2.1 t.2.2) → (ts.map rowQ).flatten.flatMap (rchV h (n + 1)) = ts.flatMap fun t => (blkQ t.2.2).toList := fun ts hv => by
    induction ts with
    | nil => rfl
    | cons t r ih =>
      have h1 := rch_NQ (hv t (List.mem_cons_self ..)) n
      have h2 := ih fun s hs => hv s (List.mem_cons_of_mem _ hs)
      rw [List.map_cons, List.flatten_cons, List.flatMap_append, h2, List.flatMap_cons]
      simp only [rowQ, List.flatMap_cons, List.flatMap_nil, rch_i, h1, List.nil_append, List.append_nil]
  by_cases e : ts = []
  · subst e
    rw [b.emp rfl]
    rfl
  · obtain ⟨eb, ver, hL⟩ := b.buf.sl (by simpa using e)
    have hb : ∃ frz, h[eb]? = some (.cells ver (some tFrd) (ts.map rowQ).flatten frz) := by
      rcases b.buf.1.2 with ⟨h1, _⟩ | ⟨eb', ver', frz, h1, h2, _⟩
      · rw [hL] at h1; cases h1
      · rw [hL] at h1
        obtain ⟨_, q1, q2, _, _⟩ := AV.sl.inj h1
        subst q1 q2
        exact ⟨frz, h2⟩
    obtain ⟨frz, hb⟩ := hb
    subst hL
    unfold rchV
    simp only [hb, main ts b.val]
    rfl
theorem lock_app {h : AHeap} {R : List Nat} {Z : AB} (hR : h.length ∉ R) : lockH (h ++ [Z]) R = lockH h R ++ [Z] := by
  apply List.ext_getElem?
  intro b
  rw [lock_get, List.getElem?_append, List.getElem?_append, lock_len, lock_get]
  by_cases hb : b < h.length
  · rw [if_pos hb, if_pos hb]
  · rw [if_neg hb, if_neg hb, List.getElem?_singleton]
    by_cases e : b - h.length = 0
    · have : b = h.length := by omega
      rw [if_pos e]
      subst this
      simp [hR]
    · rw [if_neg e]
      rfl
theorem WBuf.lock {lo el sz : Nat} {h : AHeap} {L : AV} {rows : List (List AV)} (b : WBuf lo el sz h L rows) (R : List Nat) : WBuf lo el sz (lockH h R) L rows := by
  refine ⟨⟨b.1.1, ?_⟩, b.2⟩
  rcases b.1.2 with h1 | ⟨eb, ver, frz, h1, h2, h3⟩
  · exact .inl h1
  · right
    by_cases hc : R.contains eb = true
    · exact ⟨eb, ver, max frz rows.flatten.length, h1, by rw [lock_get, h2]; simp only [Option.map_some]; rw [if_pos hc]; rfl, by omega⟩
    · exact ⟨eb, ver, frz, h1, by rw [lock_get, h2]; simp only [Option.map_some]; rw [if_neg hc], h3⟩
theorem NQ.lock {kc : Bool} {h : AHeap} {ps : List Int} {P : AV} (q : NQ kc h ps P) (R : List Nat) : NQ kc (lockH h R) ps P := by
  rcases q with (h1 | ⟨b, ver, frz, h1, h2, h3⟩) | h1
  · exact .inl (.inl h1)
  · refine .inl (.inr ?_)
    by_cases hc : R.contains b = true
    · exact ⟨b, ver, max frz (ps.map i64).length, h1, by rw [lock_get, h2]; simp only [Option.map_some]; rw [if_pos hc]; rfl, by rw [List.length_map]; omega⟩
    · exact ⟨b, ver, frz, h1, by rw [lock_get, h2]; simp only [Option.map_some]; rw [if_neg hc], h3⟩
  · exact .inr h1
theorem Clean.lock {h : AHeap} (c : Clean h) (R : List Nat) : Clean (lockH h R) := fun k b hb => by
  rw [lock_get] at hb
  cases hk : h[k]? with
  | none => rw [hk] at hb; cases hb
  | some x =>
    obtain ⟨v, el, cs, f, rfl⟩ := c k x hk
    rw [hk] at hb
    simp only [Option.map_some, Option.some.injEq] at hb
    split at hb
    · exact ⟨_, _, _, _, hb.symm⟩
    · exact ⟨_, _, _, _, hb.symm⟩
theorem wp_seqI {P : Program} {call : CallF} {inl : FuncId → Bool} {k n d : Nat} {a b : RC} {s : LS} {Q : Ex → LS → Prop} (h : Wp P call inl k n d a s (fun ex s' => match ex with
    | .norm => Wp P call inl k n d b s' Q
    | e => Q e s')) : Wp P call inl k n d (.seq a b) s Q := h
theorem wp_rawI {P : Program} {call : CallF} {inl : FuncId → Bool} {k n d : Nat} {c : Code} {s : LS} {Q : Ex → LS → Prop} (h : OkC P call inl k n d c s Q) : Wp P call inl k n d (.raw c) s Q := h
/-- What the reference's ListOf returns. -/
structure LofR (l : List Page) (r : CRes) : Prop where
  ex : ∃ (fs : List Freed) (sh : Sh) (ps : List Page) (e : Int), r = .ret (.agg (if l = [] ∨ (e = 0 ∧ samePs l ps = true) then [.lst sh.sz (fs.map Freed.av) sh.c, i64 0] else [.lst 0 [] true, i64 2])) ∧ fs.map Freed.core = allF l ∧ (∀ f ∈ fs, f.Ok) ∧ (fs ≠ [] → sh.sz = 2) ∧ (l = [] ∨ ListSpec fs (l.map Page.no) (headV l) ps e)
section
variable {n : Nat} {h : AHeap}
/-- The call of ListPages, where the list is in memory. -/
theorem lp_mem {m : Nat} {L : AV} {hp : AHeap} {ts : List FQ} (g : LB true 1 hp L ts) (gc : Clean hp) {sh : Sh} {nos : List Int} {v : Int} {r : AV}
    (hsh : Abs.frz hp 64 L = some (.lst sh.sz ((ts.map toQ).map Freed.av) sh.c)) (hnil : ts = [] → sh = ⟨0, true⟩)
    (cLP : ∀ h, C (m + 1) 41 [.lst sh.sz ((ts.map toQ).map Freed.av) sh.c, .lst 1 (nos.map i64) false, i64 v] h = some (.ret r, h)) :
    ∃ h1, C (m + 1) 41 [L, .lst 1 (nos.map i64) false, i64 v] hp = some (.ret r, h1) ∧ (∀ Z, C (m + 1) 41 [L, .lst 1 (nos.map i64) false, i64 v] (hp ++ [Z]) = some (.ret r, h1 ++ [Z])) ∧ h1.length = hp.length ∧ Clean h1 ∧ WBuf 1 tFrd 2 h1 L (ts.map rowQ) ∧ (∀ t ∈ ts, NQ true h1 t.2.1 t.2.2) ∧ h1[0]? = hp[0]? := by
  by_cases hts : ts = []
  · subst hts
    have hL := g.emp rfl
    subst hL
    have := hnil rfl
    subst this
    exact ⟨hp, cLP hp, fun Z => cLP _, rfl, gc, g.buf, g.val, rfl⟩
  · obtain ⟨eb, ver, hL⟩ := g.buf.sl (by simpa using hts)
    have hi : ∀ H : AHeap, Abs.frz H 64 (.lst 1 (nos.map i64) false) = some (.lst 1 (nos.map i64) false) := fun H => (frzOk_lst fun x hx => by obtain ⟨k, _, rfl⟩ := List.mem_map.1 hx; exact frzOk_int) H
    have key : ∀ H, LB true 1 H L ts → Abs.frz H 64 L = some (.lst sh.sz ((ts.map toQ).map Freed.av) sh.c) → C (m + 1) 41 [L, .lst 1 (nos.map i64) false, i64 v] H = some (.ret r, lockH H ((blkQ L).toList ++ ts.flatMap fun t => (blkQ t.2.2).toList)) := fun H b hf => by
      have h1 := cold_mem (args := [L, .lst 1 (nos.map i64) false, i64 v]) (args' := [.lst sh.sz ((ts.map toQ).map Freed.av) sh.c, .lst 1 (nos.map i64) false, i64 v]) (c := cfg0) (n := m) (f := 41) (h := H) (v := r) rfl rfl (of_decide_eq_true (by kernel_rfl)) (by rw [hL]; rfl) (by
        unfold allM allM allM allM
        rw [hf, hi H]
        rfl) (pure_lst freed_pure _ (ints_pure _ rfl)) (cLP H) rfl rfl
      have e : ([L, .lst 1 (nos.map i64) false, i64 v] : List AV).flatMap (rchV H 64) = (blkQ L).toList ++ ts.flatMap fun t => (blkQ t.2.2).toList := by
        simp only [List.flatMap_cons, List.flatMap_nil, List.append_nil]
        rw [rch_LB b 62, rch_i, show rchV H 64 (.lst 1 (nos.map i64) false) = [] from rch_is H 63 nos, List.append_nil]
        simp
      rw [e] at h1
      exact h1
    have hmem : ∀ k ∈ ((blkQ L).toList ++ ts.flatMap fun t => (blkQ t.2.2).toList), k < hp.length ∧ 1 ≤ k := fun k hk => by
      rw [List.mem_append] at hk
      rcases hk with hk | hk
      · rw [Option.mem_toList] at hk
        exact g.lt (.inl hk)
      · obtain ⟨t, ht, hk⟩ := List.mem_flatMap.1 hk
        rw [Option.mem_toList] at hk
        exact g.lt (.inr ⟨t, ht, hk⟩)
    refine ⟨_, key hp g hsh, fun Z => ?_, lock_len _ _, gc.lock _, g.buf.lock _, fun t ht => (g.val t ht).lock _, lock_out fun hk => ?_⟩
    · have g2 : LB true 1 (hp ++ [Z]) L ts := g.old fun k _ hk => by rw [List.getElem?_append_left hk]
      obtain ⟨sh', q1, _, q3⟩ := g2.frz 61
      obtain ⟨sh2, p1, _, p3⟩ := g.frz 61
      have : sh = sh2 := by
        rw [hsh] at p1
        obtain ⟨x1, _, x3⟩ := AV.lst.inj (Option.some.inj p1)
        cases sh; cases sh2
        simp only at x1 x3
        rw [x1, x3]
      have e2 : sh' = sh := by rw [this, p3, q3]
      rw [e2] at q1
      rw [key _ g2 q1, lock_app fun hk => by have := (hmem _ hk).1; omega]
    · have := (hmem 0 hk).2
      omega
set_option maxRecDepth 10000 in
theorem refListOf_eq (hn : 9 ≤ n) (l : List Page) (hl : l.length ≤ 1000) (ho : ∀ p ∈ l, p.Ok) (hW : wl l < 1048576) (sz : Nat) (hz : l ≠ [] → sz = 10) (c : Bool) : ∃ r, (∀ h, C n 43 [.lst sz (l.map Page.av) c] h = some (r, h)) ∧ LofR l r := by
  obtain ⟨m, rfl⟩ : ∃ m, n = m + 1 := ⟨n - 1, by omega⟩
  refine fun_pureX F43 rfl rfl rfl (pure_lst page_pure l rfl) ?_
  by_cases hne : l = []
  · subst hne
    conv => whnf
    refine stI (xs := [.lst 0 [] true, i64 0]) (by rfl) (by rfl) (by rfl) (by rfl) (by rfl) ?_
    exact ⟨_, cell_res (el := some 99) (f := 0) (cs := [.lst 0 [] true, i64 0]) (N := 2) (b := 0) rfl (by kernel_rfl) rfl rfl, _, ⟨_, rfl, rfl⟩, ⟨[], ⟨0, true⟩, [], 0, by rw [if_pos (.inl rfl)]; rfl, rfl, (fun f hf => by cases hf), fun q => (q rfl).elim, .inl rfl⟩⟩
  have h0 : 0 < l.length := by cases l with | nil => exact (hne rfl).elim | cons => simp
  have hhd : l[0].ver = headV l := by cases l with | nil => exact (hne rfl).elim | cons => rfl
  have cN := fun h => refNumbers_eq (n := m) (h := h) (by omega) l (by omega) sz hz c hne
  conv => whnf
  refine bre (fun a => ?_) (fun _ => ?_)
  · exfalso; rw [List.length_map] at a; omega
  conv => whnf
  refine brd (fun a => ?_) (fun _ => ?_)
  · exfalso; rw [List.length_map] at a; omega
  conv => whnf
  refine loopI (by decide) rfl (α := Nat × AV × AHeap × List FQ) (fun x => ⟨[(0, .lst sz (l.map Page.av) c), (2, .ptr 0 0 0), (3, x.2.1), (4, i64 x.1)], x.2.2.1, []⟩)
    (fun x => x.1 ≤ l.length ∧ LB true 1 x.2.2.1 x.2.1 x.2.2.2 ∧ x.2.2.1[0]? = some R0 ∧ Clean x.2.2.1 ∧ x.2.2.2.map coreQ = allF (l.take x.1) ∧ wgt (x.2.2.2.map coreQ) + wl (l.drop x.1) < 1048576) (fun x => l.length - x.1) (0, .lst 0 [] true, [R0], []) ⟨⟨rfl, rfl, rfl, rfl⟩, rfl, rfl⟩ ⟨Nat.zero_le _, LB.nil, rfl, fun k b hb => ?_, rfl, by simpa [wgt] using hW⟩ (by show l.length - 0 < KK; simp only [KK]; omega) ?_
  · rw [List.getElem?_singleton] at hb
    split at hb
    · cases hb; exact ⟨_, _, _, _, rfl⟩
    · cases hb
  rintro ⟨i, L, hp, ts⟩ ⟨g1, g2, g0, gc, g3, g4⟩
  simp only at g1 g2 g0 gc g3 g4
  conv => whnf
  refine brd (fun a => ?_) (fun a => ?_)
  · have hi : i < l.length := by simp only [List.length_map] at a; omega
    rw [wl_drop hi] at g4
    have hadd := wgt_addP (ts.map coreQ) (l[i].freed.map Freed.core)
    conv => whnf
    refine refListOf_in l ho sz hz c i hi hl L hp ts g2 g0 gc (by omega) ⟨⟨rfl, rfl, rfl, rfl, rfl⟩, rfl, rfl⟩ (fun L' hp' ts' b' r' c' e' Lt hL => ?_)
    conv => whnf
    refine cutI (by decide) rfl (t := ⟨[(0, .lst sz (l.map Page.av) c), (2, .ptr 0 0 0), (3, L'), (4, i64 i)], hp', []⟩) ⟨hL, rfl, rfl⟩ ?_
    conv => whnf
    refine zI (z := ((i + 1 : Nat) : Int)) (by rw [wrap_i64 (by omega) (by omega)]; rfl) ?_
    exact nxI (i + 1, L', hp', ts') ⟨hi, b', r', c', by simp only; rw [e', g3, allF_take hi], by simp only; rw [e']; omega⟩ (by simp only; omega) ⟨⟨rfl, rfl, rfl, rfl⟩, rfl, rfl⟩
  · have hi : i = l.length := by simp only [List.length_map] at a; omega
    subst hi
    rw [List.take_length] at g3
    obtain ⟨sh, f1, f2, f3⟩ := g2.frz 61
    have hfs : (ts.map toQ).map Freed.core = allF l := by rw [toQ_core, g3]
    have hok : ∀ f ∈ ts.map toQ, f.Ok := fun f hm => by obtain ⟨t, ht, rfl⟩ := List.mem_map.1 hm; exact toQ_ok (g2.val t ht)
    have hwq : wgt ((ts.map toQ).map Freed.core) < 1048576 := by rw [toQ_core]; omega
    have hfl : ∀ f ∈ ts.map toQ, f.Ok ∧ f.pages.length < 9223372036854775808 := fun f hm => by
      have := wgt_mem (l := (ts.map toQ).map Freed.core) (x := f.core) (List.mem_map.2 ⟨f, hm, rfl⟩)
      change f.pages.length + 1 ≤ _ at this
      exact ⟨hok f hm, by omega⟩
    have hll : (ts.map toQ).length < 1048576 := by
      have := wgt_len ((ts.map toQ).map Freed.core)
      rw [List.length_map] at this
      omega
    have hsz : ts.map toQ ≠ [] → sh.sz = 2 := fun q => f2 fun e => q (by rw [e]; rfl)
    obtain ⟨ps, psh, e, cLP, spec, pz, pok⟩ := refListPages_eq (n := m) (by omega) (ts.map toQ) hll hfl (fun _ => hwq) sh.sz hsz sh.c (l.map Page.no) (by rw [List.length_map]; omega) 1 (fun _ => rfl) false l[0].ver
    rw [hhd] at spec
    have hbare := spec.bare
    have cE : ∀ h, C m 36 [.lst psh.sz (ps.map Page.av) psh.c, .lst sz (l.map Page.av) c] h = some (.ret (.bool (samePs l ps)), h) := fun h => by
      rw [refSamePs_eq (n := m) (h := h) (by omega) ps l (by
        have : ps.length ≤ (l.map Page.no).length := by
          cases spec with
          | form => exact Nat.zero_le _
          | arg => exact Nat.zero_le _
          | ok _ _ _ hl _ => exact Nat.le_of_eq hl
        rw [List.length_map] at this
        omega) (fun p hp => (hbare p hp).entries) pok ho psh.sz sz pz hz psh.c c, sames_both hbare]
    obtain ⟨m', rfl⟩ : ∃ m', m = m' + 1 := ⟨m - 1, by omega⟩
    obtain ⟨h1, cL, cL', hlen, hc1, hb1, hv1, h10⟩ := lp_mem (m := m') g2 gc f1 (fun q => by rw [f3, if_pos q]) cLP
    have hlo := lt_of_get g0
    have fin : ∀ (b : Bool), b = decide (e = 0 ∧ samePs l ps = true) → LofR l (.ret (.agg (if b = true then [.lst sh.sz ((ts.map toQ).map Freed.av) sh.c, i64 0] else [.lst 0 [] true, i64 2]))) := fun b hb => by
      subst hb
      refine ⟨ts.map toQ, sh, ps, e, ?_, hfs, hok, hsz, .inr spec⟩
      by_cases q : e = 0 ∧ samePs l ps = true
      · rw [if_pos (decide_eq_true q), if_pos (.inr q)]
      · rw [if_neg (by simpa using q), if_neg (by simp [hne]; simpa using q)]
    conv => whnf
    refine cutI (by decide) rfl (t := ⟨[(0, .lst sz (l.map Page.av) c), (2, .ptr 0 0 0), (3, L)], hp, []⟩) ⟨⟨rfl, rfl, rfl⟩, rfl, rfl⟩ ?_
    refine wp_seqI (wp_rawI ?_)
    refine region43 ?hA h0 hz cN cL (cL' _) hlen ⟨rfl, rfl⟩ hc1 ?_
    case hA => kernel_rfl
    have gE : ((h1 ++ [Z43]).set hp.length (.cells 0 (some 81) (putAt [.lst 0 [] true, i64 0] 0 [.lst psh.sz (ps.map Page.av) psh.c, i64 e]) 0))[hp.length]? = some (.cells 0 (some 81) [.lst psh.sz (ps.map Page.av) psh.c, i64 e] 0) := by
      rw [List.getElem?_set_self (by simp; omega)]; rfl
    have gR : ((h1 ++ [Z43]).set hp.length (.cells 0 (some 81) (putAt [.lst 0 [] true, i64 0] 0 [.lst psh.sz (ps.map Page.av) psh.c, i64 e]) 0))[0]? = some R0 := by
      rw [List.getElem?_set_ne (by omega), List.getElem?_append_left (by omega), h10]; exact g0
    have eR : ∀ X : AB, (((h1 ++ [Z43]).set hp.length (.cells 0 (some 81) (putAt [.lst 0 [] true, i64 0] 0 [.lst psh.sz (ps.map Page.av) psh.c, i64 e]) 0)).set 0 X)[0]? = some X := fun X => by
      rw [List.getElem?_set_self (by simp)]
    conv => whnf
    refine ldI gE ?_
    conv => whnf
    refine brq (fun q => ?_) (fun q => ?_)
    · conv => whnf
      refine stI (xs := [.lst 0 [] true, i64 2]) gR (by rfl) (by rfl) (by rfl) (by rfl) ?_
      have := fin false (by symm; rw [decide_eq_false_iff_not]; exact fun h => q h.1)
      exact ⟨_, cell_res (el := some 99) (f := 0) (cs := [.lst 0 [] true, i64 2]) (N := 2) (b := 0) rfl (by kernel_rfl) rfl (eR _), _, ⟨_, rfl, rfl⟩, this⟩
    conv => whnf
    refine ldI gE ?_
    conv => whnf
    refine clI (cE _) ?_
    conv => whnf
    refine brn (fun r => ?_) (fun r => ?_)
    · conv => whnf
      refine stI (xs := [.lst 0 [] true, i64 2]) gR (by rfl) (by rfl) (by rfl) (by rfl) ?_
      have := fin false (by symm; rw [decide_eq_false_iff_not]; exact fun h => by rw [r] at h; cases h.2)
      exact ⟨_, cell_res (el := some 99) (f := 0) (cs := [.lst 0 [] true, i64 2]) (N := 2) (b := 0) rfl (by kernel_rfl) rfl (eR _), _, ⟨_, rfl, rfl⟩, this⟩
    · have hLs : L.scal = true := g2.buf.1.scal.1
      have this := fin true (by symm; rw [decide_eq_true_eq]; exact ⟨q, r⟩)
      have hkeep : ∀ X k, (blkQ L = some k ∨ ∃ t ∈ ts, blkQ t.2.2 = some k) → (((h1 ++ [Z43]).set hp.length (.cells 0 (some 81) (putAt [.lst 0 [] true, i64 0] 0 [.lst psh.sz (ps.map Page.av) psh.c, i64 e]) 0)).set 0 X)[k]? = h1[k]? := fun X k hk => by
        have := g2.lt hk
        rw [List.getElem?_set_ne (by omega), List.getElem?_set_ne (by omega), List.getElem?_append_left (by omega)]
      have hF : ∀ X, Abs.frz (((h1 ++ [Z43]).set hp.length (.cells 0 (some 81) (putAt [.lst 0 [] true, i64 0] 0 [.lst psh.sz (ps.map Page.av) psh.c, i64 e]) 0)).set 0 X) 63 L = some (.lst sh.sz ((ts.map toQ).map Freed.av) sh.c) := fun X => by
        obtain ⟨sh', q1, _, q3⟩ := frzQ (hp := ((h1 ++ [Z43]).set hp.length (.cells 0 (some 81) (putAt [.lst 0 [] true, i64 0] 0 [.lst psh.sz (ps.map Page.av) psh.c, i64 e]) 0)).set 0 X) (hb1.keep fun k hk => hkeep X k (.inl hk)) (fun t ht => (hv1 t ht).stays fun k hk => hkeep X k (.inr ⟨t, ht, hk⟩)) g2.emp 60
        rw [f3, ← q3]
        exact q1
      have key : L = .lst 0 [] true ∨ ∃ eb ver len, L = .sl 2 eb ver 0 len := by
        rcases g2.buf.1.2 with ⟨h, _⟩ | ⟨eb, ver, frz, h, _⟩
        · exact .inl h
        · exact .inr ⟨eb, ver, _, h⟩
      rcases key with rfl | ⟨eb, ver, len, rfl⟩
      · conv => whnf
        refine stI (xs := [.lst 0 [] true, i64 0]) gR (by rfl) (by rfl) (by rfl) (by rfl) ?_
        exact ⟨_, cell_res (el := some 99) (f := 0) (cs := [.lst 0 [] true, i64 0]) (N := 2) (b := 0) rfl (by kernel_rfl) rfl (eR _), _, ⟨_, frz_agg2 (n := 63) (hF _) rfl, rfl⟩, this⟩
      · conv => whnf
        refine stI (xs := [.sl 2 eb ver 0 len, i64 0]) gR (by rfl) (by rfl) (by rfl) (by rfl) ?_
        exact ⟨_, cell_res (el := some 99) (f := 0) (cs := [.sl 2 eb ver 0 len, i64 0]) (N := 2) (b := 0) rfl (by kernel_rfl) rfl (eR _), _, ⟨_, frz_agg2 (n := 63) (hF _) rfl, rfl⟩, this⟩
end
end Go.Proofs
/- Lists of freed pages: what was cut into pages is put together again. -/
set_option linter.unusedVariables false
set_option linter.unusedSimpArgs false
namespace Go.Proofs
open Go Go.Abs
/-- Versions increase. -/
def Asc : List FP → Prop
  | [] => True
  | [_] => True
  | a :: b :: r => a.1 < b.1 ∧ Asc (b :: r)
theorem Asc.tail {a : FP} {l : List FP} (h : Asc (a :: l)) : Asc l := by
  cases l with
  | nil => trivial
  | cons b r => exact h.2
theorem Asc.head {a b : FP} {l : List FP} (h : Asc (a :: l)) (e : b.1 = a.1) : Asc (b :: l) := by
  cases l with
  | nil => trivial
  | cons c r => exact ⟨by rw [e]; exact h.1, h.2⟩
/-- A cut: between two elements, or within one. -/
inductive CutAt : List FP → List FP → List FP → Prop
  | between (p q : List FP) : CutAt (p ++ q) p q
  | within (p r : List FP) (v : Int) (a b : List Int) : CutAt (p ++ (v, a ++ b) :: r) (p ++ [(v, a)]) ((v, b) :: r)
theorem CutAt.cons {l p q : List FP} (x : FP) (h : CutAt l p q) : CutAt (x :: l) (x :: p) q := by
  cases h with
  | between => exact .between (x :: p) q
  | within p r v a b => exact .within (x :: p) r v a b
theorem cutQ_at : ∀ (room : Nat) (l : List FP), CutAt l (cutQ room l).1 (cutQ room l).2
  | _, [] => .between [] []
  | room, (v, ps) :: r => by
    unfold cutQ
    split
    · exact .between [] _
    · split
      · have := CutAt.within [] r v (ps.take ((room - 8) / 4)) (ps.drop ((room - 8) / 4))
        rw [List.take_append_drop] at this
        exact this
      · exact (cutQ_at _ r).cons _
end Go.Proofs
/- The looked-up text of the functions. -/
namespace Go.Proofs
open Go Go.Abs
/- f10 understory/understorylaw04.small: 42 temporaries, depth 6, 1 parameters, results [t2] -/
def c10 : RC :=
 (.seq (.ops [(oP 2 (.mv (.c (.bool false))))])
 (.seq (.seq (.ops [(oP 3 (.mv (.c (.int .i64 0))))])
 (.block 0
 (.loop
 (.seq (.seq (.ops [(mV 4 3),
 (mV 5 0),
 (oP 6 (.lenL (.t 5))),
 (oP 7 (.bin .lss (.t 4) (.t 6))),
 (mV 8 7),
 (oG 9 8 true (.mv (.t 3))),
 (oG 10 8 true (.bin .leq (.t 9) (.c (.int .i64 30)))),
 (oP 11 (.pick (.t 8) (.t 10) (.c (.bool false))))])
 (.cond (.t 11)
 .skip
 (.exit 0)))
 (.seq (.block 1
 (.seq (.ops [(mV 14 0),
 (mV 15 3),
 (oP 16 (.indexAddrL 10 (.t 14) (.t 15))),
 (oP 17 (.fieldAddr 6 (.t 16))),
 (oP 18 (.load false 1 (.t 17))),
 (oP 19 (.callF 24 [(.t 18)])),
 (oP 20 (.un .not (.t 19))),
 (mV 21 20),
 (oG 22 21 false (.mv (.t 0))),
 (oG 23 21 false (.mv (.t 3))),
 (oG 24 21 false (.indexAddrL 10 (.t 22) (.t 23))),
 (oG 25 21 false (.fieldAddr 9 (.t 24))),
 (oG 26 21 false (.load false 1 (.t 25))),
 (oG 27 21 false (.callF 37 [(.t 26)])),
 (oG 28 21 false (.un .not (.t 27))),
 (oP 29 (.pick (.t 21) (.c (.bool true)) (.t 28))),
 (mV 30 29),
 (oG 31 30 false (.mv (.t 0))),
 (oG 32 30 false (.mv (.t 3))),
 (oG 33 30 false (.indexAddrL 10 (.t 31) (.t 32))),
 (oG 34 30 false (.fieldAddr 8 (.t 33))),
 (oG 35 30 false (.load false 1 (.t 34))),
 (oG 36 30 false (.lenS (.t 35))),
 (oG 37 30 false (.bin .gtr (.t 36) (.c (.int .i64 1000)))),
 (oP 38 (.pick (.t 30) (.c (.bool true)) (.t 37)))])
 (.cond (.t 38)
 (.seq (.ops [(oP 2 (.mv (.c (.bool false))))])
 .ret)
 .skip)))
 (.ops [(mV 12 3),
 (oP 13 (.bin .add (.t 12) (.c (.int .i64 1)))),
 (mV 3 13)]))))))
 (.cut (.seq (.ops [(mV 39 0),
 (oP 40 (.lenL (.t 39))),
 (oP 41 (.bin .leq (.t 40) (.c (.int .i64 30)))),
 (mV 2 41)])
 .ret))))
theorem F10 : FI 10 1 42 6 [.tmp 2] c10 := ⟨⟨Tryz.f10, Tryz.func10, by kernel_rfl, by kernel_rfl, by kernel_rfl⟩, by kernel_rfl, by decide, by kernel_rfl⟩
/- f37 understory/understorylaw04.short: 28 temporaries, depth 5, 1 parameters, results [t2] -/
def c37 : RC :=
 (.seq (.ops [(oP 2 (.mv (.c (.bool false))))])
 (.seq (.ops [(oP 3 (.mv (.c (.int .i64 0))))])
 (.seq (.seq (.ops [(oP 4 (.mv (.c (.int .i64 0))))])
 (.block 0
 (.loop
 (.seq (.seq (.ops [(mV 5 4),
 (mV 6 0),
 (oP 7 (.lenL (.t 6))),
 (oP 8 (.bin .lss (.t 5) (.t 7))),
 (mV 9 8),
 (oG 10 9 true (.mv (.t 4))),
 (oG 11 9 true (.bin .leq (.t 10) (.c (.int .i64 300)))),
 (oP 12 (.pick (.t 9) (.t 11) (.c (.bool false))))])
 (.cond (.t 12)
 .skip
 (.exit 0)))
 (.seq (.block 1
 (.seq (.ops [(mV 15 3),
 (mV 16 0),
 (mV 17 4),
 (oP 18 (.indexAddrL 2 (.t 16) (.t 17))),
 (oP 19 (.fieldAddr 1 (.t 18))),
 (oP 20 (.load false 1 (.t 19))),
 (oP 21 (.lenL (.t 20))),
 (oP 22 (.bin .add (.t 15) (.t 21))),
 (mV 3 22)])
 (.seq (.ops [(mV 23 3),
 (oP 24 (.bin .gtr (.t 23) (.c (.int .i64 900))))])
 (.cond (.t 24)
 (.seq (.ops [(oP 2 (.mv (.c (.bool false))))])
 .ret)
 .skip))))
 (.ops [(mV 13 4),
 (oP 14 (.bin .add (.t 13) (.c (.int .i64 1)))),
 (mV 4 14)]))))))
 (.cut (.seq (.ops [(mV 25 0),
 (oP 26 (.lenL (.t 25))),
 (oP 27 (.bin .leq (.t 26) (.c (.int .i64 300)))),
 (mV 2 27)])
 .ret)))))
theorem F37 : FI 37 1 28 5 [.tmp 2] c37 := ⟨⟨Tryz.f37, Tryz.func37, by kernel_rfl, by kernel_rfl, by kernel_rfl⟩, by kernel_rfl, by decide, by kernel_rfl⟩
end Go.Proofs
/- The law PageDamage: small pages. -/
set_option linter.unusedVariables false
set_option linter.unusedSimpArgs false
namespace Go.Proofs
open Go Go.Abs
/-- Lists that are short, as a machine counts. -/
def shortG : List Freed → Int → Bool
  | [], _ => true
  | f :: r, n => if 900 < IntKind.i64.wrap (n + (f.pages.length : Int)) then false else shortG r (IntKind.i64.wrap (n + (f.pages.length : Int)))
def shortB (l : List Freed) : Bool := shortG (l.take 301) 0 && decide (l.length ≤ 300)
def smallB (p : Page) : Bool := few p.entries && (shortB p.freed && decide (p.data.length ≤ 1000))
section
variable {n : Nat} {h : AHeap}
theorem short_eq (hn : 1 ≤ n) (l : List Freed) (sz : Nat) (hz : l ≠ [] → sz = 2) (c : Bool) : C n 37 [.lst sz (l.map Freed.av) c] h = some (.ret (.bool (shortB l)), h) := by
  obtain ⟨m, rfl⟩ : ∃ m, n = m + 1 := ⟨n - 1, by omega⟩
  refine fun_pure F37 rfl rfl rfl (pure_lst freed_pure l rfl) ?_
  conv => whnf
  refine loopI (by decide) rfl (α := Nat × Int) (fun x => ⟨[(0, .lst sz (l.map Freed.av) c), (3, i64 x.2), (4, i64 x.1)], [], []⟩)
    (fun x => (x.1 ≤ l.length ∧ x.1 ≤ 301) ∧ shortG (l.take 301) 0 = shortG ((l.take 301).drop x.1) x.2) (fun x => 301 - x.1) (0, 0) ⟨⟨rfl, rfl, rfl⟩, rfl, rfl⟩ ⟨⟨Nat.zero_le _, by decide⟩, rfl⟩ (by show 301 - 0 < KK; simp only [KK]; omega) ?_
  rintro ⟨j, k⟩ ⟨⟨g1, g0⟩, g2⟩
  simp only at g1 g0 g2
  have stop : ∀ (b : Bool), b = shortB l → frz [] 64 (.bool b) = some (.bool (shortB l)) := fun b e => by rw [e]; rfl
  conv => whnf
  refine brd (fun a => ?_) (fun a => ?_)
  · have hj : j < l.length := by simp at a; omega
    conv => whnf
    refine brd (fun d => ?_) (fun d => ?_)
    · have hj2 : j ≤ 300 := by simp only at d; omega
      have e : (l.take 301).drop j = l[j] :: (l.take 301).drop (j + 1) := by
        have hlt : j < (l.take 301).length := by rw [List.length_take]; omega
        rw [List.drop_eq_getElem_cons hlt, List.getElem_take]
      rw [e] at g2
      simp only [shortG] at g2
      have el : ((l[j].pages.map i64).length : Int) = (l[j].pages.length : Int) := by rw [List.length_map]
      conv => whnf
      refine ixL freed_cells hj hz ?_
      conv => whnf
      refine zI (z := IntKind.i64.wrap (k + (l[j].pages.length : Int))) (by rw [el]) ?_
      conv => whnf
      refine brd (fun q => ?_) (fun q => ?_)
      · conv => whnf
        rw [if_pos q] at g2
        exact retP rfl (frz_bool (by unfold shortB; rw [g2]; rfl))
      · rw [if_neg q] at g2
        conv => whnf
        refine zI (z := ((j + 1 : Nat) : Int)) (by rw [wrap_i64 (by omega) (by omega)]; rfl) ?_
        exact nxI (j + 1, _) ⟨⟨hj, by omega⟩, g2⟩ (by simp only; omega) ⟨⟨rfl, rfl, rfl⟩, rfl, rfl⟩
    · have hj2 : j = 301 := by simp only at d; omega
      conv => whnf
      refine cutI (by decide) rfl (t := ⟨[(0, .lst sz (l.map Freed.av) c)], [], []⟩) ⟨rfl, rfl, rfl⟩ ?_
      conv => whnf
      refine retP rfl (frz_bool ?_)
      unfold shortB
      rw [List.length_map, show decide (l.length ≤ 300) = false by rw [decide_eq_false_iff_not]; omega, Bool.and_false]
      simp; omega
  · have hj : j = l.length := by simp at a; omega
    conv => whnf
    refine cutI (by decide) rfl (t := ⟨[(0, .lst sz (l.map Freed.av) c)], [], []⟩) ⟨rfl, rfl, rfl⟩ ?_
    conv => whnf
    refine retP rfl (frz_bool ?_)
    unfold shortB
    rw [g2, List.drop_of_length_le (by rw [List.length_take]; omega)]
    simp [shortG]; omega
end
end Go.Proofs
/- The law PageChains: small pages, equal texts. -/
set_option linter.unusedVariables false
set_option linter.unusedSimpArgs false
namespace Go.Proofs
open Go Go.Abs
def smallsB (l : List Page) : Bool := (l.take 31).all smallB && decide (l.length ≤ 30)
theorem smalls_iff {l : List Page} : smallsB l = true ↔ l.length ≤ 30 ∧ ∀ p ∈ l, smallB p = true := by
  unfold smallsB
  rw [Bool.and_eq_true, decide_eq_true_eq, List.all_eq_true]
  constructor
  · rintro ⟨h1, h2⟩
    rw [List.take_of_length_le (by omega)] at h1
    exact ⟨h2, h1⟩
  · rintro ⟨h1, h2⟩
    exact ⟨fun p hp => h2 p (List.mem_of_mem_take hp), h1⟩
/-- What is known of a page that came in as an argument. -/
structure PgIn (p : Page) : Prop where
  o1 : p.entries ≠ [] → p.esh.sz = 22
  o2 : p.freed ≠ [] → p.fsh.sz = 2
  o3 : ∀ f ∈ p.freed, f.Ok ∧ f.pages.length < 9223372036854775808
section
variable {n : Nat} {h : AHeap}
theorem smalls_eq (hn : 2 ≤ n) (l : List Page) (hi : ∀ p ∈ l, PgIn p) (sz : Nat) (hz : l ≠ [] → sz = 10) (c : Bool) : C n 10 [.lst sz (l.map Page.av) c] h = some (.ret (.bool (smallsB l)), h) := by
  obtain ⟨m, rfl⟩ : ∃ m, n = m + 1 := ⟨n - 1, by omega⟩
  refine fun_pure F10 rfl rfl rfl (pure_lst page_pure l rfl) ?_
  conv => whnf
  refine loopI (by decide) rfl (α := Nat) (fun x => ⟨[(0, .lst sz (l.map Page.av) c), (3, i64 x)], [], []⟩) (fun x => x ≤ l.length ∧ x ≤ 31 ∧ ∀ i (hi : i < l.length), i < x → smallB l[i] = true) (fun x => 31 - x) 0 ⟨⟨rfl, rfl⟩, rfl, rfl⟩ ⟨Nat.zero_le _, by decide, fun i _ q => absurd q (Nat.not_lt_zero _)⟩ (by show 31 - 0 < KK; simp only [KK]; omega) ?_
  rintro j ⟨g1, g0, g2⟩
  conv => whnf
  refine brd (fun a => ?_) (fun a => ?_)
  · have hj : j < l.length := by simp only [List.length_map] at a; omega
    have hin := hi _ (List.getElem_mem hj)
    conv => whnf
    refine brd (fun d => ?_) (fun d => ?_)
    · have hj2 : j ≤ 30 := by omega
      have cf : ∀ h, C m 24 [.lst l[j].esh.sz (l[j].entries.map Entry.av) l[j].esh.c] h = some (.ret (.bool (few l[j].entries)), h) := fun h => few_eq (by omega) _ _ hin.o1 _
      have cs : ∀ h, C m 37 [.lst l[j].fsh.sz (l[j].freed.map Freed.av) l[j].fsh.c] h = some (.ret (.bool (shortB l[j].freed)), h) := fun h => short_eq (by omega) _ _ hin.o2 _
      have bad : smallB l[j] = false → smallsB l = false := fun q => by
        unfold smallsB
        have : (l.take 31).all smallB = false := by
          rw [List.all_eq_false]
          refine ⟨l[j], ?_, by simp [q]⟩
          rw [List.mem_iff_getElem]
          exact ⟨j, by rw [List.length_take]; omega, by rw [List.getElem_take]⟩
        rw [this, Bool.false_and]
      conv => whnf
      refine ixL page_cells hj hz ?_
      conv => whnf
      refine clI (cf _) ?_
      conv => whnf
      refine brn (fun e => ?_) (fun e1 => ?_)
      · conv => whnf
        exact retP rfl (frz_bool (bad (by unfold smallB; simp [e])).symm)
      conv => whnf
      refine ixL page_cells hj hz ?_
      conv => whnf
      refine clI (cs _) ?_
      conv => whnf
      refine brn (fun e => ?_) (fun e2 => ?_)
      · conv => whnf
        exact retP rfl (frz_bool (bad (by unfold smallB; simp [e])).symm)
      conv => whnf
      refine ixL page_cells hj hz ?_
      conv => whnf
      refine brd (fun e => ?_) (fun e3 => ?_)
      · conv => whnf
        exact retP rfl (frz_bool (bad (by unfold smallB; simp; omega)).symm)
      conv => whnf
      refine zI (z := ((j + 1 : Nat) : Int)) (by rw [wrap_i64 (by omega) (by omega)]; rfl) ?_
      refine nxI (j + 1) ⟨hj, by omega, fun i hi hij => ?_⟩ (by omega) ⟨⟨rfl, rfl⟩, rfl, rfl⟩
      by_cases q : i = j
      · subst q
        unfold smallB; simp [e1, e2]; omega
      · exact g2 i hi (by omega)
    · have hj2 : j = 31 := by omega
      conv => whnf
      refine cutI (by decide) rfl (t := ⟨[(0, .lst sz (l.map Page.av) c)], [], []⟩) ⟨rfl, rfl, rfl⟩ ?_
      conv => whnf
      refine retP rfl (frz_bool ?_)
      unfold smallsB
      rw [List.length_map, show decide (l.length ≤ 30) = false by rw [decide_eq_false_iff_not]; omega, Bool.and_false]
      simp; omega
  · have hj : j = l.length := by simp only [List.length_map] at a; omega
    subst hj
    conv => whnf
    refine cutI (by decide) rfl (t := ⟨[(0, .lst sz (l.map Page.av) c)], [], []⟩) ⟨rfl, rfl, rfl⟩ ?_
    conv => whnf
    refine retP rfl (frz_bool ?_)
    have h1 : (l.take 31).all smallB = true := by
      rw [List.all_eq_true]
      intro p hp
      obtain ⟨i, hi, rfl⟩ := List.mem_iff_getElem.1 (List.mem_of_mem_take hp)
      exact g2 i hi hi
    unfold smallsB
    rw [h1, List.length_map]
    simp
    omega
end
end Go.Proofs
/- Lists of freed pages, chains: what was cut is put together again; how much there is. -/
set_option linter.unusedVariables false
set_option linter.unusedSimpArgs false
namespace Go.Proofs
open Go Go.Abs
theorem CutAt.wgt {l p q : List FP} (h : CutAt l p q) : wgt p + wgt q ≤ wgt l + 1 := by
  cases h with
  | between => rw [wgt_app]; omega
  | within p r v a b =>
    rw [wgt_app, wgt_app, wgt_one]
    simp only [Go.Proofs.wgt, List.map_cons, List.sum_cons, List.length_append]
    omega
theorem Parts.wgt {l : List FP} {ds : List (List FP)} (h : Parts l ds) : (ds.map Go.Proofs.wgt).sum ≤ wgt l + ds.length := by
  induction h with
  | nil => simp
  | @step l ds hne _ ih =>
    have := (cutQ_at 490 l).wgt
    simp only [List.map_cons, List.sum_cons, List.length_cons]
    omega
/-- Small lists are light. -/
theorem shortG_wgt : ∀ (l : List Freed) (k : Int), 0 ≤ k → k ≤ 900 → (∀ f ∈ l, f.pages.length < 17592186044416) → shortG l k = true → k + (wgt (l.map Freed.core) : Int) ≤ 900 + l.length
  | [], k, h0, h1, _, _ => by simp [wgt]; omega
  | f :: r, k, h0, h1, hf, hs => by
    have hfl := hf f (List.mem_cons_self ..)
    unfold shortG at hs
    rw [wrap_i64 (by omega) (by omega)] at hs
    split at hs
    · cases hs
    · rename_i hq
      have := shortG_wgt r (k + (f.pages.length : Int)) (by omega) (by omega) (fun g hg => hf g (List.mem_cons_of_mem _ hg)) hs
      simp only [wgt, List.map_cons, List.sum_cons, List.length_cons, Freed.core] at this ⊢
      omega
theorem short_wgt {l : List Freed} (h : shortB l = true) (hf : ∀ f ∈ l, f.pages.length < 17592186044416) : l.length ≤ 300 ∧ wgt (l.map Freed.core) ≤ 1200 := by
  unfold shortB at h
  rw [Bool.and_eq_true, decide_eq_true_eq] at h
  obtain ⟨h1, h2⟩ := h
  rw [List.take_of_length_le (by omega)] at h1
  have := shortG_wgt l 0 (by omega) (by omega) hf h1
  exact ⟨h2, by omega⟩
theorem wl_bound {l : List Page} {b : Nat} (h : ∀ p ∈ l, wgt (p.freed.map Freed.core) ≤ b) : wl l ≤ l.length * b := by
  induction l with
  | nil => simp [wl]
  | cons p r ih =>
    have h1 := h p (List.mem_cons_self ..)
    have h2 := ih fun q hq => h q (List.mem_cons_of_mem _ hq)
    unfold wl at h2 ⊢
    rw [List.map_cons, List.sum_cons, List.length_cons, Nat.add_mul]
    omega
theorem allF_eq (l : List Page) : allF l = (l.map fun p => p.freed.map Freed.core).foldl addP [] := by
  unfold allF
  rw [List.foldl_map]
theorem wl_eq (l : List Page) : wl l = ((l.map fun p => p.freed.map Freed.core).map wgt).sum := by
  unfold wl
  rw [List.map_map]
  rfl
end Go.Proofs
