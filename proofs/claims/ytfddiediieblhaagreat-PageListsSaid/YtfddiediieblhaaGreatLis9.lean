/- Texts put together: Qd, Qe, Nm, Es, Nn, No, Qf, Qk, Qb, Qn, Eh, Ei. -/
import Derived.Test.YtfddiediieblhaaGreatLis7
import Derived.Test.YtfddiediieblhaaGreatLis8
/- Contracts: what fits in a page is cut from a list of freed pages. -/
set_option linter.unusedVariables false
set_option linter.unusedSimpArgs false
namespace Go.Proofs
open Go Go.Abs
abbrev FP : Type := Int × List Int
/-- What fits in a page, and what is left. -/
def cutQ : Nat → List FP → List FP × List FP
  | _, [] => ([], [])
  | room, (v, ps) :: r => if room < 12 then ([], (v, ps) :: r) else if (room - 8) / 4 < ps.length then ([(v, ps.take ((room - 8) / 4))], (v, ps.drop ((room - 8) / 4)) :: r) else ((v, ps) :: (cutQ (room - 8 - 4 * ps.length) r).1, (cutQ (room - 8 - 4 * ps.length) r).2)
theorem cutQ_low {room : Nat} (h : room < 12) : ∀ l, cutQ room l = ([], l)
  | [] => rfl
  | (v, ps) :: r => by unfold cutQ; rw [if_pos h]
def coreQ (t : FQ) : FP := (t.1, t.2.1)
theorem toQ_core (ts : List FQ) : (ts.map toQ).map Freed.core = ts.map coreQ := by rw [List.map_map]; rfl
theorem quo8 {room : Nat} (h : room ≤ 490) : -2 ≤ ((room : Int) - 8).tdiv 4 ∧ ((room : Int) - 8).tdiv 4 ≤ 121 := by
  rcases Nat.lt_or_ge room 8 with q | q
  · have : room = 0 ∨ room = 1 ∨ room = 2 ∨ room = 3 ∨ room = 4 ∨ room = 5 ∨ room = 6 ∨ room = 7 := by omega
    rcases this with rfl | rfl | rfl | rfl | rfl | rfl | rfl | rfl <;> decide
  · have e : ((room : Int) - 8).tdiv 4 = (((room - 8) / 4 : Nat) : Int) := by
      rw [show (room : Int) - 8 = ((room - 8 : Nat) : Int) by omega]
      exact Int.ofNat_tdiv _ _
    omega
theorem quo8' {room : Nat} (h : 8 ≤ room) : ((room : Int) - 8).tdiv 4 = (((room - 8) / 4 : Nat) : Int) := by
  rw [show (room : Int) - 8 = ((room - 8 : Nat) : Int) by omega]
  exact Int.ofNat_tdiv _ _
abbrev rowF' (l : List Freed) : List (List AV) := l.map Freed.cells
theorem rowF_ok {l : List Freed} : ∀ r ∈ rowF' l, r.length = 2 ∧ r.all AV.scal = true := fun r hm => by
  obtain ⟨f, _, rfl⟩ := List.mem_map.1 hm
  exact ⟨rfl, rfl⟩
theorem first_frd (h : AHeap) (l : List Freed) {z : Nat} (hz : l ≠ [] → z = 2) (c : Bool) : firstA h 2 l.length (.lst z (l.map Freed.av) c) = some (rowF' l).flatten := by
  by_cases e : l = []
  · subst e
    unfold firstA
    simp [rowF']
  · have := hz e
    subst this
    unfold firstA
    simp only [List.length_map]
    rw [if_pos ⟨Nat.le_refl _, .inl trivial⟩]
    have h1 : (l.map Freed.av).take l.length = l.map Freed.av := List.take_of_length_le (by simp)
    rw [h1]
    have h2 : (l.map Freed.av).map AV.cells? = l.map fun e => some e.cells := by rw [List.map_map]; rfl
    rw [h2]
    rw [if_pos (by rw [List.all_eq_true]; intro x hx; obtain ⟨e, _, rfl⟩ := List.mem_map.1 hx; rfl)]
    congr 1
    rw [List.flatMap_map]
    have : ∀ l : List Freed, (l.flatMap fun e => (some e.cells).getD []) = (rowF' l).flatten := fun l => by
      induction l with
      | nil => rfl
      | cons a r ih => simp only [List.flatMap_cons, rowF', List.map_cons, List.flatten_cons] at ih ⊢; rw [ih]; rfl
    exact this l
theorem app_frd (h : AHeap) (old news : List Freed) {z z' : Nat} (hz : old ≠ [] → z = 2) (hz' : news ≠ [] → z' = 2) (c : Bool) (hne : news ≠ []) (hl : old.length + news.length ≤ 1073741824) :
    appR h tFrd 2 (.lst z (old.map Freed.av) true) (.lst z' (news.map Freed.av) c) = some (.sl 2 h.length 0 0 (old ++ news).length, some (h ++ [.cells 0 (some tFrd) (rowF' (old ++ news)).flatten 0])) := by
  have hn : news.length ≠ 0 := fun e => hne (List.length_eq_zero_iff.1 e)
  have f1 := flatten_len (rowF_ok (l := news))
  have f2 := flatten_len (rowF_ok (l := old))
  unfold appR
  have h1 : lenA (.lst z' (news.map Freed.av) c) = some news.length := by simp [lenA]
  rw [h1]
  simp only
  rw [first_frd h news hz' c]
  simp only
  rw [if_neg (by simp [f1.2]), if_neg hn]
  have h2 : firstA h 2 (old.map Freed.av).length (.lst z (old.map Freed.av) true) = some (rowF' old).flatten := by
    rw [List.length_map]
    exact first_frd h old hz true
  rw [h2]
  simp only
  rw [if_pos ⟨by simpa using hl, f2.2⟩]
  simp [rowF']
theorem frz_frd {hp : AHeap} {b ver f : Nat} {el : Option TypeId} {l : List Freed} (hb : hp[b]? = some (.cells ver el (rowF' l).flatten f)) (n : Nat) : Abs.frz hp (n + 3) (.sl 2 b ver 0 l.length) = some (.lst 2 (l.map Freed.av) false) := by
  have := frz_sl (n := n + 2) (sz := 2) (by decide) hb (fun r hm => (rowF_ok r hm).1) (rows' := rowF' l) (allM_id fun x hx => by
    obtain ⟨r, hm, hx⟩ := List.mem_flatten.1 hx
    obtain ⟨f, _, rfl⟩ := List.mem_map.1 hm
    simp only [Freed.cells, List.mem_cons, List.not_mem_nil, or_false] at hx
    rcases hx with rfl | rfl
    · rfl
    · exact frzOk_lst (fun x hx => by obtain ⟨k, _, rfl⟩ := List.mem_map.1 hx; exact frzOk_int) hp) rowF_ok rfl
  rw [show (rowF' l).length = l.length by simp [rowF']] at this
  rw [this]
  congr 2
  rw [List.map_map]
  rfl
theorem freed_frz {n : Nat} (f : Freed) : FrzOk (n + 3) f.av := frzOk_agg fun x hx => by
  simp only [Freed.cells, List.mem_cons, List.not_mem_nil, or_false] at hx
  rcases hx with rfl | rfl
  · exact frzOk_int
  · exact frzOk_lst fun x hx => by obtain ⟨k, _, rfl⟩ := List.mem_map.1 hx; exact frzOk_int
theorem freedL_frz {n sz : Nat} {c : Bool} (l : List Freed) : FrzOk (n + 4) (.lst sz (l.map Freed.av) c) := frzOk_lst fun x hx => by
  obtain ⟨f, _, rfl⟩ := List.mem_map.1 hx
  exact freed_frz f
section
variable {n : Nat} {h : AHeap}
theorem more_eq (hn : 1 ≤ n) (l : List Freed) (sz : Nat) (c : Bool) : C n 138 [.lst sz (l.map Freed.av) c] h = some (.ret (.bool (decide (l ≠ []))), h) := by
  obtain ⟨m, rfl⟩ : ∃ m, n = m + 1 := ⟨n - 1, by omega⟩
  refine fun_pure F138 rfl rfl rfl (pure_lst freed_pure l rfl) ?_
  cases l with
  | nil =>
    conv => whnf
    exact retP rfl (frz_bool rfl)
  | cons a r =>
    conv => whnf
    exact retP rfl (frz_bool (by simp))
/-- A list that was cut. -/
structure CutS (p q : List FP) (r : CRes) : Prop where
  ex : ∃ (pl ql : List Freed) (s1 s2 : Sh), r = .ret (.tup [.lst s1.sz (pl.map Freed.av) s1.c, .lst s2.sz (ql.map Freed.av) s2.c]) ∧ pl.map Freed.core = p ∧ ql.map Freed.core = q ∧ (∀ f ∈ pl, f.Ok) ∧ (∀ f ∈ ql, f.Ok) ∧ (pl ≠ [] → s1.sz = 2) ∧ (ql ≠ [] → s2.sz = 2)
set_option maxRecDepth 10000 in
theorem cut_eq (hn : 2 ≤ n) (l : List Freed) (hl : l.length < 1048576) (hf : ∀ f ∈ l, f.Ok ∧ f.pages.length < 1048576) (hne : ∀ f ∈ l, f.pages ≠ []) (sz : Nat) (hz : l ≠ [] → sz = 2) (c : Bool) : ∃ r, (∀ h, C n 139 [.lst sz (l.map Freed.av) c] h = some (r, h)) ∧ CutS (cutQ 490 (l.map Freed.core)).1 (cutQ 490 (l.map Freed.core)).2 r := by
  obtain ⟨m, rfl⟩ : ∃ m, n = m + 1 := ⟨n - 1, by omega⟩
  refine fun_pureX F139 rfl rfl rfl (pure_lst freed_pure l rfl) ?_
  conv => whnf
  refine loopI (by decide) rfl (α := Nat × Nat × AV × AHeap × List FQ) (fun x => ⟨[(0, .lst sz (l.map Freed.av) c), (2, x.2.2.1), (3, .lst 0 [] true), (4, i64 x.2.1), (8, .lst sz (l.map Freed.av) c), (9, i64 l.length), (10, i64 x.1)], x.2.2.2.1, []⟩)
    (fun x => x.1 ≤ l.length ∧ x.2.1 ≤ 490 ∧ LB false 0 x.2.2.2.1 x.2.2.1 x.2.2.2.2 ∧ x.2.2.2.2.length = x.1 ∧ cutQ 490 (l.map Freed.core) = (x.2.2.2.2.map coreQ ++ (cutQ x.2.1 ((l.drop x.1).map Freed.core)).1, (cutQ x.2.1 ((l.drop x.1).map Freed.core)).2)) (fun x => l.length - x.1) (0, 490, .lst 0 [] true, [], []) ⟨⟨rfl, rfl, rfl, rfl, rfl, lenI _ _, rfl⟩, rfl, rfl⟩ ⟨Nat.zero_le _, Nat.le_refl _, LB.nil, rfl, by simp⟩ (by show l.length - 0 < KK; simp only [KK]; omega) ?_
  rintro ⟨j, room, L, hp, ts⟩ ⟨g1, g2, g3, g5, g4⟩
  simp only at g1 g2 g3 g4 g5
  conv => whnf
  refine brd (fun a => ?_) (fun a => ?_)
  · have hj : j < l.length := by simp only at a; omega
    obtain ⟨f1, f2⟩ := hf _ (List.getElem_mem hj)
    have f3 := hne _ (List.getElem_mem hj)
    have hlen : 0 < l[j].pages.length := by
      cases hc : l[j].pages with
      | nil => exact (f3 hc).elim
      | cons => simp
    have hqb := quo8 g2
    have hdr : l.drop j = l[j] :: l.drop (j + 1) := List.drop_eq_getElem_cons hj
    have hdne : l.drop j ≠ [] := fun e => by
      have := congrArg List.length e
      rw [List.length_drop, List.length_nil] at this
      omega
    rw [hdr, List.map_cons] at g4
    by_cases hb : room < 12
    · conv => whnf
      refine ixL freed_cells hj hz ?_
      conv => whnf
      refine stI (get_last _ _) (xs := l[j].cells) (by rfl) (by rfl) (by rfl) (by rfl) ?_
      conv => whnf
      refine zI (z := (room : Int) - 8) (wrap_i64 (by simp only; omega) (by simp only; omega)) ?_
      conv => whnf
      refine ⟨by decide, ((room : Int) - 8).tdiv 4, wrap_i64 (by omega) (by omega), ?_⟩
      conv => whnf
      refine ldI (get_set_last _ _ _) ?_
      conv => whnf
      refine ⟨_, rfl, ?_⟩
      conv => whnf
      refine brd (fun _ => ?_) (fun b => absurd (by simp only; omega) b)
      conv => whnf
      refine slI (sl_lo Freed.av l hz c j (by omega)) ?_
      conv => whnf
      refine apI (app_frd _ [] (l.drop j) (z := 0) (z' := 2) (fun q => (q rfl).elim) (fun _ => rfl) _ hdne (by rw [List.length_drop]; simp; omega)) ?_
      have hcut : cutQ 490 (l.map Freed.core) = (ts.map coreQ, (l.drop j).map Freed.core) := by
        rw [g4, cutQ_low hb, hdr, List.map_cons]
        simp
      have g6 : LB false 0 (((hp ++ [AB.cells 0 (some tFrd) [i64 0, .lst 0 [] true] 0]).set hp.length (.cells 0 (some tFrd) (putAt [i64 0, .lst 0 [] true] 0 l[j].cells) 0)) ++ [AB.cells 0 (some tFrd) (rowF' ([] ++ l.drop j)).flatten 0]) L ts := g3.old fun k _ hk => by
        rw [List.getElem?_append_left (by simp; omega), List.getElem?_set_ne (by omega), List.getElem?_append_left hk]
      obtain ⟨sh, e1, e2, _⟩ := g6.frz 60
      have e3 := frz_frd (hp := ((hp ++ [AB.cells 0 (some tFrd) [i64 0, .lst 0 [] true] 0]).set hp.length (.cells 0 (some tFrd) (putAt [i64 0, .lst 0 [] true] 0 l[j].cells) 0)) ++ [AB.cells 0 (some tFrd) (rowF' ([] ++ l.drop j)).flatten 0]) (b := ((hp ++ [AB.cells 0 (some tFrd) [i64 0, .lst 0 [] true] 0]).set hp.length (.cells 0 (some tFrd) (putAt [i64 0, .lst 0 [] true] 0 l[j].cells) 0)).length) (l := [] ++ l.drop j) (ver := 0) (f := 0) (el := some tFrd) (by simp) 60
      conv => whnf
      refine ⟨_, rfl, _, ⟨_, frz_tup2 e1 e3, rfl⟩, ⟨ts.map toQ, l.drop j, sh, ⟨2, false⟩, rfl, ?_, ?_, ?_, ?_, ?_, fun _ => rfl⟩⟩
      · rw [hcut, toQ_core]
      · rw [hcut]
      · exact fun f hm => by obtain ⟨t, ht, rfl⟩ := List.mem_map.1 hm; exact toQ_ok (g3.val t ht)
      · exact fun f hm => (hf f (List.mem_of_mem_drop hm)).1
      · exact fun q => e2 fun e => q (by rw [e]; rfl)
    · have hk : (room - 8) / 4 ≤ room - 8 := Nat.div_le_self _ _
      generalize hkd : min ((room - 8) / 4) l[j].pages.length = k
      have hk1 : 1 ≤ k := by omega
      have hk2 : k ≤ l[j].pages.length := by omega
      have hk3 : 8 + 4 * k ≤ room := by omega
      have htk : l[j].pages.take k ≠ [] := fun e => by
        have := congrArg List.length e
        rw [List.length_take, List.length_nil] at this
        omega
      have hlt : (l[j].pages.take k).length < 1073741824 := by rw [List.length_take]; omega
      conv => whnf
      refine ixL freed_cells hj hz ?_
      conv => whnf
      refine stI (get_last _ _) (xs := l[j].cells) (by rfl) (by rfl) (by rfl) (by rfl) ?_
      conv => whnf
      refine zI (z := (room : Int) - 8) (wrap_i64 (by simp only; omega) (by simp only; omega)) ?_
      conv => whnf
      refine ⟨by decide, ((room : Int) - 8).tdiv 4, wrap_i64 (by omega) (by omega), ?_⟩
      conv => whnf
      refine ldI (get_set_last _ _ _) ?_
      conv => whnf
      refine ⟨(k : Int), by rw [quo8' (by omega), List.length_map]; simp only [cond_false]; split <;> omega, ?_⟩
      conv => whnf
      refine brd (fun b => absurd b (by simp only; omega)) (fun _ => ?_)
      conv => whnf
      refine brd (fun b => absurd b (by omega)) (fun _ => ?_)
      conv => whnf
      refine ldI (get_set_last _ _ _) ?_
      conv => whnf
      refine ldI (get_set_last _ _ _) ?_
      conv => whnf
      refine slI (sl_hi i64 l[j].pages f1 l[j].sh.c k hk2) ?_
      conv => whnf
      refine clI (cloneN_eq (n := m) (by omega) htk hlt _) ?_
      have hH : ((hp ++ [AB.cells 0 (some tFrd) [i64 0, .lst 0 [] true] 0]).set hp.length (.cells 0 (some tFrd) (putAt [i64 0, .lst 0 [] true] 0 l[j].cells) 0)).length = hp.length + 1 := by simp
      have fX : ∀ z : AB, (((hp ++ [AB.cells 0 (some tFrd) [i64 0, .lst 0 [] true] 0]).set hp.length (.cells 0 (some tFrd) (putAt [i64 0, .lst 0 [] true] 0 l[j].cells) 0)) ++ [z])[hp.length]? = some (.cells 0 (some tFrd) (putAt [i64 0, .lst 0 [] true] 0 l[j].cells) 0) := fun z => by rw [List.getElem?_append_left (by simp), List.getElem?_set_self (by simp)]
      have g6 : LB false 0 (((hp ++ [AB.cells 0 (some tFrd) [i64 0, .lst 0 [] true] 0]).set hp.length (.cells 0 (some tFrd) (putAt [i64 0, .lst 0 [] true] 0 l[j].cells) 0)) ++ [AB.cells 0 (some 3) ((l[j].pages.take k).map i64) 0]) L ts := g3.old fun i _ hk => by
        rw [List.getElem?_append_left (by simp; omega), List.getElem?_set_ne (by omega), List.getElem?_append_left hk]
      obtain ⟨L', hp', ea, g7, _, hle, hkp⟩ := g6.push (Nat.zero_le _) (l[j].ver, l[j].pages.take k, .sl 1 ((hp ++ [AB.cells 0 (some tFrd) [i64 0, .lst 0 [] true] 0]).set hp.length (.cells 0 (some tFrd) (putAt [i64 0, .lst 0 [] true] 0 l[j].cells) 0)).length 0 0 (l[j].pages.take k).length) (.inl (.inr ⟨_, 0, 0, rfl, by simp, Nat.zero_le _⟩)) (fun b hb => ⟨Nat.zero_le _, fun e => by
        have h1 := (g3.lt (.inl e)).1
        cases hb
        omega⟩) (fun s hs b hb1 hb2 => by
        have h1 := (g3.lt (.inr ⟨s, hs, hb1⟩)).1
        cases hb2
        omega) (by omega)
      have fY : hp'[hp.length]? = some (.cells 0 (some tFrd) (putAt [i64 0, .lst 0 [] true] 0 l[j].cells) 0) := by
        rw [hkp _ (by rw [List.length_append, hH]; simp; omega) fun e => by have h1 := (g3.lt (.inl e)).1; omega]
        exact fX _
      conv => whnf
      refine ⟨?_, ?_⟩
      · repeat' first | ((conv => whnf) <;> done) | ((conv => whnf) <;> (first | exact ldI (fX _) rfl | exact slI (sl_hi i64 l[j].pages f1 l[j].sh.c k hk2) rfl | refine ⟨?_, ?_⟩))
      conv => whnf
      refine ⟨rfl, ?_⟩
      conv => whnf
      refine apI ea ?_
      conv => whnf
      refine ⟨?_, ?_⟩
      · repeat' first | ((conv => whnf) <;> done) | ((conv => whnf) <;> (first | exact ldI (fY) rfl | exact slI (sl_hi i64 l[j].pages f1 l[j].sh.c k hk2) rfl | refine ⟨?_, ?_⟩))
      conv => whnf
      refine zI (z := ((4 * k : Nat) : Int)) (by rw [wrap_i64 (by omega) (by omega)]; omega) ?_
      conv => whnf
      refine zI (z := ((8 + 4 * k : Nat) : Int)) (by rw [wrap_i64 (by omega) (by omega)]; omega) ?_
      conv => whnf
      refine zI (z := ((room - (8 + 4 * k) : Nat) : Int)) (by rw [wrap_i64 (by simp only; omega) (by simp only; omega)]; simp only; omega) ?_
      conv => whnf
      refine ldI fY ?_
      conv => whnf
      have htc : (ts ++ [((l[j].ver, l[j].pages.take k, AV.sl 1 ((hp ++ [AB.cells 0 (some tFrd) [i64 0, .lst 0 [] true] 0]).set hp.length (.cells 0 (some tFrd) (putAt [i64 0, .lst 0 [] true] 0 l[j].cells) 0)).length 0 0 (l[j].pages.take k).length) : FQ)]).map coreQ = ts.map coreQ ++ [(l[j].ver, l[j].pages.take k)] := by rw [List.map_append]; rfl
      refine brd (fun d => ?_) (fun d => ?_)
      · have hd : k < l[j].pages.length := by rw [List.length_map] at d; omega
        have hkk : (room - 8) / 4 = k := by omega
        have hcut : cutQ 490 (l.map Freed.core) = (ts.map coreQ ++ [(l[j].ver, l[j].pages.take k)], (l[j].ver, l[j].pages.drop k) :: (l.drop (j + 1)).map Freed.core) := by
          rw [g4]
          unfold Freed.core
          simp only [cutQ]
          rw [if_neg hb, hkk, if_pos hd]
        conv => whnf
        refine ldI fY ?_
        conv => whnf
        refine ldI fY ?_
        conv => whnf
        refine slI (sl_lo i64 l[j].pages f1 l[j].sh.c k hk2) ?_
        conv => whnf
        refine ⟨rfl, ?_⟩
        conv => whnf
        refine zI (z := ((j + 1 : Nat) : Int)) (by rw [wrap_i64 (by simp only; omega) (by simp only; omega)]; rfl) ?_
        conv => whnf
        refine slI (sl_lo Freed.av l hz c (j + 1) (by omega)) ?_
        have hnf : ((⟨l[j].ver, ⟨1, (1 != 0 && (l[j].sh.c && ((l[j].pages.length : Int) == (l[j].pages.length : Nat))))⟩, l[j].pages.drop k⟩ : Freed)).Ok := fun _ => rfl
        by_cases hdn : l.drop (j + 1) = []
        · have ex : appR hp' tFrd 2 (.lst 2 ([(⟨l[j].ver, ⟨1, (1 != 0 && (l[j].sh.c && ((l[j].pages.length : Int) == (l[j].pages.length : Nat))))⟩, l[j].pages.drop k⟩ : Freed)].map Freed.av) true) (.lst 2 ((l.drop (j + 1)).map Freed.av) (2 != 0 && (c && ((l.length : Int) == (l.length : Nat))))) = some (.lst 2 ([(⟨l[j].ver, ⟨1, (1 != 0 && (l[j].sh.c && ((l[j].pages.length : Int) == (l[j].pages.length : Nat))))⟩, l[j].pages.drop k⟩ : Freed)].map Freed.av) true, none) := by
            rw [hdn]; rfl
          obtain ⟨sh, e1, e2, _⟩ := g7.frz 60
          have e3 : Abs.frz hp' 63 (.lst 2 ([(⟨l[j].ver, ⟨1, (1 != 0 && (l[j].sh.c && ((l[j].pages.length : Int) == (l[j].pages.length : Nat))))⟩, l[j].pages.drop k⟩ : Freed)].map Freed.av) true) = some (.lst 2 ([(⟨l[j].ver, ⟨1, (1 != 0 && (l[j].sh.c && ((l[j].pages.length : Int) == (l[j].pages.length : Nat))))⟩, l[j].pages.drop k⟩ : Freed)].map Freed.av) true) := freedL_frz _ hp'
          conv => whnf
          refine ⟨_, ex, ?_⟩
          conv => whnf
          refine ⟨_, rfl, _, ⟨_, frz_tup2 e1 e3, rfl⟩, ⟨_, [_], sh, ⟨2, true⟩, rfl, ?_, ?_, ?_, ?_, ?_, fun _ => rfl⟩⟩
          · rw [hcut, toQ_core, htc]
          · rw [hcut, hdn]; rfl
          · exact fun f hm => by obtain ⟨t, ht, rfl⟩ := List.mem_map.1 hm; exact toQ_ok (g7.val t ht)
          · exact fun f hm => by rw [List.mem_singleton] at hm; subst hm; exact hnf
          · exact fun q => e2 fun e => q (by rw [e]; rfl)
        · have ex := app_frd hp' [(⟨l[j].ver, ⟨1, (1 != 0 && (l[j].sh.c && ((l[j].pages.length : Int) == (l[j].pages.length : Nat))))⟩, l[j].pages.drop k⟩ : Freed)] (l.drop (j + 1)) (z := 2) (z' := 2) (fun _ => rfl) (fun _ => rfl) (2 != 0 && (c && ((l.length : Int) == (l.length : Nat)))) hdn (by rw [List.length_drop]; simp; omega)
          have g8 : LB false 0 (hp' ++ [AB.cells 0 (some tFrd) (rowF' ([(⟨l[j].ver, ⟨1, (1 != 0 && (l[j].sh.c && ((l[j].pages.length : Int) == (l[j].pages.length : Nat))))⟩, l[j].pages.drop k⟩ : Freed)] ++ l.drop (j + 1))).flatten 0]) L' _ := g7.old fun i _ hi => by rw [List.getElem?_append_left hi]
          obtain ⟨sh, e1, e2, _⟩ := g8.frz 60
          have e3 := frz_frd (hp := hp' ++ [AB.cells 0 (some tFrd) (rowF' ([(⟨l[j].ver, ⟨1, (1 != 0 && (l[j].sh.c && ((l[j].pages.length : Int) == (l[j].pages.length : Nat))))⟩, l[j].pages.drop k⟩ : Freed)] ++ l.drop (j + 1))).flatten 0]) (b := hp'.length) (l := [(⟨l[j].ver, ⟨1, (1 != 0 && (l[j].sh.c && ((l[j].pages.length : Int) == (l[j].pages.length : Nat))))⟩, l[j].pages.drop k⟩ : Freed)] ++ l.drop (j + 1)) (ver := 0) (f := 0) (el := some tFrd) (by simp) 60
          conv => whnf
          refine ⟨_, ex, ?_⟩
          conv => whnf
          refine ⟨_, rfl, _, ⟨_, frz_tup2 e1 e3, rfl⟩, ⟨_, _, sh, ⟨2, false⟩, rfl, ?_, ?_, ?_, ?_, ?_, fun _ => rfl⟩⟩
          · rw [hcut, toQ_core, htc]
          · rw [hcut]; rfl
          · exact fun f hm => by obtain ⟨t, ht, rfl⟩ := List.mem_map.1 hm; exact toQ_ok (g8.val t ht)
          · exact fun f hm => by
              rcases List.mem_cons.1 hm with rfl | hm
              · exact hnf
              · exact (hf f (List.mem_of_mem_drop hm)).1
          · exact fun q => e2 fun e => q (by rw [e]; rfl)
      · have hd : k = l[j].pages.length := by rw [List.length_map] at d; omega
        have hcut : cutQ 490 (l.map Freed.core) = ((ts.map coreQ ++ [(l[j].ver, l[j].pages.take k)]) ++ (cutQ (room - (8 + 4 * k)) ((l.drop (j + 1)).map Freed.core)).1, (cutQ (room - (8 + 4 * k)) ((l.drop (j + 1)).map Freed.core)).2) := by
          rw [g4]
          unfold Freed.core
          simp only [cutQ]
          rw [if_neg hb, if_neg (by omega), hd, List.take_length, show room - (8 + 4 * l[j].pages.length) = room - 8 - 4 * l[j].pages.length by omega]
          simp
        conv => whnf
        refine zI (z := ((j + 1 : Nat) : Int)) (by rw [wrap_i64 (by simp only; omega) (by simp only; omega)]; rfl) ?_
        refine nxI (j + 1, room - (8 + 4 * k), L', hp', ts ++ [(l[j].ver, l[j].pages.take k, .sl 1 ((hp ++ [AB.cells 0 (some tFrd) [i64 0, .lst 0 [] true] 0]).set hp.length (.cells 0 (some tFrd) (putAt [i64 0, .lst 0 [] true] 0 l[j].cells) 0)).length 0 0 (l[j].pages.take k).length)]) ⟨hj, by simp only; omega, g7, by simp [g5], by simp only; rw [htc]; exact hcut⟩ (by simp only; omega) ⟨⟨rfl, rfl, rfl, rfl, rfl, rfl, rfl⟩, rfl, rfl⟩
  · have hj : j = l.length := by simp only at a; omega
    subst hj
    obtain ⟨sh, e1, e2, _⟩ := g3.frz 60
    conv => whnf
    refine cutI (by decide) rfl (t := ⟨[(2, L)], hp, []⟩) ⟨rfl, rfl, rfl⟩ ?_
    conv => whnf
    rw [List.drop_length] at g4
    simp only [List.map_nil, cutQ, List.append_nil] at g4
    refine ⟨_, rfl, _, ⟨_, frz_tup2 e1 rfl, rfl⟩, ⟨ts.map toQ, [], sh, ⟨0, true⟩, rfl, ?_, ?_, ?_, (fun f hm => (by cases hm)), ?_, fun q => (q rfl).elim⟩⟩
    · rw [g4, toQ_core]
    · rw [g4]; rfl
    · exact fun f hm => by obtain ⟨t, ht, rfl⟩ := List.mem_map.1 hm; exact toQ_ok (g3.val t ht)
    · exact fun q => e2 fun e => q (by rw [e]; rfl)
end
end Go.Proofs
/- Contracts: a list of freed pages in parts. -/
set_option linter.unusedVariables false
set_option linter.unusedSimpArgs false
namespace Go.Proofs
open Go Go.Abs
/-- The parts of a list. -/
inductive Parts : List FP → List (List FP) → Prop
  | nil : Parts [] []
  | step {l : List FP} {ds : List (List FP)} : l ≠ [] → Parts (cutQ 490 l).2 ds → Parts l ((cutQ 490 l).1 :: ds)
theorem Parts.one {l : List FP} {a b : List (List FP)} (h : Parts l a) : Parts l b → a = b := by
  induction h generalizing b with
  | nil =>
    intro h2
    cases h2 with
    | nil => rfl
    | step h => exact (h rfl).elim
  | step h _ ih =>
    intro h2
    cases h2 with
    | nil => exact (h rfl).elim
    | step h' h2 => rw [ih h2]
/-- How much a list has. -/
def wgt (l : List FP) : Nat := (l.map fun x => x.2.length + 1).sum
theorem cutQ_wgt : ∀ (room : Nat) (l : List FP), wgt (cutQ room l).2 ≤ wgt l
  | _, [] => Nat.le_refl _
  | room, (v, ps) :: r => by
    unfold cutQ
    split
    · exact Nat.le_refl _
    · split
      · rename_i h
        simp only [wgt, List.map_cons, List.sum_cons, List.length_drop]
        omega
      · have := cutQ_wgt (room - 8 - 4 * ps.length) r
        simp only [wgt, List.map_cons, List.sum_cons] at this ⊢
        omega
theorem cutQ_less {l : List FP} (hne : l ≠ []) : wgt (cutQ 490 l).2 < wgt l := by
  cases l with
  | nil => exact (hne rfl).elim
  | cons a r =>
    obtain ⟨v, ps⟩ := a
    unfold cutQ
    rw [if_neg (by decide)]
    split
    · rename_i h
      simp only [wgt, List.map_cons, List.sum_cons, List.length_drop]
      omega
    · have := cutQ_wgt (490 - 8 - 4 * ps.length) r
      simp only [wgt, List.map_cons, List.sum_cons] at this ⊢
      omega
/-- What is left of a list has numbers in each of its elements, and no more of them. -/
theorem cutQ_left : ∀ (room : Nat) (l : List FP), (∀ x ∈ l, x.2 ≠ [] ∧ x.2.length < 1048576) → ∀ x ∈ (cutQ room l).2, x.2 ≠ [] ∧ x.2.length < 1048576
  | _, [], h, x, hx => by cases hx
  | room, (v, ps) :: r, h, x, hx => by
    unfold cutQ at hx
    split at hx
    · exact h x hx
    · split at hx
      · rename_i h2
        rcases List.mem_cons.1 hx with rfl | hx
        · have := (h _ (List.mem_cons_self ..)).2
          simp only at this ⊢
          refine ⟨fun e => ?_, by rw [List.length_drop]; omega⟩
          have := congrArg List.length e
          rw [List.length_drop, List.length_nil] at this
          omega
        · exact h x (List.mem_cons_of_mem _ hx)
      · exact cutQ_left _ r (fun x hx => h x (List.mem_cons_of_mem _ hx)) x hx
theorem cutQ_len : ∀ (room : Nat) (l : List FP), (cutQ room l).2.length ≤ l.length
  | _, [] => Nat.le_refl _
  | room, (v, ps) :: r => by
    unfold cutQ
    split
    · exact Nat.le_refl _
    · split
      · simp
      · have := cutQ_len (room - 8 - 4 * ps.length) r
        simp only [List.length_cons]
        omega
/-- A list of lists of freed pages, as values. -/
abbrev LP : Type := List Freed × Sh
def avP (x : LP) : AV := .lst x.2.sz (x.1.map Freed.av) x.2.c
def LP.Ok (x : LP) : Prop := (x.1 ≠ [] → x.2.sz = 2) ∧ ∀ f ∈ x.1, f.Ok
def coreP (x : LP) : List FP := x.1.map Freed.core
structure PartsS (l : List FP) (r : CRes) : Prop where
  ex : ∃ (ds : List LP) (sh : Sh), r = .ret (.lst sh.sz (ds.map avP) sh.c) ∧ Parts l (ds.map coreP) ∧ (∀ x ∈ ds, x.Ok) ∧ (ds ≠ [] → sh.sz = 1)
theorem avP_frz {n : Nat} (x : LP) : FrzOk (n + 4) (avP x) := freedL_frz x.1
theorem vbuf_frzL {el : TypeId} {hp : AHeap} {L : AV} {xs : List LP} {n : Nat} (b : VBuf el 1 hp L ((xs.map avP).map fun x => [x])) : ∃ sh : Sh, Abs.frz hp (n + 5) L = some (.lst sh.sz (xs.map avP) sh.c) ∧ (xs ≠ [] → sh.sz = 1) := by
  obtain ⟨sh, e1, e2⟩ := vbuf_frz (n := n + 4) b (fun x hx => by
    obtain ⟨y, _, rfl⟩ := List.mem_map.1 hx
    exact avP_frz y hp)
  exact ⟨sh, e1, fun h => e2 (by simpa using h)⟩
section
variable {n : Nat} {h : AHeap}
set_option maxRecDepth 10000 in
theorem dividedF_eq (hn : 3 ≤ n) (l : List Freed) (hl : l.length < 1048576) (hf : ∀ f ∈ l, f.Ok ∧ f.pages.length < 1048576) (hne : ∀ f ∈ l, f.pages ≠ []) (hw : wgt (l.map Freed.core) < 1048576) (sz : Nat) (hz : l ≠ [] → sz = 2) (c : Bool) : ∃ r, (∀ h, C n 137 [.lst sz (l.map Freed.av) c, .fn (.func 138) [] [], .fn (.func 139) [] []] h = some (r, h)) ∧ PartsS (l.map Freed.core) r := by
  obtain ⟨m, rfl⟩ : ∃ m, n = m + 1 := ⟨n - 1, by omega⟩
  have c1 : ∀ (l : List Freed) sz c h, C m 138 [.lst sz (l.map Freed.av) c] h = some (.ret (.bool (decide (l ≠ []))), h) := fun l sz c h => more_eq (by omega) l sz c
  have fine1 : fnOk Tryz.prog 138 = true := by kernel_rfl
  have fine2 : fnOk Tryz.prog 139 = true := by kernel_rfl
  refine fun_pureX F137 rfl rfl rfl (pure_lst freed_pure l rfl) ?_
  conv => whnf
  refine loopI (by decide) rfl (α := List Freed × Sh × AV × AHeap × List LP) (fun x => ⟨[(0, .lst x.2.1.sz (x.1.map Freed.av) x.2.1.c), (1, .fn (.func 138) [] []), (2, .fn (.func 139) [] []), (7, x.2.2.1)], x.2.2.2.1, []⟩)
    (fun x => (x.1.length < 1048576 ∧ (∀ f ∈ x.1, f.Ok ∧ f.pages.length < 1048576) ∧ (∀ f ∈ x.1, f.pages ≠ []) ∧ (x.1 ≠ [] → x.2.1.sz = 2)) ∧ VBuf 23 1 x.2.2.2.1 x.2.2.1 ((x.2.2.2.2.map avP).map fun x => [x]) ∧ (∀ y ∈ x.2.2.2.2, y.Ok) ∧ (∀ ds, Parts (x.1.map Freed.core) ds → Parts (l.map Freed.core) (x.2.2.2.2.map coreP ++ ds)) ∧ x.2.2.2.2.length + wgt (x.1.map Freed.core) ≤ wgt (l.map Freed.core)) (fun x => wgt (x.1.map Freed.core)) (l, ⟨sz, c⟩, .lst 0 [] true, [], []) ⟨⟨rfl, rfl, rfl, rfl⟩, rfl, rfl⟩ ⟨⟨hl, hf, hne, hz⟩, VBuf.nil, by simp, fun ds h => h, by simp⟩ (by show wgt _ < KK; simp only [KK]; omega) ?_
  rintro ⟨r, sh, L, hp, ds⟩ ⟨⟨g1, g2, g3, g4⟩, g5, g6, g7, g8⟩
  simp only at g1 g2 g3 g4 g5 g6 g7 g8
  conv => whnf
  refine cvI fine1 (c1 _ _ _ _) ?_
  conv => whnf
  refine brd (fun a => ?_) (fun a => ?_)
  · obtain ⟨r1, e1, ⟨pl, ql, s1, s2, rfl, p1, p2, p3, p4, p5, p6⟩⟩ := cut_eq (n := m) (by omega) r g1 g2 g3 sh.sz g4 sh.c
    have hcne : r.map Freed.core ≠ [] := by simpa using a
    have hleft := cutQ_left 490 (r.map Freed.core) (fun x hx => by obtain ⟨f, hf', rfl⟩ := List.mem_map.1 hx; exact ⟨g3 f hf', (g2 f hf').2⟩)
    have hless := cutQ_less hcne
    have hql : ql.length ≤ r.length := by
      have := cutQ_len 490 (r.map Freed.core)
      rw [← p2, List.length_map, List.length_map] at this
      exact this
    rw [← p2] at hleft hless
    have hin : ∀ f ∈ ql, f.pages ≠ [] ∧ f.pages.length < 1048576 := fun f hm => hleft _ (List.mem_map.2 ⟨f, hm, rfl⟩)
    obtain ⟨v, hp', ea, b', _⟩ := vbuf_app (x := .lst 1 [avP (pl, s1)] true) g5 rfl (vfirst_one hp rfl) ⟨rfl, rfl⟩ (by simp; omega)
    conv => whnf
    refine cvI fine2 (e1 _) ?_
    conv => whnf
    refine ⟨rfl, ?_⟩
    conv => whnf
    refine apI ea ?_
    conv => whnf
    refine nxI (ql, s2, v, hp', ds ++ [(pl, s1)]) ⟨⟨by simp only; omega, fun f hm => ⟨p4 f hm, (hin f hm).2⟩, fun f hm => (hin f hm).1, p6⟩, ?_, ?_, ?_, ?_⟩ hless ⟨⟨rfl, rfl, rfl, rfl⟩, rfl, rfl⟩
    · simp only [List.map_append, List.map_cons, List.map_nil]
      exact b'
    · intro y hy
      simp only [List.mem_append, List.mem_singleton] at hy
      rcases hy with hy | rfl
      · exact g6 y hy
      · exact ⟨p5, p3⟩
    · intro ds' hd
      have := g7 _ (Parts.step hcne (by rw [← p2]; exact hd))
      rw [← p1] at this
      simpa [coreP] using this
    · simp only [List.length_append, List.length_cons, List.length_nil]
      omega
  · have hr : r = [] := by simpa using a
    subst hr
    have := g7 [] Parts.nil
    rw [List.append_nil] at this
    obtain ⟨sh', e1, e2⟩ := vbuf_frzL (n := 59) g5
    conv => whnf
    refine cutI (by decide) rfl (t := ⟨[(7, L)], hp, []⟩) ⟨rfl, rfl, rfl⟩ ?_
    conv => whnf
    exact ⟨_, rfl, _, ⟨_, e1, rfl⟩, ⟨ds, sh', rfl, this, g6, e2⟩⟩
theorem listParts_eq (hn : 4 ≤ n) (l : List Freed) (hl : l.length < 1048576) (hf : ∀ f ∈ l, f.Ok ∧ f.pages.length < 1048576) (hne : ∀ f ∈ l, f.pages ≠ []) (hw : wgt (l.map Freed.core) < 1048576) (sz : Nat) (hz : l ≠ [] → sz = 2) (c : Bool) : ∃ r, (∀ h, C n 100 [.lst sz (l.map Freed.av) c] h = some (r, h)) ∧ PartsS (l.map Freed.core) r := by
  obtain ⟨m, rfl⟩ : ∃ m, n = m + 1 := ⟨n - 1, by omega⟩
  obtain ⟨r, e1, ⟨ds, sh, rfl, h1, h2, h3⟩⟩ := dividedF_eq (n := m) (by omega) l hl hf hne hw sz hz c
  refine ⟨_, fun h => ?_, ⟨ds, sh, rfl, h1, h2, h3⟩⟩
  refine fun_pure F100 rfl rfl rfl (pure_lst freed_pure l rfl) ?_
  conv => whnf
  refine clI (e1 _) ?_
  conv => whnf
  refine retP rfl ?_
  refine (frzOk_lst fun x hx => ?_) _
  obtain ⟨y, _, rfl⟩ := List.mem_map.1 hx
  exact avP_frz y
end
end Go.Proofs
/- Contracts: the reference's chain. -/
set_option linter.unusedVariables false
set_option linter.unusedSimpArgs false
namespace Go.Proofs
open Go Go.Abs
abbrev rowP (l : List Page) : List (List AV) := l.map Page.cells
theorem vbuf_frzP {el : TypeId} {hp : AHeap} {L : AV} {l : List Page} {n : Nat} (hne : l ≠ []) (hf : ∀ p ∈ l, ∀ x ∈ p.cells, Abs.frz hp n x = some x) (b : VBuf el 10 hp L (rowP l)) : Abs.frz hp (n + 1) L = some (.lst 10 (l.map Page.av) false) := by
  have hlen : ∀ r ∈ rowP l, r.length = 10 ∧ r.all AV.scal = true := b.1
  rcases b.2 with ⟨rfl, h2⟩ | ⟨eb, ver, frz, rfl, h2, _⟩
  · exact (hne (by simpa [rowP] using h2)).elim
  · rw [frz_sl (by decide) h2 (fun r hm => (hlen r hm).1) (allM_id fun x hx => ?_) hlen rfl]
    · unfold rowP
      rw [List.map_map]; rfl
    · obtain ⟨r, hm, hx⟩ := List.mem_flatten.1 hx
      obtain ⟨p, hp, rfl⟩ := List.mem_map.1 hm
      exact hf p hp x hx
section
variable {n : Nat} {h : AHeap}
end
end Go.Proofs
/- Contracts: the reference's equality of pages. -/
set_option linter.unusedVariables false
set_option linter.unusedSimpArgs false
namespace Go.Proofs
open Go Go.Abs
section
variable {n : Nat} {h : AHeap}
end
end Go.Proofs
/- Contracts: the reference's equality of pages without entries. -/
set_option linter.unusedVariables false
set_option linter.unusedSimpArgs false
namespace Go.Proofs
open Go Go.Abs
section
variable {n : Nat} {h : AHeap}
theorem refNumbers_eq (hn : 1 ≤ n) (l : List Page) (hl : l.length ≤ 1048576) (sz : Nat) (hz : l ≠ [] → sz = 10) (c : Bool) (hne : l ≠ []) : C n 99 [.lst sz (l.map Page.av) c] h = some (.ret (.lst 1 ((l.map Page.no).map i64) false), h) := by
  obtain ⟨m, rfl⟩ : ∃ m, n = m + 1 := ⟨n - 1, by omega⟩
  refine fun_pure F99 rfl rfl rfl (pure_lst page_pure l rfl) ?_
  conv => whnf
  refine loopI (by decide) rfl (α := Nat × AV × AHeap) (fun x => ⟨[(0, .lst sz (l.map Page.av) c), (3, x.2.1), (4, i64 x.1)], x.2.2, []⟩)
    (fun x => x.1 ≤ l.length ∧ VBuf 3 1 x.2.2 x.2.1 ((((l.take x.1).map Page.no).map i64).map fun x => [x])) (fun x => l.length - x.1) (0, .lst 0 [] true, []) ⟨⟨rfl, rfl, rfl⟩, rfl, rfl⟩ ⟨Nat.zero_le _, VBuf.nil⟩ (by show l.length - 0 < KK; simp only [KK]; omega) ?_
  rintro ⟨j, L, hp⟩ ⟨g1, g2⟩
  simp only at g1 g2
  conv => whnf
  refine brd (fun a => ?_) (fun a => ?_)
  · have hj : j < l.length := by simp only [List.length_map] at a; omega
    obtain ⟨v, hp', ea, b', _⟩ := vbuf_app (x := .lst 1 [i64 l[j].no] true) g2 rfl (vfirst_one _ rfl) ⟨rfl, rfl⟩ (by simp; omega)
    conv => whnf
    refine ixL page_cells hj hz ?_
    conv => whnf
    refine ⟨rfl, ?_⟩
    conv => whnf
    refine apI ea ?_
    conv => whnf
    refine zI (z := ((j + 1 : Nat) : Int)) (by rw [wrap_i64 (by simp only; omega) (by simp only; omega)]; rfl) ?_
    refine nxI (j + 1, v, hp') ⟨hj, ?_⟩ (by simp only; omega) ⟨⟨rfl, rfl, rfl⟩, rfl, rfl⟩
    simp only
    rw [List.take_succ_eq_append_getElem hj]
    simp only [List.map_append, List.map_cons, List.map_nil]
    exact b'
  · have hj : j = l.length := by simp only [List.length_map] at a; omega
    subst hj
    rw [List.take_length] at g2
    conv => whnf
    refine cutI (by decide) rfl (t := ⟨[(3, L)], hp, []⟩) ⟨rfl, rfl, rfl⟩ ?_
    conv => whnf
    refine retP rfl ?_
    exact vbuf_frzN (by simpa using hne) g2 (fun x hx => by obtain ⟨k, _, rfl⟩ := List.mem_map.1 hx; rfl)
theorem refInts_eq (hn : 1 ≤ n) (a b : List Int) (hl : a.length < 9223372036854775808) (sz sz' : Nat) (hz : a ≠ [] → sz = 1) (hz' : b ≠ [] → sz' = 1) (c c' : Bool) : C n 103 [.lst sz (a.map i64) c, .lst sz' (b.map i64) c'] h = some (.ret (.bool (decide (a = b))), h) := by
  obtain ⟨m, rfl⟩ : ∃ m, n = m + 1 := ⟨n - 1, by omega⟩
  refine fun_pure F103 rfl rfl rfl (ints_pure a (ints_pure b rfl)) ?_
  conv => whnf
  refine brq (fun q => ?_) (fun q => ?_)
  · conv => whnf
    refine retP rfl (frz_bool ?_)
    have : a ≠ b := by rintro rfl; exact q rfl
    simp [this]
  have hlen : a.length = b.length := by simp at q; omega
  conv => whnf
  refine loopI (by decide) rfl (α := Nat) (fun x => ⟨[(0, .lst sz (a.map i64) c), (1, .lst sz' (b.map i64) c'), (5, i64 x)], [], []⟩) (fun x => x ≤ a.length ∧ a.take x = b.take x) (fun x => a.length - x) 0 ⟨⟨rfl, rfl, rfl⟩, rfl, rfl⟩ ⟨Nat.zero_le _, rfl⟩ (by show a.length - 0 < KK; simp only [KK]; omega) ?_
  rintro j ⟨g1, g2⟩
  conv => whnf
  refine brd (fun d => ?_) (fun d => ?_)
  · have hj : j < a.length := by simp only [List.length_map] at d; omega
    have hj' : j < b.length := by omega
    have hne : a ≠ [] := by rintro rfl; simp at hj
    have hne' : b ≠ [] := by rintro rfl; simp at hj'
    conv => whnf
    refine ⟨by omega, hz hne, i64 a[j], by simp [hj], [i64 a[j]], rfl, ?_⟩
    conv => whnf
    refine ⟨by omega, hz' hne', i64 b[j], by simp [hj'], [i64 b[j]], rfl, ?_⟩
    conv => whnf
    refine brq (fun e => ?_) (fun e => ?_)
    · conv => whnf
      refine retP rfl (frz_bool ?_)
      have : a ≠ b := by rintro rfl; exact e rfl
      simp [this]
    · conv => whnf
      refine zI (z := ((j + 1 : Nat) : Int)) (by rw [wrap_i64 (by omega) (by omega)]; rfl) ?_
      exact nxI (j + 1) ⟨hj, take_eq_step hj hj' g2 e⟩ (by omega) ⟨⟨rfl, rfl, rfl⟩, rfl, rfl⟩
  · have hj : j = a.length := by simp only [List.length_map] at d; omega
    subst hj
    have e : a = b := by
      rw [List.take_length] at g2
      rw [g2, hlen, List.take_length]
    conv => whnf
    refine cutI (by decide) rfl (t := ⟨[], [], []⟩) ⟨trivial, rfl, rfl⟩ ?_
    conv => whnf
    exact retP rfl (frz_bool (by simp [e]))
theorem refFreeds_eq (hn : 2 ≤ n) (a b : List Freed) (hl : a.length < 1099511627776) (ha : ∀ f ∈ a, f.Ok ∧ f.pages.length < 9223372036854775808) (hb : ∀ f ∈ b, f.Ok) (sz sz' : Nat) (hz : a ≠ [] → sz = 2) (hz' : b ≠ [] → sz' = 2) (c c' : Bool) : C n 44 [.lst sz (a.map Freed.av) c, .lst sz' (b.map Freed.av) c'] h = some (.ret (.bool (decide (a.map Freed.core = b.map Freed.core))), h) := by
  obtain ⟨m, rfl⟩ : ∃ m, n = m + 1 := ⟨n - 1, by omega⟩
  refine fun_pure F44 rfl rfl rfl (pure_lst freed_pure a (pure_lst freed_pure b rfl)) ?_
  conv => whnf
  refine brq (fun q => ?_) (fun q => ?_)
  · conv => whnf
    refine retP rfl (frz_bool ?_)
    have : a.map Freed.core ≠ b.map Freed.core := fun e => q (by have := congrArg List.length e; simp at this; simp [this])
    simp [this]
  have hlen : a.length = b.length := by simp at q; omega
  conv => whnf
  refine loopI (by decide) rfl (α := Nat) (fun x => ⟨[(0, .lst sz (a.map Freed.av) c), (1, .lst sz' (b.map Freed.av) c'), (5, i64 x)], [], []⟩) (fun x => x ≤ a.length ∧ (a.take x).map Freed.core = (b.take x).map Freed.core) (fun x => a.length - x) 0 ⟨⟨rfl, rfl, rfl⟩, rfl, rfl⟩ ⟨Nat.zero_le _, rfl⟩ (by show a.length - 0 < KK; simp only [KK]; omega) ?_
  rintro j ⟨g1, g2⟩
  conv => whnf
  refine brd (fun q => ?_) (fun q => ?_)
  · have hj : j < a.length := by simp only [List.length_map] at q; omega
    have hj' : j < b.length := by omega
    obtain ⟨a1, a2⟩ := ha _ (List.getElem_mem hj)
    have b1 := hb _ (List.getElem_mem hj')
    have cI : ∀ h, C m 103 [.lst a[j].sh.sz (a[j].pages.map i64) a[j].sh.c, .lst b[j].sh.sz (b[j].pages.map i64) b[j].sh.c] h = some (.ret (.bool (decide (a[j].pages = b[j].pages))), h) := fun h => refInts_eq (by omega) a[j].pages b[j].pages a2 _ _ a1 b1 _ _
    conv => whnf
    refine ixL freed_cells hj hz ?_
    conv => whnf
    refine ixL freed_cells hj' hz' ?_
    conv => whnf
    refine brq (fun e => ?_) (fun e => ?_)
    · conv => whnf
      refine retP rfl (frz_bool ?_)
      have := core_ne hj hj' (fun q => e (by unfold Freed.core at q; exact (Prod.mk.inj q).1))
      simp [this]
    conv => whnf
    refine ixL freed_cells hj hz ?_
    conv => whnf
    refine ixL freed_cells hj' hz' ?_
    conv => whnf
    refine clI (cI _) ?_
    conv => whnf
    refine brn (fun e2 => ?_) (fun e2 => ?_)
    · conv => whnf
      refine retP rfl (frz_bool ?_)
      have := core_ne hj hj' (fun q => of_decide_eq_false e2 (by unfold Freed.core at q; exact (Prod.mk.inj q).2))
      simp [this]
    conv => whnf
    refine zI (z := ((j + 1 : Nat) : Int)) (by rw [wrap_i64 (by omega) (by omega)]; rfl) ?_
    exact nxI (j + 1) ⟨hj, core_step hj hj' g2 (by unfold Freed.core; rw [e, of_decide_eq_true e2])⟩ (by omega) ⟨⟨rfl, rfl, rfl⟩, rfl, rfl⟩
  · have hj : j = a.length := by simp only [List.length_map] at q; omega
    subst hj
    have e : a.map Freed.core = b.map Freed.core := by
      rw [List.take_length] at g2
      rw [g2, hlen, List.take_length]
    conv => whnf
    refine cutI (by decide) rfl (t := ⟨[], [], []⟩) ⟨trivial, rfl, rfl⟩ ?_
    conv => whnf
    exact retP rfl (frz_bool (by simp [e]))
theorem refNoEnts_eq (hn : 1 ≤ n) (l : List Entry) (sz sz' : Nat) (c c' : Bool) : C n 77 [.lst sz [] c, .lst sz' (l.map Entry.av) c'] h = some (.ret (.bool (decide (l = []))), h) := by
  obtain ⟨m, rfl⟩ : ∃ m, n = m + 1 := ⟨n - 1, by omega⟩
  refine fun_pure F77 rfl rfl rfl (pure_lst entry_pure [] (pure_lst entry_pure l rfl)) ?_
  cases l with
  | nil =>
    conv => whnf
    refine loopI (by decide) rfl (α := Unit) (fun _ => ⟨[(0, .lst sz [] c), (1, .lst sz' [] c'), (5, i64 0)], [], []⟩) (fun _ => True) (fun _ => 0) () ⟨⟨rfl, rfl, rfl⟩, rfl, rfl⟩ trivial (by decide) ?_
    intro _ _
    conv => whnf
    refine cutI (by decide) rfl (t := ⟨[], [], []⟩) ⟨trivial, rfl, rfl⟩ ?_
    conv => whnf
    exact retP rfl (frz_bool rfl)
  | cons e r =>
    conv => whnf
    exact retP rfl (frz_bool rfl)
/-- Pages that read alike, the first without entries. -/
def sameR (p q : Page) : Bool := p.kind == q.kind && (p.no == q.no && (p.ver == q.ver && (p.tree == q.tree && (p.level == q.level && (p.top == q.top && (p.next == q.next && (p.data == q.data && (decide (q.entries = []) && decide (p.freed.map Freed.core = q.freed.map Freed.core)))))))))
theorem refSameR_eq (hn : 3 ≤ n) (p q : Page) (hp : p.entries = []) (op : p.Ok) (oq : q.Ok) : C n 17 [p.av, q.av] h = some (.ret (.bool (sameR p q)), h) := by
  obtain ⟨m, rfl⟩ : ∃ m, n = m + 1 := ⟨n - 1, by omega⟩
  have cE : ∀ h, C m 77 [.lst p.esh.sz (p.entries.map Entry.av) p.esh.c, .lst q.esh.sz (q.entries.map Entry.av) q.esh.c] h = some (.ret (.bool (decide (q.entries = []))), h) := fun h => by
    rw [hp]
    exact refNoEnts_eq (by omega) q.entries _ _ _ _
  have cF := fun h => refFreeds_eq (n := m) (h := h) (by omega) p.freed q.freed (by have := op.flen; omega) op.fr (fun f hf => (oq.fr f hf).1) p.fsh.sz q.fsh.sz op.fsz oq.fsz p.fsh.c q.fsh.c
  have hpure : pureBs [p.av, q.av] = true := by simp [pureBs, page_pure]
  refine fun_pure F17 rfl rfl rfl hpure ?_
  conv => whnf
  refine ldI (by rfl) ?_
  conv => whnf
  refine ldI (by rfl) ?_
  conv => whnf
  refine brq (fun a => ?_) (fun a1 => ?_)
  · conv => whnf
    exact retP rfl (frz_bool (by simp [sameR, a]))
  conv => whnf
  refine ldI (by rfl) ?_
  conv => whnf
  refine ldI (by rfl) ?_
  conv => whnf
  refine brq (fun a => ?_) (fun a2 => ?_)
  · conv => whnf
    exact retP rfl (frz_bool (by simp [sameR, a]))
  conv => whnf
  refine ldI (by rfl) ?_
  conv => whnf
  refine ldI (by rfl) ?_
  conv => whnf
  refine brq (fun a => ?_) (fun a3 => ?_)
  · conv => whnf
    exact retP rfl (frz_bool (by simp [sameR, a]))
  conv => whnf
  refine ldI (by rfl) ?_
  conv => whnf
  refine ldI (by rfl) ?_
  conv => whnf
  refine brq (fun a => ?_) (fun a4 => ?_)
  · conv => whnf
    exact retP rfl (frz_bool (by simp [sameR, a]))
  conv => whnf
  refine ldI (by rfl) ?_
  conv => whnf
  refine ldI (by rfl) ?_
  conv => whnf
  refine brq (fun a => ?_) (fun a5 => ?_)
  · conv => whnf
    exact retP rfl (frz_bool (by simp [sameR, a]))
  conv => whnf
  refine ldI (by rfl) ?_
  conv => whnf
  refine ldI (by rfl) ?_
  conv => whnf
  refine eqI (eq_bool _ _) ?_
  conv => whnf
  refine brn (fun a => ?_) (fun a6 => ?_)
  · conv => whnf
    exact retP rfl (frz_bool (by simp [sameR, a]))
  conv => whnf
  refine ldI (by rfl) ?_
  conv => whnf
  refine ldI (by rfl) ?_
  conv => whnf
  refine brq (fun a => ?_) (fun a7 => ?_)
  · conv => whnf
    exact retP rfl (frz_bool (by simp [sameR, a]))
  conv => whnf
  refine ldI (by rfl) ?_
  conv => whnf
  refine ldI (by rfl) ?_
  conv => whnf
  refine brq (fun a => ?_) (fun a8 => ?_)
  · conv => whnf
    exact retP rfl (frz_bool (by simp [sameR, a]))
  conv => whnf
  refine ldI (by rfl) ?_
  conv => whnf
  refine ldI (by rfl) ?_
  conv => whnf
  refine clI (cE _) ?_
  conv => whnf
  refine brd (fun a9 => ?_) (fun a => ?_)
  · conv => whnf
    refine ldI (by rfl) ?_
    conv => whnf
    refine ldI (by rfl) ?_
    conv => whnf
    refine clI (cF _) ?_
    conv => whnf
    exact retP rfl (frz_bool (by simp [sameR, a1, a2, a3, a4, a5, a6, a7, a8, a9]))
  · conv => whnf
    exact retP rfl (frz_bool (by simp [sameR, a]))
end
end Go.Proofs
/- Contracts: the reference's joined value. -/
set_option linter.unusedVariables false
set_option linter.unusedSimpArgs false
namespace Go.Proofs
open Go Go.Abs
def samePsR (a b : List Page) : Bool := decide (a.length = b.length) && (List.zipWith sameR a b).all id
theorem samePsR_len {a b : List Page} (h : a.length ≠ b.length) : samePsR a b = false := by unfold samePsR; simp [h]
theorem samePsR_ne {a b : List Page} {j : Nat} (ha : j < a.length) (hb : j < b.length) (e : sameR a[j] b[j] = false) : samePsR a b = false := by
  have : (List.zipWith sameR a b).all id = false := by
    rw [List.all_eq_false]
    exact ⟨sameR a[j] b[j], List.mem_iff_getElem.2 ⟨j, by simp; omega, by simp⟩, by simp [e]⟩
  unfold samePsR; rw [this]; simp
theorem samePsR_yes {a b : List Page} (h : a.length = b.length) (e : ∀ j (ha : j < a.length) (hb : j < b.length), sameR a[j] b[j] = true) : samePsR a b = true := by
  unfold samePsR
  rw [Bool.and_eq_true, decide_eq_true_eq, List.all_eq_true]
  refine ⟨h, fun x hx => ?_⟩
  obtain ⟨j, hj, rfl⟩ := List.mem_iff_getElem.1 hx
  have hj2 := hj
  simp only [List.length_zipWith] at hj2
  simp [e j (by omega) (by omega)]
/-- A page without entries, as its kind asks. -/
structure Bare (q : Page) : Prop where
  tree : q.tree = 0
  level : q.level = 0
  top : q.top = false
  entries : q.entries = []
theorem same_both {p q : Page} (b : Bare q) : sameR q p = sameP p q := by
  obtain ⟨b1, b2, b3, b4⟩ := b
  unfold sameR sameP Page.plain
  rw [b1, b2, b3, b4, Bool.eq_iff_iff]
  simp only [Bool.and_eq_true, beq_iff_eq, decide_eq_true_eq, Bool.not_eq_true', List.length_nil]
  constructor
  · rintro ⟨h1, h2, h3, h4, h5, h6, h7, h8, h9, h10⟩
    exact ⟨h1.symm, h2.symm, h3.symm, h7.symm, h8.symm, ⟨h4.symm, h5.symm, h6.symm, by rw [h9]; rfl⟩, (by simp), h10.symm⟩
  · rintro ⟨h1, h2, h3, h7, h8, ⟨h4, h5, h6, h9⟩, _, h10⟩
    exact ⟨h1.symm, h2.symm, h3.symm, h4.symm, h5.symm, h6.symm, h7.symm, h8.symm, List.length_eq_zero_iff.1 (by omega), h10.symm⟩
theorem sames_both : ∀ {a b : List Page}, (∀ q ∈ b, Bare q) → samePsR b a = samePs a b := fun {a b} hb => by
  by_cases hl : a.length = b.length
  · have h1 : List.zipWith sameR b a = List.zipWith sameP a b := by
      apply List.ext_getElem
      · simp [hl]
      · intro i h1 h2
        simp only [List.getElem_zipWith]
        exact same_both (hb _ (List.getElem_mem _))
    unfold samePsR samePs
    rw [h1]
    simp [hl]
  · rw [samePs_len hl, samePsR_len (Ne.symm hl)]
section
variable {n : Nat} {h : AHeap}
theorem refSamePs_eq (hn : 4 ≤ n) (a b : List Page) (hl : a.length < 1099511627776) (hb : ∀ p ∈ a, p.entries = []) (oa : ∀ p ∈ a, p.Ok) (ob : ∀ p ∈ b, p.Ok) (sz sz' : Nat) (hz : a ≠ [] → sz = 10) (hz' : b ≠ [] → sz' = 10) (c c' : Bool) : C n 36 [.lst sz (a.map Page.av) c, .lst sz' (b.map Page.av) c'] h = some (.ret (.bool (samePsR a b)), h) := by
  obtain ⟨m, rfl⟩ : ∃ m, n = m + 1 := ⟨n - 1, by omega⟩
  refine fun_pure F36 rfl rfl rfl (pure_lst page_pure a (pure_lst page_pure b rfl)) ?_
  conv => whnf
  refine brq (fun q => ?_) (fun q => ?_)
  · conv => whnf
    refine retP rfl (frz_bool ?_)
    rw [samePsR_len fun e => q (by simp [e])]
  have hlen : a.length = b.length := by simp at q; omega
  conv => whnf
  refine loopI (by decide) rfl (α := Nat) (fun x => ⟨[(0, .lst sz (a.map Page.av) c), (1, .lst sz' (b.map Page.av) c'), (5, i64 x)], [], []⟩)
    (fun x => x ≤ a.length ∧ ∀ j (hj : j < a.length) (hj' : j < b.length), j < x → sameR a[j] b[j] = true) (fun x => a.length - x) 0 ⟨⟨rfl, rfl, rfl⟩, rfl, rfl⟩ ⟨Nat.zero_le _, fun j _ _ q => absurd q (Nat.not_lt_zero _)⟩ (by show a.length - 0 < KK; simp only [KK]; omega) ?_
  rintro j ⟨g1, g2⟩
  conv => whnf
  refine brd (fun d => ?_) (fun d => ?_)
  · have hj : j < a.length := by simp only [List.length_map] at d; omega
    have hj' : j < b.length := by omega
    have cS : ∀ h, C m 17 [.agg a[j].cells, .agg b[j].cells] h = some (.ret (.bool (sameR a[j] b[j])), h) := fun h => refSameR_eq (by omega) a[j] b[j] (hb _ (List.getElem_mem hj)) (oa _ (List.getElem_mem hj)) (ob _ (List.getElem_mem hj'))
    conv => whnf
    refine ixL page_cells hj hz ?_
    conv => whnf
    refine ixL page_cells hj' hz' ?_
    conv => whnf
    refine clI (cS _) ?_
    conv => whnf
    refine brn (fun e => ?_) (fun e => ?_)
    · conv => whnf
      exact retP rfl (frz_bool (samePsR_ne hj hj' e).symm)
    · conv => whnf
      refine zI (z := ((j + 1 : Nat) : Int)) (by rw [wrap_i64 (by omega) (by omega)]; rfl) ?_
      refine nxI (j + 1) ⟨hj, fun i hi hi' hij => ?_⟩ (by omega) ⟨⟨rfl, rfl, rfl⟩, rfl, rfl⟩
      by_cases q : i = j
      · subst q; exact e
      · exact g2 i hi hi' (by omega)
  · have hj : j = a.length := by simp only [List.length_map] at d; omega
    subst hj
    conv => whnf
    refine cutI (by decide) rfl (t := ⟨[], [], []⟩) ⟨trivial, rfl, rfl⟩ ?_
    conv => whnf
    exact retP rfl (frz_bool (samePsR_yes hlen fun i hi hi' => g2 i hi hi' hi).symm)
end
end Go.Proofs
/- Contracts: how many pages a list needs, the pages of a list. -/
set_option linter.unusedVariables false
set_option linter.unusedSimpArgs false
namespace Go.Proofs
open Go Go.Abs
theorem Parts.ex : ∀ (k : Nat) (l : List FP), wgt l ≤ k → ∃ ds, Parts l ds
  | 0, l, h => by
    cases l with
    | nil => exact ⟨_, Parts.nil⟩
    | cons a r => simp [wgt] at h
  | k + 1, l, h => by
    by_cases e : l = []
    · subst e; exact ⟨_, Parts.nil⟩
    · have := cutQ_less e
      obtain ⟨ds, hd⟩ := Parts.ex k (cutQ 490 l).2 (by omega)
      exact ⟨_, Parts.step e hd⟩
noncomputable def partsOf (l : List FP) : List (List FP) := Classical.choose (Parts.ex (wgt l) l (Nat.le_refl _))
theorem partsOf_spec (l : List FP) : Parts l (partsOf l) := Classical.choose_spec (Parts.ex (wgt l) l (Nat.le_refl _))
theorem Parts.eq {l : List FP} {ds : List (List FP)} (h : Parts l ds) : ds = partsOf l := h.one (partsOf_spec l)
theorem freedOk_ne {l : List Freed} (h : freedOk l = true) : ∀ f ∈ l, f.pages ≠ [] := fun f hf => by
  obtain ⟨j, hj, rfl⟩ := List.mem_iff_getElem.1 hf
  exact (freedOk_at h hj).2.1
theorem Parts.len {l : List FP} {ds : List (List FP)} (h : Parts l ds) : ds.length ≤ wgt l := by
  induction h with
  | nil => exact Nat.zero_le _
  | step hne _ ih =>
    have := cutQ_less hne
    simp only [List.length_cons]
    omega
/-- A page of a list. -/
structure LPg (ns : List Int) (v : Int) (ds : List (List FP)) (k : Nat) (p : Page) : Prop where
  kind : p.kind = 4
  no : p.no = ns.getD k 0
  ver : p.ver = v
  bare : Bare p
  next : p.next = nextOf ns k
  data : p.data = []
  freed : p.freed.map Freed.core = ds.getD k []
/-- What ListPages returns. -/
inductive ListSpec (l : List Freed) (no : List Int) (v : Int) : List Page → Int → Prop
  | form : freedOk l = false → ListSpec l no v [] 2
  | arg : freedOk l = true → (no.length < (partsOf (l.map Freed.core)).length ∨ numsOk no v = false) → ListSpec l no v [] 1
  | ok {ps : List Page} : freedOk l = true → (partsOf (l.map Freed.core)).length ≤ no.length → numsOk no v = true → ps.length = no.length → (∀ k (hk : k < ps.length), LPg no v (partsOf (l.map Freed.core)) k ps[k]) → ListSpec l no v ps 0
def lstPg (ds : List LP) (no : List Int) (v : Int) (k : Nat) : Page := ⟨4, no.getD k 0, v, 0, 0, false, ⟨0, true⟩, [], nextOf no k, [], (ds.getD k ([], ⟨0, true⟩)).2, (ds.getD k ([], ⟨0, true⟩)).1⟩
def lstPs (ds : List LP) (no : List Int) (v : Int) : List Page := (List.range no.length).map (lstPg ds no v)
def lstD (k : Nat) : AV := .str []
def lstF (ds : List LP) (j k : Nat) : AV := if k < j then avP (ds.getD k ([], ⟨0, true⟩)) else .lst 0 [] true
theorem lstR_ext {ds : List LP} {j : Nat} {R : Nat → List AV} (h1 : R j = iniR lstD (fun _ => avP (ds.getD j ([], ⟨0, true⟩))) j) (h2 : ∀ k, k ≠ j → R k = iniR lstD (lstF ds j) k) (k : Nat) : R k = iniR lstD (lstF ds (j + 1)) k := by
  by_cases e : k = j
  · subst e
    rw [h1]; unfold iniR lstF; rw [if_pos (Nat.lt_succ_self _)]
  · rw [h2 k e]
    unfold iniR lstF
    by_cases q : k < j
    · rw [if_pos q, if_pos (by omega)]
    · rw [if_neg q, if_neg (by omega)]
theorem list_frz {hp : AHeap} {ds : List LP} {no : List Int} {v : Int} {b : Nat} (hb : hp[b]? = some (.cells 0 (some tPage) (rowsOf no.length (finR no 4 v lstD (fun k => avP (ds.getD k ([], ⟨0, true⟩))))).flatten 0)) (n : Nat) : Abs.frz hp (n + 5) (.sl 10 b 0 0 no.length) = some (.lst 10 ((lstPs ds no v).map Page.av) false) := by
  have hlen : ∀ r ∈ rowsOf no.length (finR no 4 v lstD (fun k => avP (ds.getD k ([], ⟨0, true⟩)))), r.length = 10 ∧ r.all AV.scal = true := fun r hm => by
    obtain ⟨k, _, rfl⟩ := List.mem_map.1 hm
    exact ⟨rfl, rfl⟩
  have h1 := frz_sl (n := n + 4) (sz := 10) (by decide) hb (fun r hm => (hlen r hm).1) (rows' := rowsOf no.length (finR no 4 v lstD (fun k => avP (ds.getD k ([], ⟨0, true⟩))))) (allM_id fun x hx => by
    obtain ⟨r, hm, hx⟩ := List.mem_flatten.1 hx
    obtain ⟨k, _, rfl⟩ := List.mem_map.1 hm
    simp only [finR, lstD, List.mem_cons, List.not_mem_nil, or_false] at hx
    rcases hx with rfl | rfl | rfl | rfl | rfl | rfl | rfl | rfl | rfl | rfl
    all_goals first | rfl | exact avP_frz _ hp) hlen rfl
  have h2 : (rowsOf no.length (finR no 4 v lstD (fun k => avP (ds.getD k ([], ⟨0, true⟩))))).length = no.length := by simp [rowsOf]
  rw [h2] at h1
  rw [h1]
  congr 2
  unfold lstPs rowsOf
  rw [List.map_map, List.map_map]
  rfl
theorem lstPs_ok {ds : List LP} {no : List Int} {v : Int} (h : ∀ x ∈ ds, x.Ok) (hw : ∀ x ∈ ds, x.1.length < 1048576 ∧ ∀ f ∈ x.1, f.pages.length < 1048576) : ∀ p ∈ lstPs ds no v, p.Ok := fun p hp => by
  obtain ⟨k, _, rfl⟩ := List.mem_map.1 hp
  have hx : (ds.getD k ([], ⟨0, true⟩)).1 = [] ∨ ds.getD k ([], ⟨0, true⟩) ∈ ds := by
    rw [List.getD_eq_getElem?_getD]
    cases hk : ds[k]? with
    | none => exact .inl rfl
    | some x => exact .inr (List.mem_of_getElem? hk)
  refine ⟨fun q => (q rfl).elim, fun q => ?_, (by show 0 < 1099511627776; decide), ?_, (by show 0 < 1099511627776; decide), fun e he => (by cases he), fun f hf => ?_⟩
  · rcases hx with hx | hx
    · exact (q hx).elim
    · exact (h _ hx).1 q
  · show (ds.getD k ([], ⟨0, true⟩)).1.length < _
    rcases hx with hx | hx
    · rw [hx]; decide
    · exact (hw _ hx).1
  · change f ∈ (ds.getD k ([], ⟨0, true⟩)).1 at hf
    rcases hx with hx | hx
    · rw [hx] at hf; cases hf
    · have := (hw _ hx).2 f hf
      exact ⟨(h _ hx).2 f hf, by omega⟩
/-- Parts are no longer than the list. -/
theorem cutQ_part : ∀ (room : Nat) (l : List FP), (∀ x ∈ l, x.2.length < 1048576) → (cutQ room l).1.length ≤ l.length ∧ ∀ x ∈ (cutQ room l).1, x.2.length < 1048576
  | _, [], _ => ⟨Nat.le_refl _, fun x hx => by cases hx⟩
  | room, (v, ps) :: r, h => by
    have h0 := h _ (List.mem_cons_self ..)
    unfold cutQ
    split
    · exact ⟨Nat.zero_le _, fun x hx => by cases hx⟩
    · split
      · refine ⟨by simp, fun x hx => ?_⟩
        rw [List.mem_singleton] at hx
        subst hx
        simp only [List.length_take] at h0 ⊢
        omega
      · obtain ⟨i1, i2⟩ := cutQ_part (room - 8 - 4 * ps.length) r fun x hx => h x (List.mem_cons_of_mem _ hx)
        refine ⟨by simp only [List.length_cons]; omega, fun x hx => ?_⟩
        rcases List.mem_cons.1 hx with rfl | hx
        · exact h0
        · exact i2 x hx
theorem Parts.small {l : List FP} {ds : List (List FP)} (h : Parts l ds) (hl : l.length < 1048576) (hx : ∀ x ∈ l, x.2 ≠ [] ∧ x.2.length < 1048576) : ∀ d ∈ ds, d.length < 1048576 ∧ ∀ x ∈ d, x.2.length < 1048576 := by
  induction h with
  | nil => intro d hd; cases hd
  | step hne _ ih =>
    intro d hd
    have hp := cutQ_part 490 _ fun x hm => (hx x hm).2
    rcases List.mem_cons.1 hd with rfl | hd
    · exact ⟨by omega, hp.2⟩
    · exact ih (Nat.lt_of_le_of_lt (cutQ_len 490 _) hl) (cutQ_left 490 _ hx) d hd
section
variable {n : Nat} {h : AHeap}
theorem listNeeds_eq (hn : 5 ≤ n) (l : List Freed) (hl : l.length < 1048576) (hf : ∀ f ∈ l, f.Ok ∧ f.pages.length < 9223372036854775808) (hw : freedOk l = true → wgt (l.map Freed.core) < 1048576) (sz : Nat) (hz : l ≠ [] → sz = 2) (c : Bool) : C n 38 [.lst sz (l.map Freed.av) c] h = some (.ret (.tup [i64 (if freedOk l = true then ((partsOf (l.map Freed.core)).length : Int) else 0), i64 (if freedOk l = true then 0 else 2)]), h) := by
  obtain ⟨m, rfl⟩ : ∃ m, n = m + 1 := ⟨n - 1, by omega⟩
  have cF : ∀ h, C m 75 [.lst sz (l.map Freed.av) c] h = some (.ret (.bool (freedOk l)), h) := fun h => freed_eq (by omega) l hl hf sz hz c
  refine fun_pure F38 rfl rfl rfl (pure_lst freed_pure l rfl) ?_
  cases hk : freedOk l with
  | false =>
    rw [hk] at cF
    conv => whnf
    refine clI (cF _) ?_
    conv => whnf
    exact retP rfl rfl
  | true =>
    rw [hk] at cF
    obtain ⟨r, e1, ⟨ds, sh, rfl, h1, h2, h3⟩⟩ := listParts_eq (n := m) (by omega) l hl (freed_few hk hf) (freedOk_ne hk) (hw hk) sz hz c
    have hd : (ds.length : Int) = ((partsOf (l.map Freed.core)).length : Int) := by rw [← h1.eq, List.length_map]
    conv => whnf
    refine clI (cF _) ?_
    conv => whnf
    refine clI (e1 _) ?_
    conv => whnf
    refine retP rfl ?_
    show some (AV.tup [i64 ((ds.map avP).length : Nat), i64 0]) = _
    rw [List.length_map, hd]
    rfl
theorem lstPs_spec {ds : List LP} {l : List FP} {no : List Int} {v : Int} (h : Parts l (ds.map coreP)) : ∀ k (hk : k < (lstPs ds no v).length), LPg no v (partsOf l) k (lstPs ds no v)[k] := fun k hk => by
  have e : (lstPs ds no v)[k] = lstPg ds no v k := by simp [lstPs]
  rw [e, ← h.eq]
  refine ⟨rfl, rfl, rfl, ⟨rfl, rfl, rfl, rfl⟩, rfl, rfl, ?_⟩
  show (ds.getD k ([], ⟨0, true⟩)).1.map Freed.core = (ds.map coreP).getD k []
  rw [List.getD_eq_getElem?_getD, List.getD_eq_getElem?_getD, List.getElem?_map]
  cases ds[k]? <;> rfl
set_option maxRecDepth 10000 in
theorem listPages_eq (hn : 7 ≤ n) (l : List Freed) (hl : l.length < 1048576) (hf : ∀ f ∈ l, f.Ok ∧ f.pages.length < 9223372036854775808) (hw : freedOk l = true → wgt (l.map Freed.core) < 1048576) (sz : Nat) (hz : l ≠ [] → sz = 2) (c : Bool) (no : List Int) (hno : no.length < 1048576) (nz : Nat) (hnz : no ≠ [] → nz = 1) (nc : Bool) (v : Int) :
    ∃ (ps : List Page) (sh : Sh) (e : Int), (∀ h, C n 40 [.lst sz (l.map Freed.av) c, .lst nz (no.map i64) nc, i64 v] h = some (.ret (.tup [.lst sh.sz (ps.map Page.av) sh.c, i64 e]), h)) ∧ ListSpec l no v ps e ∧ (ps ≠ [] → sh.sz = 10) ∧ ∀ p ∈ ps, p.Ok := by
  obtain ⟨m, rfl⟩ : ∃ m, n = m + 1 := ⟨n - 1, by omega⟩
  have cF : ∀ h, C m 75 [.lst sz (l.map Freed.av) c] h = some (.ret (.bool (freedOk l)), h) := fun h => freed_eq (by omega) l hl hf sz hz c
  have cN : ∀ h, C m 92 [.lst nz (no.map i64) nc, i64 v] h = some (.ret (.bool (numsOk no v)), h) := fun h => numbers_eq (by omega) no (by omega) nz hnz nc v
  have hpure : pureBs [.lst sz (l.map Freed.av) c, .lst nz (no.map i64) nc, i64 v] = true := pure_lst freed_pure l (ints_pure no rfl)
  cases hk : freedOk l with
  | false =>
    rw [hk] at cF
    refine ⟨[], ⟨0, true⟩, 2, fun h => ?_, .form hk, fun q => (q rfl).elim, fun p hp => (by cases hp)⟩
    refine fun_cold F40 rfl rfl rfl hpure ?_
    conv => whnf
    refine clI (cF _) ?_
    conv => whnf
    exact retP rfl rfl
  | true =>
    rw [hk] at cF
    have hfew := freed_few hk hf
    have hne := freedOk_ne hk
    obtain ⟨r, e1, ⟨ds, sh, rfl, h1, h2, h3⟩⟩ := listParts_eq (n := m) (by omega) l hl hfew hne (hw hk) sz hz c
    have hd : (partsOf (l.map Freed.core)).length = ds.length := by rw [← h1.eq, List.length_map]
    have hsm := h1.small (by rw [List.length_map]; exact hl) (fun x hx => by obtain ⟨f, hf', rfl⟩ := List.mem_map.1 hx; exact ⟨hne f hf', (hfew f hf').2⟩)
    have hw2 : ∀ x ∈ ds, x.1.length < 1048576 ∧ ∀ f ∈ x.1, f.pages.length < 1048576 := fun x hx => by
      obtain ⟨q1, q2⟩ := hsm (coreP x) (List.mem_map.2 ⟨x, hx, rfl⟩)
      refine ⟨by simpa [coreP] using q1, fun f hf' => q2 f.core (List.mem_map.2 ⟨f, hf', rfl⟩)⟩
    by_cases hlt : no.length < ds.length
    · refine ⟨[], ⟨0, true⟩, 1, fun h => ?_, .arg hk (.inl (by omega)), fun q => (q rfl).elim, fun p hp => (by cases hp)⟩
      refine fun_cold F40 rfl rfl rfl hpure ?_
      conv => whnf
      refine clI (cF _) ?_
      conv => whnf
      refine clI (e1 _) ?_
      conv => whnf
      refine brd (fun _ => ?_) (fun a => absurd (by rw [List.length_map, List.length_map]; omega) a)
      conv => whnf
      exact retP rfl rfl
    cases hq : numsOk no v with
    | false =>
      rw [hq] at cN
      refine ⟨[], ⟨0, true⟩, 1, fun h => ?_, .arg hk (.inr hq), fun q => (q rfl).elim, fun p hp => (by cases hp)⟩
      refine fun_cold F40 rfl rfl rfl hpure ?_
      conv => whnf
      refine clI (cF _) ?_
      conv => whnf
      refine clI (e1 _) ?_
      conv => whnf
      refine brd (fun a => absurd a (by rw [List.length_map, List.length_map]; omega)) (fun _ => ?_)
      conv => whnf
      refine clI (cN _) ?_
      conv => whnf
      exact retP rfl rfl
    | true =>
      rw [hq] at cN
      refine ⟨lstPs ds no v, ⟨10, false⟩, 0, fun h => ?_, .ok hk (by omega) hq (by simp [lstPs]) (lstPs_spec h1), fun _ => rfl, lstPs_ok h2 hw2⟩
      refine fun_cold F40 rfl rfl rfl hpure ?_
      conv => whnf
      refine clI (cF _) ?_
      conv => whnf
      refine clI (e1 _) ?_
      conv => whnf
      refine brd (fun a => absurd a (by rw [List.length_map, List.length_map]; omega)) (fun _ => ?_)
      conv => whnf
      refine clI (cN _) ?_
      conv => whnf
      refine ⟨by omega, by omega, by simp; omega, ?_⟩
      conv => whnf
      refine loopI (by decide) rfl (α := Nat × AHeap) (fun x => ⟨[(1, .lst nz (no.map i64) nc), (2, i64 v), (9, .sl 10 0 0 0 no.length), (31, .lst sh.sz (ds.map avP) sh.c), (32, i64 ds.length), (33, i64 x.1)], x.2, []⟩)
        (fun x => x.1 ≤ ds.length ∧ x.2 = [.cells 0 (some tPage) (rowsOf no.length (iniR lstD (lstF ds x.1))).flatten 0]) (fun x => ds.length - x.1) (0, [.cells 0 (some tPage) (rowsOf no.length (iniR lstD (lstF ds 0))).flatten 0]) ⟨⟨rfl, rfl, ?_, rfl, ?_, rfl⟩, ?_, rfl⟩ ⟨Nat.zero_le _, rfl⟩ (by show ds.length - 0 < KK; simp only [KK]; omega) ?_
      · show some (AV.sl 10 0 0 0 ((List.map i64 no).length : Int).toNat) = _
        rw [List.length_map]; rfl
      · show some (AV.int .i64 ((ds.map avP).length : Int)) = _
        rw [List.length_map]
      · show [] ++ [AB.cells 0 (some tPage) (rep ((List.map i64 no).length : Int).toNat [.int .i64 0, .int .i64 0, .int .i64 0, .int .i64 0, .int .i64 0, .bool false, .lst 0 [] true, .int .i64 0, .str [], .lst 0 [] true]) 0] = _
        rw [List.length_map, Int.toNat_natCast, rep_rows]
        rfl
      rintro ⟨j, hp⟩ ⟨g1, g2⟩
      simp only at g1 g2
      subst g2
      conv => whnf
      refine brd (fun a => ?_) (fun a => ?_)
      · have hj : j < ds.length := by simp only at a; omega
        have hdne : ds ≠ [] := by rintro rfl; simp at hj
        have hg : ds.getD j ([], ⟨0, true⟩) = ds[j] := by simp [hj]
        obtain ⟨b0, f1, w1, p0⟩ := stRows (h := [.cells 0 (some tPage) (rowsOf no.length (iniR lstD (lstF ds j))).flatten 0]) (b := 0) (N := no.length) (o := 0 + ((j : Nat) : Int).toNat * 10 + 9) (x := avP ds[j]) (row := iniR lstD (fun _ => avP ds[j]) j) (fun _ => rfl) (show j < no.length by omega) (d := 9) (by decide) rfl (by rfl) (by omega)
        conv => whnf
        refine ⟨by omega, h3 hdne, avP ds[j], by simp [hj], [avP ds[j]], rfl, ?_⟩
        conv => whnf
        refine ⟨by omega, by simp only; omega, rfl, ?_⟩
        conv => whnf
        refine stI (xs := [avP ds[j]]) (by rfl) (by rfl) (by rfl) b0 (by rfl) ?_
        conv => whnf
        refine zI (z := ((j + 1 : Nat) : Int)) (by rw [wrap_i64 (by simp only; omega) (by simp only; omega)]; rfl) ?_
        refine nxI (j + 1, _) ⟨hj, ?_⟩ (by simp only; omega) ⟨⟨rfl, rfl, rfl, rfl, rfl, rfl⟩, rfl, rfl⟩
        show [AB.cells 0 (some tPage) (putAt (rowsOf no.length (iniR lstD (lstF ds j))).flatten (0 + ((j : Nat) : Int).toNat * 10 + 9) [avP ds[j]]) 0] = _
        rw [p0, rowsOf_ext fun k _ => lstR_ext (R := upd _ j _) ?_ ?_ k]
        · rw [upd_at, hg]
        · intro k hk
          rw [upd_ne _ _ hk]
      · have hj : j = ds.length := by simp only at a; omega
        subst hj
        have e2 : rowsOf no.length (iniR lstD (lstF ds ds.length)) = rowsOf no.length (iniR lstD (fun k => avP (ds.getD k ([], ⟨0, true⟩)))) := by
          refine rowsOf_ext fun k hk => ?_
          unfold iniR lstF
          by_cases q : k < ds.length
          · rw [if_pos q]
          · rw [if_neg q]
            have : ds.getD k ([], ⟨0, true⟩) = ([], ⟨0, true⟩) := by simp [Nat.le_of_not_lt q]
            simp only
            rw [this]
            rfl
        rw [e2]
        have cH := chained_eq (n := m) (hp := [.cells 0 (some tPage) (rowsOf no.length (iniR lstD (fun k => avP (ds.getD k ([], ⟨0, true⟩))))).flatten 0]) (b := 0) (by omega) no hno nz hnz nc 4 v lstD (fun k => avP (ds.getD k ([], ⟨0, true⟩))) rfl
        conv => whnf
        refine cutI (by decide) rfl (t := ⟨[(1, .lst nz (no.map i64) nc), (2, i64 v), (9, .sl 10 0 0 0 no.length)], [.cells 0 (some tPage) (rowsOf no.length (iniR lstD (fun k => avP (ds.getD k ([], ⟨0, true⟩))))).flatten 0], []⟩) ⟨⟨rfl, rfl, rfl⟩, rfl, rfl⟩ ?_
        conv => whnf
        refine clI cH ?_
        conv => whnf
        refine retP rfl ?_
        have e3 := list_frz (hp := [.cells 0 (some tPage) (rowsOf no.length (finR no 4 v lstD (fun k => avP (ds.getD k ([], ⟨0, true⟩))))).flatten 0]) (b := 0) (v := v) rfl 58
        exact frz_tup2 e3 rfl
end
end Go.Proofs
/- Contracts: the reference's parts of a list: what is in memory. -/
set_option linter.unusedVariables false
set_option linter.unusedSimpArgs false
namespace Go.Proofs
open Go Go.Abs
theorem VBuf.keep {el sz : Nat} {hp hp' : AHeap} {L : AV} {rows : List (List AV)} (b : VBuf el sz hp L rows) (e : ∀ k, blkQ L = some k → hp'[k]? = hp[k]?) : VBuf el sz hp' L rows := by
  refine ⟨b.1, ?_⟩
  rcases b.2 with h | ⟨eb, ver, frz, rfl, h2, h3⟩
  · exact .inl h
  · exact .inr ⟨eb, ver, frz, rfl, by rw [e eb rfl]; exact h2, h3⟩
theorem VBuf.blt {el sz : Nat} {hp : AHeap} {L : AV} {rows : List (List AV)} (b : VBuf el sz hp L rows) {k : Nat} (hk : blkQ L = some k) : k < hp.length := by
  rcases b.2 with ⟨rfl, _⟩ | ⟨eb, ver, frz, rfl, h2, _⟩
  · cases hk
  · cases hk; exact lt_of_get h2
theorem app_far {el sz : Nat} {hp : AHeap} {L x : AV} {rows : List (List AV)} {row : List AV} (hB : VBuf el sz hp L rows) (h1 : lenA x = some 1) (h2 : firstA hp sz 1 x = some row) (hr : row.length = sz ∧ row.all AV.scal = true) (hl : rows.length + 1 ≤ 1073741824) :
    ∃ b ver hp', appR hp el sz L x = some (.sl sz b ver 0 (rows ++ [row]).length, some hp') ∧ VBuf el sz hp' (.sl sz b ver 0 (rows ++ [row]).length) (rows ++ [row]) ∧ hp.length ≤ hp'.length ∧ (∀ k, k < hp.length → blkQ L ≠ some k → hp'[k]? = hp[k]?) ∧ (blkQ L = some b ∨ hp.length ≤ b) := by
  have hrows : ∀ r ∈ rows ++ [row], r.length = sz ∧ r.all AV.scal = true := by
    intro r hm
    simp at hm
    rcases hm with hm | rfl
    · exact hB.1 r hm
    · exact hr
  unfold appR
  rw [h1]
  simp only
  rw [h2]
  simp only [hr.2, Bool.not_true, Bool.false_eq_true, if_false]
  rcases hB.2 with ⟨rfl, rfl⟩ | ⟨bb, ver, frz, rfl, g1, g3⟩
  · simp only
    rw [if_neg (by decide)]
    have h3 : firstA hp sz ([] : List AV).length (.lst 0 [] true) = some [] := by
      unfold firstA
      simp
    rw [h3]
    simp only [List.length_nil, Nat.zero_add]
    rw [if_pos ⟨by decide, rfl⟩]
    refine ⟨hp.length, 0, _, rfl, ⟨hrows, .inr ⟨hp.length, 0, 0, rfl, by simp, Nat.zero_le _⟩⟩, by simp, fun k hk _ => ?_, .inr (Nat.le_refl _)⟩
    rw [List.getElem?_append_left hk]
  · have hf := flatten_len hB.1
    simp only
    rw [g1]
    simp only
    rw [if_pos ⟨.inl trivial, trivial, trivial, trivial, hf.1.symm, hf.2, hl, g3⟩, if_neg (by decide)]
    refine ⟨bb, ver + 1, hp.set bb (.cells (ver + 1) (some el) (rows.flatten ++ row) frz), by simp, ⟨hrows, .inr ⟨bb, ver + 1, frz, rfl, ?_, by rw [List.flatten_append, List.length_append]; omega⟩⟩, by simp, fun k hk hn => ?_, .inl rfl⟩
    · rw [List.getElem?_set_self (lt_of_get g1)]; simp
    · have : bb ≠ k := fun e => hn (by rw [← e]; rfl)
      rw [List.getElem?_set_ne this]
/-- Lists of freed pages in memory, in a list in memory. -/
structure PB (hp : AHeap) (L : AV) (ds : List (List Freed × AV)) : Prop where
  buf : VBuf 23 1 hp L (ds.map fun d => [d.2])
  val : ∀ d ∈ ds, VBuf tFrd 2 hp d.2 (rowF' d.1)
  own : ∀ d ∈ ds, ∀ b, blkQ d.2 = some b → blkQ L ≠ some b
theorem PB.nil {hp : AHeap} : PB hp (.lst 0 [] true) [] := ⟨VBuf.nil, by simp, by simp⟩
theorem PB.keep {hp hp' : AHeap} {L : AV} {ds : List (List Freed × AV)} (p : PB hp L ds) (e : ∀ k, (blkQ L = some k ∨ ∃ d ∈ ds, blkQ d.2 = some k) → hp'[k]? = hp[k]?) : PB hp' L ds :=
  ⟨p.buf.keep fun k hk => e k (.inl hk), fun d hd => (p.val d hd).keep fun k hk => e k (.inr ⟨d, hd, hk⟩), p.own⟩
theorem PB.lt {hp : AHeap} {L : AV} {ds : List (List Freed × AV)} (p : PB hp L ds) {k : Nat} (h : blkQ L = some k ∨ ∃ d ∈ ds, blkQ d.2 = some k) : k < hp.length := by
  rcases h with h | ⟨d, hd, hb⟩
  · exact p.buf.blt h
  · exact (p.val d hd).blt hb
theorem PB.push {hp : AHeap} {L P : AV} {ds : List (List Freed × AV)} (p : PB hp L ds) (fs : List Freed) (v : VBuf tFrd 2 hp P (rowF' fs)) (hown : ∀ b, blkQ P = some b → blkQ L ≠ some b) (hl : ds.length + 1 ≤ 1073741824) :
    ∃ b ver hp', appR hp 23 1 L (.lst 1 [P] true) = some (.sl 1 b ver 0 (ds.length + 1), some hp') ∧ PB hp' (.sl 1 b ver 0 (ds.length + 1)) (ds ++ [(fs, P)]) ∧ hp.length ≤ hp'.length := by
  obtain ⟨b, ver, hp', ea, bf, hle, hk, hv⟩ := app_far (x := .lst 1 [P] true) p.buf rfl (vfirst_one hp v.scal.2) ⟨rfl, by simp [v.scal.1]⟩ (by rw [List.length_map]; exact hl)
  have e1 : ((ds.map fun d => [d.2]) ++ [[P]]).length = ds.length + 1 := by simp
  rw [e1] at ea bf
  have e2 : (ds.map fun d => [d.2]) ++ [[P]] = (ds ++ [(fs, P)]).map fun d => [d.2] := by simp
  rw [e2] at bf
  refine ⟨b, ver, hp', ea, ⟨bf, fun d hd => ?_, fun d hd k hk2 e => ?_⟩, hle⟩
  · rw [List.mem_append, List.mem_singleton] at hd
    rcases hd with hd | rfl
    · exact (p.val d hd).keep fun k hk2 => hk k ((p.val d hd).blt hk2) (p.own d hd k hk2)
    · exact v.keep fun k hk2 => hk k (v.blt hk2) (hown k hk2)
  · have h1 : blkQ L ≠ some k ∧ k < hp.length := by
      rw [List.mem_append, List.mem_singleton] at hd
      rcases hd with hd | rfl
      · exact ⟨p.own d hd k hk2, (p.val d hd).blt hk2⟩
      · exact ⟨hown k hk2, v.blt hk2⟩
    cases e
    rcases hv with h | h
    · exact h1.1 h
    · omega
def toP (d : List Freed × AV) : LP := (d.1, match d.2 with
  | .lst _ _ _ => ⟨0, true⟩
  | _ => ⟨2, false⟩)
theorem VBuf.frzF {hp : AHeap} {d : List Freed × AV} (v : VBuf tFrd 2 hp d.2 (rowF' d.1)) (n : Nat) : Abs.frz hp (n + 3) d.2 = some (avP (toP d)) ∧ (d.1 ≠ [] → (toP d).2.sz = 2) := by
  obtain ⟨fs, P⟩ := d
  rcases v.2 with ⟨h, h2⟩ | ⟨eb, ver, f, h, h2, _⟩
  · simp only at h h2
    subst h
    have : fs = [] := by simpa [rowF'] using h2
    subst this
    exact ⟨rfl, fun q => (q rfl).elim⟩
  · simp only at h h2
    subst h
    have := frz_frd h2 n
    rw [show (rowF' fs).length = fs.length by simp [rowF']]
    exact ⟨this, fun _ => rfl⟩
theorem PB.frz {hp : AHeap} {L : AV} {ds : List (List Freed × AV)} (p : PB hp L ds) (n : Nat) : ∃ sh : Sh, Abs.frz hp (n + 4) L = some (.lst sh.sz ((ds.map toP).map avP) sh.c) ∧ (ds ≠ [] → sh.sz = 1) := by
  rcases p.buf.2 with ⟨h, h2⟩ | ⟨eb, ver, f, h, h2, _⟩
  · have : ds = [] := by simpa using h2
    subst this
    subst h
    exact ⟨⟨0, true⟩, rfl, fun q => (q rfl).elim⟩
  · refine ⟨⟨1, false⟩, ?_, fun _ => rfl⟩
    have e1 : (ds.map fun d => [d.2]).flatten = ds.map (·.2) := by
      rw [← vflatten_ones (ds.map (·.2)), List.map_map]; rfl
    rw [e1] at h2
    have ha : ∀ l : List (List Freed × AV), (∀ d ∈ l, VBuf tFrd 2 hp d.2 (rowF' d.1)) → allM (Abs.frz hp (n + 3)) (l.map (·.2)) = some ((l.map toP).map avP) := fun l hv => by
      induction l with
      | nil => rfl
      | cons d r ih =>
        have h1 := ((hv d (List.mem_cons_self ..)).frzF n).1
        have h2 := ih fun s hs => hv s (List.mem_cons_of_mem _ hs)
        show allM _ (d.2 :: r.map (·.2)) = _
        unfold allM
        rw [h1, h2]
        rfl
    rw [h]
    unfold Abs.frz
    simp only [h2, List.length_map]
    rw [if_pos ⟨trivial, by omega⟩]
    have h1 : ((ds.map (·.2)).drop 0).take (ds.length * 1) = ds.map (·.2) := by rw [List.drop_zero]; exact List.take_of_length_le (by simp)
    rw [h1, ha ds p.val]
    simp only
    rw [if_pos (by rw [List.all_eq_true]; intro x hm; obtain ⟨k, _, rfl⟩ := List.mem_map.1 hm; rfl)]
    rfl
/-- What the parts of a list are, with some of them found already. -/
def MP (now : List FP) (room : Nat) (l : List FP) (ds : List (List FP)) : Prop := (now = [] ∧ l = [] ∧ ds = []) ∨ ∃ ds', ds = (now ++ (cutQ room l).1) :: ds' ∧ Parts (cutQ room l).2 ds' ∧ (now ≠ [] ∨ l ≠ [])
theorem MP.parts {l : List FP} {ds : List (List FP)} (h : MP [] 490 l ds) : Parts l ds := by
  rcases h with ⟨_, rfl, rfl⟩ | ⟨ds', rfl, h1, h2⟩
  · exact Parts.nil
  · exact Parts.step (h2.resolve_left fun q => q rfl) h1
theorem MP.flush {now l : List FP} {room : Nat} {ds : List (List FP)} (hr : room < 12) (hn : now ≠ []) (h : MP [] 490 l ds) : MP now room l (now :: ds) := .inr ⟨ds, by rw [cutQ_low hr, List.append_nil], by rw [cutQ_low hr]; exact h.parts, .inl hn⟩
theorem MP.part {now t : List FP} {v : Int} {ps : List Int} {room : Nat} {ds : List (List FP)} (hr : ¬ room < 12) (hn : (room - 8) / 4 < ps.length) (h : MP (now ++ [(v, ps.take ((room - 8) / 4))]) (room - (8 + 4 * ((room - 8) / 4))) ((v, ps.drop ((room - 8) / 4)) :: t) ds) : MP now room ((v, ps) :: t) ds := by
  rcases h with ⟨h, _⟩ | ⟨ds', rfl, h1, _⟩
  · simp at h
  · rw [cutQ_low (by omega)] at h1 ⊢
    have e : cutQ room ((v, ps) :: t) = ([(v, ps.take ((room - 8) / 4))], (v, ps.drop ((room - 8) / 4)) :: t) := by
      simp only [cutQ]
      rw [if_neg hr, if_pos hn]
    exact .inr ⟨ds', by rw [e, List.append_nil], by rw [e]; exact h1, .inr (by simp)⟩
theorem MP.whole {now t : List FP} {v : Int} {ps : List Int} {room : Nat} {ds : List (List FP)} (hr : ¬ room < 12) (hn : ¬ (room - 8) / 4 < ps.length) (h : MP (now ++ [(v, ps)]) (room - (8 + 4 * ps.length)) t ds) : MP now room ((v, ps) :: t) ds := by
  rcases h with ⟨h, _⟩ | ⟨ds', rfl, h1, _⟩
  · simp at h
  · have e : cutQ room ((v, ps) :: t) = ((v, ps) :: (cutQ (room - (8 + 4 * ps.length)) t).1, (cutQ (room - (8 + 4 * ps.length)) t).2) := by
      simp only [cutQ]
      rw [if_neg hr, if_neg hn, Nat.sub_sub]
    exact .inr ⟨ds', by rw [e]; simp, by rw [e]; exact h1, .inr (by simp)⟩
theorem MP.done {now : List FP} {room : Nat} : MP now room [] (if now = [] then [] else [now]) := by
  by_cases h : now = []
  · rw [if_pos h]; exact .inl ⟨h, rfl, rfl⟩
  · rw [if_neg h]; exact .inr ⟨[], by simp [cutQ], by simp only [cutQ]; exact Parts.nil, .inl h⟩
end Go.Proofs
/- The looked-up text of the functions. -/
namespace Go.Proofs
open Go Go.Abs
/- f101 understory/understoryref04.parts: 63 temporaries, depth 7, 1 parameters, results [t2] -/
def c101 : RC :=
 (.seq (.ops [(oP 2 (.mv (.c (.lst 0 [] true))))])
 (.seq (.ops [(oP 3 (.mv (.c (.lst 0 [] true))))])
 (.seq (.ops [(oP 4 (.mv (.c (.lst 0 [] true))))])
 (.seq (.ops [(oP 5 (.mv (.c (.int .i64 490))))])
 (.seq (.seq (.ops [(oP 6 (.mv (.c (.int .i64 0))))])
 (.block 0
 (.loop
 (.seq (.seq (.ops [(mV 9 6),
 (mV 10 0),
 (oP 11 (.lenL (.t 10))),
 (oP 12 (.bin .lss (.t 9) (.t 11)))])
 (.cond (.t 12)
 .skip
 (.exit 0)))
 (.seq (.block 1
 (.seq (.ops [(mV 15 0),
 (mV 16 6),
 (oP 17 (.indexAddrL 2 (.t 15) (.t 16))),
 (oP 18 (.fieldAddr 1 (.t 17))),
 (oP 19 (.load false 1 (.t 18))),
 (mV 7 19)])
 (.block 2
 (.loop
 (.seq (.seq (.ops [(mV 20 7),
 (oP 21 (.lenL (.t 20))),
 (oP 22 (.bin .gtr (.t 21) (.c (.int .i64 0))))])
 (.cond (.t 22)
 .skip
 (.exit 2)))
 (.block 3
 (.seq (.ops [(mV 23 5),
 (oP 24 (.bin .sub (.t 23) (.c (.int .i64 8)))),
 (oP 25 (.bin .quo (.t 24) (.c (.int .i64 4)))),
 (mV 26 7),
 (oP 27 (.lenL (.t 26))),
 (oP 28 (.mm false (.t 25) (.t 27))),
 (mV 8 28)])
 (.seq (.seq (.ops [(mV 29 5),
 (oP 30 (.bin .lss (.t 29) (.c (.int .i64 12))))])
 (.cond (.t 30)
 (.seq (.ops [(mV 31 3),
 (mV 32 4),
 (oP 33 (.mkLst 1 false 1 [(.lst 0 [] true)] [(0, 1, (.t 32))])),
 (oP 34 (.app 23 1 (.t 31) (.t 33))),
 (mV 3 34)])
 (.seq (.ops [(oP 4 (.mv (.c (.lst 0 [] true))))])
 (.seq (.ops [(oP 5 (.mv (.c (.int .i64 490))))])
 (.exit 3))))
 .skip))
 (.seq (.draw [((mV 35 4), 0),
 ((mV 36 0), 0),
 ((mV 37 6), 0),
 ((oP 38 (.indexAddrL 2 (.t 36) (.t 37))), 0),
 ((oP 39 (.fieldAddr 0 (.t 38))), 0),
 ((oP 40 (.load false 1 (.t 39))), 1),
 ((mV 41 7), 0),
 ((mV 42 8), 0),
 ((oP 43 (.sliceL 1 (.t 41) none (some (.t 42)) none)), 1),
 ((oP 44 (.build [(.int .i64 0), (.lst 0 [] true)] [(0, 1, (.t 40)), (1, 1, (.t 43))])), 0),
 ((oP 45 (.mkLst 2 true 1 [(.int .i64 0), (.lst 0 [] true)] [(0, 2, (.t 44))])), 0),
 ((oP 46 (.app 165 2 (.t 35) (.t 45))), 2),
 ((mV 4 46), 0)])
 (.seq (.ops [(mV 47 7),
 (mV 48 8),
 (oP 49 (.sliceL 1 (.t 47) (some (.t 48)) none none)),
 (mV 7 49)])
 (.ops [(mV 50 5),
 (oP 51 (.bin .sub (.t 50) (.c (.int .i64 8)))),
 (mV 52 8),
 (oP 53 (.bin .mul (.c (.int .i64 4)) (.t 52))),
 (oP 54 (.bin .sub (.t 51) (.t 53))),
 (mV 5 54)])))))))))))
 (.cut (.ops [(mV 13 6),
 (oP 14 (.bin .add (.t 13) (.c (.int .i64 1)))),
 (mV 6 14)])))))))
 (.cut (.seq (.seq (.ops [(mV 55 4),
 (oP 56 (.lenL (.t 55))),
 (oP 57 (.bin .gtr (.t 56) (.c (.int .i64 0))))])
 (.cond (.t 57)
 (.ops [(mV 58 3),
 (mV 59 4),
 (oP 60 (.mkLst 1 false 1 [(.lst 0 [] true)] [(0, 1, (.t 59))])),
 (oP 61 (.app 23 1 (.t 58) (.t 60))),
 (mV 3 61)])
 .skip))
 (.seq (.ops [(mV 62 3),
 (mV 2 62)])
 .ret))))))))
theorem F101 : FI 101 1 63 7 [.tmp 2] c101 := ⟨⟨Tryz.f101, Tryz.func101, by kernel_rfl, by kernel_rfl, by kernel_rfl⟩, by kernel_rfl, by decide, by kernel_rfl⟩
/- f39 understory/understoryref04.ListNeeds: 11 temporaries, depth 4, 1 parameters, results [*t2] -/
def c39 : RC :=
 (.seq (.ops [(oP 2 (.alloc 92 [(.int .i64 0), (.int .i64 0)]))])
 (.seq (.seq (.ops [(mV 3 0),
 (oP 4 (.callF 53 [(.t 3)])),
 (oP 5 (.un .not (.t 4)))])
 (.cond (.t 5)
 (.seq (.ops [(oP 6 (.build [(.int .i64 0), (.int .i64 0)] [(1, 1, (.c (.int .i64 2)))])),
 (oU (.store 2 (.t 2) (.t 6)))])
 .ret)
 .skip))
 (.seq (.ops [(mV 7 0),
 (oP 8 (.callF 101 [(.t 7)])),
 (oP 9 (.lenL (.t 8))),
 (oP 10 (.build [(.int .i64 0), (.int .i64 0)] [(0, 1, (.t 9))])),
 (oU (.store 2 (.t 2) (.t 10)))])
 .ret)))
theorem F39 : FI 39 1 11 4 [.cell 2 92] c39 := ⟨⟨Tryz.f39, Tryz.func39, by kernel_rfl, by kernel_rfl, by kernel_rfl⟩, by kernel_rfl, by decide, by kernel_rfl⟩
/- f41 understory/understoryref04.ListPages: 67 temporaries, depth 7, 3 parameters, results [*t6] -/
def c41 : RC :=
 (.seq (.ops [(oP 6 (.alloc 81 [(.lst 0 [] true), (.int .i64 0)]))])
 (.seq (.seq (.ops [(mV 11 0),
 (oP 12 (.callF 53 [(.t 11)])),
 (oP 13 (.un .not (.t 12)))])
 (.cond (.t 13)
 (.seq (.ops [(oP 14 (.build [(.lst 0 [] true), (.int .i64 0)] [(1, 1, (.c (.int .i64 2)))])),
 (oU (.store 2 (.t 6) (.t 14)))])
 .ret)
 .skip))
 (.seq (.ops [(mV 15 0),
 (oP 16 (.callF 101 [(.t 15)])),
 (mV 7 16)])
 (.seq (.seq (.ops [(mV 17 1),
 (oP 18 (.lenL (.t 17))),
 (mV 19 7),
 (oP 20 (.lenL (.t 19))),
 (oP 21 (.bin .lss (.t 18) (.t 20))),
 (mV 22 21),
 (oG 23 22 false (.mv (.t 1))),
 (oG 24 22 false (.mv (.t 2))),
 (oG 25 22 false (.callF 94 [(.t 23), (.t 24)])),
 (oG 26 22 false (.un .not (.t 25))),
 (oP 27 (.pick (.t 22) (.c (.bool true)) (.t 26)))])
 (.cond (.t 27)
 (.seq (.ops [(oP 28 (.build [(.lst 0 [] true), (.int .i64 0)] [(1, 1, (.c (.int .i64 1)))])),
 (oU (.store 2 (.t 6) (.t 28)))])
 .ret)
 .skip))
 (.seq (.ops [(oP 8 (.mv (.c (.lst 0 [] true))))])
 (.seq (.seq (.ops [(oP 9 (.mv (.c (.int .i64 0))))])
 (.block 0
 (.loop
 (.seq (.seq (.ops [(mV 29 9),
 (mV 30 1),
 (oP 31 (.lenL (.t 30))),
 (oP 32 (.bin .lss (.t 29) (.t 31)))])
 (.cond (.t 32)
 .skip
 (.exit 0)))
 (.seq (.block 1
 (.seq (.ops [(mV 35 1),
 (mV 36 9),
 (oP 37 (.indexAddrL 1 (.t 35) (.t 36))),
 (oP 38 (.load false 1 (.t 37))),
 (mV 39 2),
 (oP 40 (.build [(.int .i64 0), (.int .i64 0), (.int .i64 0), (.int .i64 0), (.int .i64 0), (.bool false), (.lst 0 [] true), (.int .i64 0), (.str []), (.lst 0 [] true)] [(0, 1, (.c (.int .i64 4))), (1, 1, (.t 38)), (2, 1, (.t 39))])),
 (oP 10 (.alloc 25 [(.int .i64 0), (.int .i64 0), (.int .i64 0), (.int .i64 0), (.int .i64 0), (.bool false), (.lst 0 [] true), (.int .i64 0), (.str []), (.lst 0 [] true)])),
 (oU (.store 10 (.t 10) (.t 40)))])
 (.seq (.seq (.ops [(mV 41 9),
 (mV 42 7),
 (oP 43 (.lenL (.t 42))),
 (oP 44 (.bin .lss (.t 41) (.t 43)))])
 (.cond (.t 44)
 (.ops [(mV 45 7),
 (mV 46 9),
 (oP 47 (.indexAddrL 1 (.t 45) (.t 46))),
 (oP 48 (.load false 1 (.t 47))),
 (oP 49 (.fieldAddr 9 (.t 10))),
 (oU (.store 1 (.t 49) (.t 48)))])
 .skip))
 (.seq (.seq (.ops [(mV 50 9),
 (oP 51 (.bin .add (.t 50) (.c (.int .i64 1)))),
 (mV 52 1),
 (oP 53 (.lenL (.t 52))),
 (oP 54 (.bin .lss (.t 51) (.t 53)))])
 (.cond (.t 54)
 (.ops [(mV 55 1),
 (mV 56 9),
 (oP 57 (.bin .add (.t 56) (.c (.int .i64 1)))),
 (oP 58 (.indexAddrL 1 (.t 55) (.t 57))),
 (oP 59 (.load false 1 (.t 58))),
 (oP 60 (.fieldAddr 7 (.t 10))),
 (oU (.store 1 (.t 60) (.t 59)))])
 .skip))
 (.ops [(mV 61 8),
 (oP 62 (.load true 10 (.t 10))),
 (oP 63 (.mkLst 10 true 1 [(.int .i64 0), (.int .i64 0), (.int .i64 0), (.int .i64 0), (.int .i64 0), (.bool false), (.lst 0 [] true), (.int .i64 0), (.str []), (.lst 0 [] true)] [(0, 10, (.t 62))])),
 (oP 64 (.app 25 10 (.t 61) (.t 63))),
 (mV 8 64)])))))
 (.ops [(mV 33 9),
 (oP 34 (.bin .add (.t 33) (.c (.int .i64 1)))),
 (mV 9 34)]))))))
 (.cut (.seq (.ops [(mV 65 8),
 (oP 66 (.build [(.lst 0 [] true), (.int .i64 0)] [(0, 1, (.t 65))])),
 (oU (.store 2 (.t 6) (.t 66)))])
 .ret))))))))
theorem F41 : FI 41 3 67 7 [.cell 6 81] c41 := ⟨⟨Tryz.f41, Tryz.func41, by kernel_rfl, by kernel_rfl, by kernel_rfl⟩, by kernel_rfl, by decide, by kernel_rfl⟩
/- f43 understory/understoryref04.ListOf: 99 temporaries, depth 7, 1 parameters, results [*t2] -/
def c43 : RC :=
 (.seq (.ops [(oP 2 (.alloc 99 [(.lst 0 [] true), (.int .i64 0)]))])
 (.seq (.seq (.ops [(mV 9 0),
 (oP 10 (.lenL (.t 9))),
 (oP 11 (.bin .eql (.t 10) (.c (.int .i64 0))))])
 (.cond (.t 11)
 (.seq (.ops [(oP 12 (.build [(.lst 0 [] true), (.int .i64 0)] [])),
 (oU (.store 2 (.t 2) (.t 12)))])
 .ret)
 .skip))
 (.seq (.seq (.ops [(mV 13 0),
 (oP 14 (.lenL (.t 13))),
 (oP 15 (.bin .gtr (.t 14) (.c (.int .i64 4096))))])
 (.cond (.t 15)
 (.seq (.ops [(oP 16 (.build [(.lst 0 [] true), (.int .i64 0)] [(1, 1, (.c (.int .i64 2)))])),
 (oU (.store 2 (.t 2) (.t 16)))])
 .ret)
 .skip))
 (.seq (.ops [(oP 3 (.mv (.c (.lst 0 [] true))))])
 (.seq (.seq (.ops [(oP 4 (.mv (.c (.int .i64 0))))])
 (.block 0
 (.loop
 (.seq (.seq (.ops [(mV 17 4),
 (mV 18 0),
 (oP 19 (.lenL (.t 18))),
 (oP 20 (.bin .lss (.t 17) (.t 19)))])
 (.cond (.t 20)
 .skip
 (.exit 0)))
 (.seq (.block 1
 (.seq (.ops [(oP 5 (.mv (.c (.int .i64 0))))])
 (.block 2
 (.loop
 (.seq (.seq (.ops [(mV 23 5),
 (mV 24 0),
 (mV 25 4),
 (oP 26 (.indexAddrL 10 (.t 24) (.t 25))),
 (oP 27 (.fieldAddr 9 (.t 26))),
 (oP 28 (.load false 1 (.t 27))),
 (oP 29 (.lenL (.t 28))),
 (oP 30 (.bin .lss (.t 23) (.t 29)))])
 (.cond (.t 30)
 .skip
 (.exit 2)))
 (.seq (.block 3
 (.seq (.ops [(mV 33 0),
 (mV 34 4),
 (oP 35 (.indexAddrL 10 (.t 33) (.t 34))),
 (oP 36 (.fieldAddr 9 (.t 35))),
 (oP 37 (.load false 1 (.t 36))),
 (mV 38 5),
 (oP 39 (.indexAddrL 2 (.t 37) (.t 38))),
 (oP 40 (.load true 2 (.t 39))),
 (oP 6 (.alloc 165 [(.int .i64 0), (.lst 0 [] true)])),
 (oU (.store 2 (.t 6) (.t 40)))])
 (.seq (.ops [(mV 41 3),
 (oP 42 (.lenL (.t 41))),
 (oP 43 (.bin .sub (.t 42) (.c (.int .i64 1)))),
 (mV 7 43)])
 (.seq (.draw [((mV 44 5), 0),
 ((oP 45 (.bin .eql (.t 44) (.c (.int .i64 0)))), 0),
 ((mV 46 45), 0),
 ((oG 47 46 true (.mv (.t 7))), 0),
 ((oG 48 46 true (.bin .geq (.t 47) (.c (.int .i64 0)))), 0),
 ((oP 49 (.pick (.t 46) (.t 48) (.c (.bool false)))), 0),
 ((mV 50 49), 0),
 ((oG 51 50 true (.mv (.t 3))), 0),
 ((oG 52 50 true (.mv (.t 7))), 0),
 ((oG 53 50 true (.indexAddrL 2 (.t 51) (.t 52))), 0),
 ((oG 54 50 true (.fieldAddr 0 (.t 53))), 0),
 ((oG 55 50 true (.load false 1 (.t 54))), 1),
 ((oG 56 50 true (.fieldAddr 0 (.t 6))), 0),
 ((oG 57 50 true (.load false 1 (.t 56))), 1),
 ((oG 58 50 true (.bin .eql (.t 55) (.t 57))), 0),
 ((oP 59 (.pick (.t 50) (.t 58) (.c (.bool false)))), 0)])
 (.cond (.t 59)
 (.draw [((mV 60 3), 0),
 ((mV 61 7), 0),
 ((oP 62 (.mkLst 1 false 0 [(.int .i64 0)] [])), 0),
 ((mV 63 3), 0),
 ((mV 64 7), 0),
 ((oP 65 (.indexAddrL 2 (.t 63) (.t 64))), 0),
 ((oP 66 (.fieldAddr 1 (.t 65))), 0),
 ((oP 67 (.load false 1 (.t 66))), 1),
 ((oP 69 (.fieldAddr 1 (.t 6))), 0),
 ((oP 70 (.load false 1 (.t 69))), 1),
 ((oP 68 (.app 3 1 (.t 62) (.t 67))), 2),
 ((oP 71 (.app 3 1 (.t 68) (.t 70))), 2),
 ((oP 72 (.indexAddrL 2 (.t 60) (.t 61))), 0),
 ((oP 73 (.fieldAddr 1 (.t 72))), 0),
 ((oU (.store 1 (.t 73) (.t 71))), 3)])
 (.ops [(mV 74 3),
 (oP 75 (.load true 2 (.t 6))),
 (oP 76 (.mkLst 2 true 1 [(.int .i64 0), (.lst 0 [] true)] [(0, 2, (.t 75))])),
 (oP 77 (.app 165 2 (.t 74) (.t 76))),
 (mV 3 77)]))))))
 (.ops [(mV 31 5),
 (oP 32 (.bin .add (.t 31) (.c (.int .i64 1)))),
 (mV 5 32)])))))))
 (.cut (.ops [(mV 21 4),
 (oP 22 (.bin .add (.t 21) (.c (.int .i64 1)))),
 (mV 4 22)])))))))
 (.cut (.seq (.raw (.region 17 #[{ dst := (some 78), op := (.move (.tmp 3)), type := 23, pos := "ref.go:694", after := #[], guard := none }, { dst := (some 79), op := (.move (.tmp 0)), type := 71, pos := "ref.go:694", after := #[], guard := none }, { dst := (some 80), op := (.call { callee := .value (.func 99), args := #[(.tmp 79)], argTypes := #[71] }), type := 70, pos := "ref.go:694", after := #[⟨1, .data⟩], guard := none }, { dst := (some 81), op := (.move (.tmp 0)), type := 71, pos := "ref.go:694", after := #[], guard := none }, { dst := (some 82), op := (.indexAddr 71 (.tmp 81) (.const (.int .i64 0))), type := 0, pos := "ref.go:694", after := #[⟨3, .data⟩], guard := none }, { dst := (some 83), op := (.fieldAddr 25 (.tmp 82) 2), type := 0, pos := "ref.go:694", after := #[⟨4, .data⟩], guard := none }, { dst := (some 84), op := (.load 3 (.tmp 83)), type := 3, pos := "ref.go:694", after := #[⟨5, .data⟩], guard := none }, { dst := (some 85), op := (.call { callee := .value (.func 41), args := #[(.tmp 78), (.tmp 80), (.tmp 84)], argTypes := #[23, 70, 3] }), type := 81, pos := "ref.go:694", after := #[⟨0, .data⟩, ⟨2, .data⟩, ⟨6, .data⟩, ⟨2, .chain⟩], guard := none }, { dst := (some 8), op := (.alloc 81), type := 0, pos := "ref.go:694", after := #[], guard := none }, { dst := none, op := (.store 81 (.tmp 8) (.tmp 85)), type := 0, pos := "ref.go:694", after := #[⟨8, .data⟩, ⟨7, .data⟩, ⟨7, .chain⟩, ⟨0, .phase⟩, ⟨1, .phase⟩, ⟨2, .phase⟩, ⟨3, .phase⟩, ⟨4, .phase⟩, ⟨5, .phase⟩, ⟨6, .phase⟩, ⟨7, .phase⟩, ⟨8, .phase⟩], guard := none }] true))
 (.seq (.seq (.ops [(oP 86 (.fieldAddr 1 (.t 8))),
 (oP 87 (.load false 1 (.t 86))),
 (oP 88 (.bin .neq (.t 87) (.c (.int .i64 0)))),
 (mV 89 88),
 (oG 90 89 false (.fieldAddr 0 (.t 8))),
 (oG 91 89 false (.load false 1 (.t 90))),
 (oG 92 89 false (.mv (.t 0))),
 (oG 93 89 false (.callF 36 [(.t 91), (.t 92)])),
 (oG 94 89 false (.un .not (.t 93))),
 (oP 95 (.pick (.t 89) (.c (.bool true)) (.t 94)))])
 (.cond (.t 95)
 (.seq (.ops [(oP 96 (.build [(.lst 0 [] true), (.int .i64 0)] [(1, 1, (.c (.int .i64 2)))])),
 (oU (.store 2 (.t 2) (.t 96)))])
 .ret)
 .skip))
 (.seq (.ops [(mV 97 3),
 (oP 98 (.build [(.lst 0 [] true), (.int .i64 0)] [(0, 1, (.t 97))])),
 (oU (.store 2 (.t 2) (.t 98)))])
 .ret)))))))))
theorem F43 : FI 43 1 99 7 [.cell 2 99] c43 := ⟨⟨Tryz.f43, Tryz.func43, by kernel_rfl, by kernel_rfl, by kernel_rfl⟩, by kernel_rfl, by decide, by kernel_rfl⟩
/- f7 understory/understorylaw04.PageLists: 96 temporaries, depth 7, 4 parameters, results [t8] -/
def c7 : RC :=
 (.seq (.ops [(oP 8 (.mv (.c (.bool false))))])
 (.seq (.ops [(oP 19 (.callF 9 [])),
 (mV 9 19)])
 (.seq (.seq (.ops [(mV 20 0),
 (oP 21 (.callF 37 [(.t 20)])),
 (oP 22 (.un .not (.t 21))),
 (mV 23 22),
 (oG 24 23 false (.mv (.t 1))),
 (oG 25 23 false (.lenL (.t 24))),
 (oG 26 23 false (.bin .gtr (.t 25) (.c (.int .i64 30)))),
 (oP 27 (.pick (.t 23) (.c (.bool true)) (.t 26))),
 (mV 28 27),
 (oG 29 28 false (.mv (.t 3))),
 (oG 30 28 false (.callF 10 [(.t 29)])),
 (oG 31 28 false (.un .not (.t 30))),
 (oP 32 (.pick (.t 28) (.c (.bool true)) (.t 31)))])
 (.cond (.t 32)
 (.seq (.ops [(mV 33 9),
 (mV 8 33)])
 .ret)
 .skip))
 (.seq (.ops [(mV 35 0),
 (oP 36 (.callF 38 [(.t 35)])),
 (mV 34 36),
 (oP 37 (.extract (.t 34) 0)),
 (oP 38 (.extract (.t 34) 1)),
 (mV 10 37),
 (mV 11 38)])
 (.seq (.ops [(mV 39 0),
 (oP 40 (.callF 39 [(.t 39)])),
 (oP 12 (.alloc 92 [(.int .i64 0), (.int .i64 0)])),
 (oU (.store 2 (.t 12) (.t 40)))])
 (.seq (.ops [(mV 42 0),
 (mV 43 1),
 (mV 44 2),
 (oP 45 (.callF 40 [(.t 42), (.t 43), (.t 44)])),
 (mV 41 45),
 (oP 46 (.extract (.t 41) 0)),
 (oP 47 (.extract (.t 41) 1)),
 (mV 13 46),
 (mV 14 47)])
 (.seq (.ops [(mV 48 0),
 (mV 49 1),
 (mV 50 2),
 (oP 51 (.callF 41 [(.t 48), (.t 49), (.t 50)])),
 (oP 15 (.alloc 81 [(.lst 0 [] true), (.int .i64 0)])),
 (oU (.store 2 (.t 15) (.t 51)))])
 (.seq (.ops [(mV 53 3),
 (oP 54 (.callF 42 [(.t 53)])),
 (mV 52 54),
 (oP 55 (.extract (.t 52) 0)),
 (oP 56 (.extract (.t 52) 1)),
 (mV 16 55),
 (mV 17 56)])
 (.seq (.ops [(mV 57 3),
 (oP 58 (.callF 43 [(.t 57)])),
 (oP 18 (.alloc 99 [(.lst 0 [] true), (.int .i64 0)])),
 (oU (.store 2 (.t 18) (.t 58)))])
 (.seq (.ops [(mV 59 9),
 (mV 60 59),
 (oG 61 60 true (.mv (.t 10))),
 (oG 62 60 true (.fieldAddr 0 (.t 12))),
 (oG 63 60 true (.load false 1 (.t 62))),
 (oG 64 60 true (.bin .eql (.t 61) (.t 63))),
 (oP 65 (.pick (.t 60) (.t 64) (.c (.bool false)))),
 (mV 66 65),
 (oG 67 66 true (.mv (.t 11))),
 (oG 68 66 true (.fieldAddr 1 (.t 12))),
 (oG 69 66 true (.load false 1 (.t 68))),
 (oG 70 66 true (.bin .eql (.t 67) (.t 69))),
 (oP 71 (.pick (.t 66) (.t 70) (.c (.bool false)))),
 (mV 72 71),
 (oG 73 72 true (.mv (.t 13))),
 (oG 74 72 true (.fieldAddr 0 (.t 15))),
 (oG 75 72 true (.load false 1 (.t 74))),
 (oG 76 72 true (.callF 36 [(.t 73), (.t 75)])),
 (oP 77 (.pick (.t 72) (.t 76) (.c (.bool false)))),
 (mV 78 77),
 (oG 79 78 true (.mv (.t 14))),
 (oG 80 78 true (.fieldAddr 1 (.t 15))),
 (oG 81 78 true (.load false 1 (.t 80))),
 (oG 82 78 true (.bin .eql (.t 79) (.t 81))),
 (oP 83 (.pick (.t 78) (.t 82) (.c (.bool false)))),
 (mV 84 83),
 (oG 85 84 true (.mv (.t 16))),
 (oG 86 84 true (.fieldAddr 0 (.t 18))),
 (oG 87 84 true (.load false 1 (.t 86))),
 (oG 88 84 true (.callF 44 [(.t 85), (.t 87)])),
 (oP 89 (.pick (.t 84) (.t 88) (.c (.bool false)))),
 (mV 90 89),
 (oG 91 90 true (.mv (.t 17))),
 (oG 92 90 true (.fieldAddr 1 (.t 18))),
 (oG 93 90 true (.load false 1 (.t 92))),
 (oG 94 90 true (.bin .eql (.t 91) (.t 93))),
 (oP 95 (.pick (.t 90) (.t 94) (.c (.bool false)))),
 (mV 8 95)])
 .ret))))))))))
theorem F7 : FI 7 4 96 7 [.tmp 8] c7 := ⟨⟨Tryz.f7, Tryz.func7, by kernel_rfl, by kernel_rfl, by kernel_rfl⟩, by kernel_rfl, by decide, by kernel_rfl⟩
/- f8 understory/understorylaw04.PageBack: 136 temporaries, depth 8, 6 parameters, results [t12] -/
end Go.Proofs
/- Contracts: the reference's parts of a list. -/
set_option linter.unusedVariables false
set_option linter.unusedSimpArgs false
namespace Go.Proofs
open Go Go.Abs
def takeF (g : Freed) (k : Nat) : Freed := ⟨g.ver, ⟨1, 1 != 0 && (g.sh.c && ((k : Int) == (g.pages.length : Nat)))⟩, g.pages.take k⟩
def dropF (g : Freed) (k : Nat) : Freed := ⟨g.ver, ⟨1, 1 != 0 && (g.sh.c && ((g.pages.length : Int) == (g.pages.length : Nat)))⟩, g.pages.drop k⟩
def restOf (g : Freed) (t : List FP) : List FP := if g.pages = [] then t else g.core :: t
/-- The state of the work. -/
structure PSI (l : List Freed) (hp : AHeap) (Lo P : AV) (ds : List (List Freed × AV)) (fs : List Freed) (room : Nat) (rest : List FP) : Prop where
  r1 : room ≤ 490
  r2 : 12 * fs.length + room ≤ 490
  r3 : fs = [] → room = 490
  pb : PB hp Lo ds
  vb : VBuf tFrd 2 hp P (rowF' fs)
  own : ∀ b, blkQ P = some b → blkQ Lo ≠ some b ∧ ∀ d ∈ ds, blkQ d.2 ≠ some b
  ok : ∀ f ∈ fs, f.Ok
  okd : ∀ d ∈ ds, ∀ f ∈ d.1, f.Ok
  mp : ∀ X, MP (fs.map Freed.core) room rest X → Parts (l.map Freed.core) ((ds.map fun d => d.1.map Freed.core) ++ X)
  wt : ds.length + (if fs = [] then 0 else 1) + wgt rest ≤ wgt (l.map Freed.core)
theorem PSI.start {l : List Freed} {hp : AHeap} : PSI l hp (.lst 0 [] true) (.lst 0 [] true) [] [] 490 (l.map Freed.core) :=
  ⟨Nat.le_refl _, by simp, fun _ => rfl, PB.nil, VBuf.nil, (fun b hb => by cases hb), by simp, by simp, fun X h => MP.parts h, by simp⟩
theorem rowF_len (l : List Freed) : (rowF' l).length = l.length := List.length_map ..
theorem PSI.flush {l : List Freed} {hp : AHeap} {Lo P : AV} {ds : List (List Freed × AV)} {fs : List Freed} {room : Nat} {rest : List FP} (p : PSI l hp Lo P ds fs room rest) (hfs : fs ≠ []) (hl : wgt (l.map Freed.core) < 1048576) :
    ∃ b ver b2 ver2 hp', P = .sl 2 b ver 0 fs.length ∧ appR hp 23 1 Lo (.lst 1 [P] true) = some (.sl 1 b2 ver2 0 (ds.length + 1), some hp') ∧ PB hp' (.sl 1 b2 ver2 0 (ds.length + 1)) (ds ++ [(fs, P)]) ∧ (∀ d ∈ ds ++ [(fs, P)], ∀ f ∈ d.1, f.Ok) := by
  obtain ⟨b, ver, hP⟩ : ∃ b ver, P = .sl 2 b ver 0 fs.length := by
    rcases p.vb.2 with ⟨_, h⟩ | ⟨b, ver, f, h, _⟩
    · exact (hfs (by simpa [rowF'] using h)).elim
    · rw [rowF_len] at h; exact ⟨b, ver, h⟩
  have hw := p.wt
  rw [if_neg hfs] at hw
  obtain ⟨b2, ver2, hp', ea, pb', hle⟩ := p.pb.push fs p.vb (fun b hb => (p.own b hb).1) (by omega)
  refine ⟨b, ver, b2, ver2, hp', hP, ea, pb', fun d hd => ?_⟩
  rw [List.mem_append, List.mem_singleton] at hd
  rcases hd with hd | rfl
  · exact p.okd d hd
  · exact p.ok
theorem PSI.turn {l : List Freed} {hp hp' : AHeap} {Lo P Lo' : AV} {ds : List (List Freed × AV)} {fs : List Freed} {room : Nat} {rest : List FP} (p : PSI l hp Lo P ds fs room rest) (hr : room < 12) (hfs : fs ≠ []) (pb' : PB hp' Lo' (ds ++ [(fs, P)])) (ok' : ∀ d ∈ ds ++ [(fs, P)], ∀ f ∈ d.1, f.Ok) : PSI l hp' Lo' (.lst 0 [] true) (ds ++ [(fs, P)]) [] 490 rest := by
  have hw := p.wt
  rw [if_neg hfs] at hw
  refine ⟨Nat.le_refl _, by simp, fun _ => rfl, pb', VBuf.nil, (fun b hb => by cases hb), by simp, ok', fun X h => ?_, ?_⟩
  · have := p.mp _ (MP.flush hr (by simpa using hfs) h)
    simpa using this
  · simp only [List.length_append, List.length_cons, List.length_nil, if_true]
    omega
theorem PSI.add {l : List Freed} {hp : AHeap} {Lo P : AV} {ds : List (List Freed × AV)} {fs : List Freed} {room : Nat} {t : List FP} {g : Freed} (p : PSI l hp Lo P ds fs room (restOf g t)) (hr : ¬ room < 12) (hne : g.pages ≠ []) {k : Nat} (hk : min ((room - 8) / 4) g.pages.length = k) :
    ∃ P' hp', appR hp tFrd 2 P (.lst 2 [.agg (takeF g k).cells] true) = some (P', some hp') ∧ PSI l hp' Lo P' ds (fs ++ [takeF g k]) (room - (8 + 4 * k)) (restOf (dropF g k) t) := by
  have hlen : 0 < g.pages.length := by
    cases hc : g.pages with
    | nil => exact (hne hc).elim
    | cons => simp
  have hd : (room - 8) / 4 ≤ room - 8 := Nat.div_le_self _ _
  have hr1 := p.r1
  have hr2 := p.r2
  have hrest : restOf g t = g.core :: t := if_neg hne
  obtain ⟨b, ver, hp', ea, vb', hle, hkp, hb⟩ := app_far (x := .lst 2 [.agg (takeF g k).cells] true) p.vb rfl (first_agg _ rfl rfl) ⟨rfl, rfl⟩ (by rw [rowF_len]; omega)
  refine ⟨_, hp', ea, ⟨by omega, by simp only [List.length_append, List.length_cons, List.length_nil]; omega, fun e => by simp at e, p.pb.keep fun j hj => hkp j (p.pb.lt hj) (fun e => ?_), ?_, fun j hj => ?_, fun f hf => ?_, p.okd, fun X h => p.mp X ?_, ?_⟩⟩
  · obtain ⟨q1, q2⟩ := p.own j e
    rcases hj with hj | ⟨d, hd, hj⟩
    · exact q1 hj
    · exact q2 d hd hj
  · have e : rowF' (fs ++ [takeF g k]) = rowF' fs ++ [(takeF g k).cells] := by simp [rowF']
    rw [e]
    exact vb'
  · cases hj
    rcases hb with h | h
    · exact p.own b h
    · refine ⟨fun e => ?_, fun d hd e => ?_⟩
      · have := p.pb.lt (.inl e)
        omega
      · have := p.pb.lt (.inr ⟨d, hd, e⟩)
        omega
  · rw [List.mem_append, List.mem_singleton] at hf
    rcases hf with hf | rfl
    · exact p.ok f hf
    · exact fun _ => rfl
  · rw [hrest]
    rw [List.map_append, List.map_cons, List.map_nil] at h
    by_cases hlt : (room - 8) / 4 < g.pages.length
    · have hkk : (room - 8) / 4 = k := by omega
      have hdn : g.pages.drop k ≠ [] := fun e => by
        have := congrArg List.length e
        rw [List.length_drop, List.length_nil] at this
        omega
      rw [show restOf (dropF g k) t = (g.ver, g.pages.drop k) :: t from if_neg hdn] at h
      refine MP.part (v := g.ver) (ps := g.pages) hr hlt ?_
      rw [hkk]
      exact h
    · have hkk : g.pages.length = k := by omega
      have hdn : g.pages.drop k = [] := List.drop_of_length_le (by omega)
      rw [show restOf (dropF g k) t = t from if_pos hdn] at h
      refine MP.whole (v := g.ver) (ps := g.pages) hr hlt ?_
      have e1 : (takeF g k).core = (g.ver, g.pages) := by
        unfold takeF Freed.core
        simp only
        rw [List.take_of_length_le (by omega)]
      rw [e1] at h
      rw [hkk]
      exact h
  · have hw := p.wt
    rw [hrest] at hw
    have e1 : wgt (g.core :: t) = g.pages.length + 1 + wgt t := by simp [wgt, Freed.core]
    rw [e1] at hw
    rw [if_neg (by simp)]
    by_cases hdn : g.pages.drop k = []
    · rw [show restOf (dropF g k) t = t from if_pos hdn]
      split at hw <;> omega
    · rw [show restOf (dropF g k) t = (g.ver, g.pages.drop k) :: t from if_neg hdn]
      have e2 : wgt ((g.ver, g.pages.drop k) :: t) = (g.pages.length - k) + 1 + wgt t := by simp [wgt]
      rw [e2]
      split at hw <;> omega
theorem PB.partsS {l : List Freed} {hp : AHeap} {L : AV} {ds : List (List Freed × AV)} (p : PB hp L ds) (ok : ∀ d ∈ ds, ∀ f ∈ d.1, f.Ok) (hP : Parts (l.map Freed.core) (ds.map fun d => d.1.map Freed.core)) (n : Nat) : ∃ v, Abs.frz hp (n + 4) L = some v ∧ PartsS (l.map Freed.core) (.ret v) := by
  obtain ⟨sh, e1, e2⟩ := p.frz n
  refine ⟨_, e1, ⟨ds.map toP, sh, rfl, ?_, fun x hx => ?_, fun q => e2 fun e => q (by rw [e]; rfl)⟩⟩
  · rw [List.map_map]
    exact hP
  · obtain ⟨d, hd, rfl⟩ := List.mem_map.1 hx
    exact ⟨((p.val d hd).frzF 0).2, ok d hd⟩
section
variable {n : Nat} {h : AHeap}
set_option maxRecDepth 10000 in
theorem refParts_eq (hn : 1 ≤ n) (l : List Freed) (hl : l.length < 1048576) (hf : ∀ f ∈ l, f.Ok ∧ f.pages.length < 1048576) (hne : ∀ f ∈ l, f.pages ≠ []) (hw : wgt (l.map Freed.core) < 1048576) (sz : Nat) (hz : l ≠ [] → sz = 2) (c : Bool) : ∃ r, (∀ h, C n 101 [.lst sz (l.map Freed.av) c] h = some (r, h)) ∧ PartsS (l.map Freed.core) r := by
  obtain ⟨m, rfl⟩ : ∃ m, n = m + 1 := ⟨n - 1, by omega⟩
  refine fun_pureX F101 rfl rfl rfl (pure_lst freed_pure l rfl) ?_
  conv => whnf
  refine loopI (by decide) rfl (α := Nat × Nat × AV × AV × AHeap × List (List Freed × AV) × List Freed) (fun x => ⟨[(0, .lst sz (l.map Freed.av) c), (3, x.2.2.1), (4, x.2.2.2.1), (5, i64 x.2.1), (6, i64 x.1)], x.2.2.2.2.1, []⟩)
    (fun x => x.1 ≤ l.length ∧ PSI l x.2.2.2.2.1 x.2.2.1 x.2.2.2.1 x.2.2.2.2.2.1 x.2.2.2.2.2.2 x.2.1 ((l.drop x.1).map Freed.core)) (fun x => l.length - x.1) (0, 490, .lst 0 [] true, .lst 0 [] true, [], [], []) ⟨⟨rfl, rfl, rfl, rfl, rfl⟩, rfl, rfl⟩ ⟨Nat.zero_le _, PSI.start⟩ (by show l.length - 0 < KK; simp only [KK]; omega) ?_
  rintro ⟨i, room, Lo, P, hp, ds, fs⟩ ⟨g1, g2⟩
  simp only at g1 g2
  conv => whnf
  refine brd (fun a => ?_) (fun a => ?_)
  · have hi : i < l.length := by simp only [List.length_map] at a; omega
    have hdr : l.drop i = l[i] :: l.drop (i + 1) := List.drop_eq_getElem_cons hi
    have hr0 : (l.drop i).map Freed.core = restOf l[i] ((l.drop (i + 1)).map Freed.core) := by
      rw [hdr, List.map_cons]
      exact (if_neg (hne _ (List.getElem_mem hi))).symm
    rw [hr0] at g2
    conv => whnf
    refine ixL freed_cells hi hz ?_
    conv => whnf
    refine loopI (by decide) rfl (α := Freed × Nat × AV × AV × AHeap × List (List Freed × AV) × List Freed) (fun x => ⟨[(0, .lst sz (l.map Freed.av) c), (3, x.2.2.1), (4, x.2.2.2.1), (5, i64 x.2.1), (6, i64 i), (7, .lst x.1.sh.sz (x.1.pages.map i64) x.1.sh.c)], x.2.2.2.2.1, []⟩)
      (fun x => (x.1.Ok ∧ x.1.ver = l[i].ver ∧ x.1.pages.length < 1048576) ∧ PSI l x.2.2.2.2.1 x.2.2.1 x.2.2.2.1 x.2.2.2.2.2.1 x.2.2.2.2.2.2 x.2.1 (restOf x.1 ((l.drop (i + 1)).map Freed.core))) (fun x => 2 * x.1.pages.length + (if x.2.1 < 12 then 1 else 0)) (l[i], room, Lo, P, hp, ds, fs) ⟨⟨rfl, rfl, rfl, rfl, rfl, rfl⟩, rfl, rfl⟩ ⟨⟨(hf _ (List.getElem_mem hi)).1, rfl, (hf _ (List.getElem_mem hi)).2⟩, g2⟩ (by
        have := (hf _ (List.getElem_mem hi)).2
        show 2 * l[i].pages.length + (if room < 12 then 1 else 0) < KK
        simp only [KK]
        split <;> omega) ?_
    rintro ⟨g, room, Lo, P, hp, ds, fs⟩ ⟨⟨k1, k2, k3⟩, k4⟩
    simp only at k1 k2 k3 k4
    have hrm := k4.r1
    have hqb := quo8 hrm
    conv => whnf
    refine brd (fun b => ?_) (fun b => ?_)
    · have hgl : g.pages ≠ [] := by
        rintro e
        rw [e] at b
        simp at b
      by_cases hb : room < 12
      · have hfs : fs ≠ [] := fun e => by have := k4.r3 e; omega
        obtain ⟨b1, v1, b2, v2, hp', hP, ea, pb', ok'⟩ := k4.flush hfs hw
        subst hP
        have ps' := k4.turn hb hfs pb' ok'
        conv => whnf
        refine zI (z := (room : Int) - 8) (wrap_i64 (by simp only; omega) (by simp only; omega)) ?_
        conv => whnf
        refine ⟨by decide, ((room : Int) - 8).tdiv 4, wrap_i64 (by omega) (by omega), ?_⟩
        conv => whnf
        refine ⟨_, rfl, ?_⟩
        conv => whnf
        refine brd (fun _ => ?_) (fun b => absurd (by simp only; omega) b)
        conv => whnf
        refine ⟨rfl, ?_⟩
        conv => whnf
        refine apI ea ?_
        conv => whnf
        exact nxI (g, 490, _, .lst 0 [] true, hp', _, []) ⟨⟨k1, k2, k3⟩, ps'⟩ (by simp only; rw [if_pos hb, if_neg (by decide)]; omega) ⟨⟨rfl, rfl, rfl, rfl, rfl, rfl⟩, rfl, rfl⟩
      · obtain ⟨k, hkd⟩ : ∃ k, min ((room - 8) / 4) g.pages.length = k := ⟨_, rfl⟩
        have hk : (room - 8) / 4 ≤ room - 8 := Nat.div_le_self _ _
        have hlen : 0 < g.pages.length := by
          cases hc : g.pages with
          | nil => exact (hgl hc).elim
          | cons => simp
        have hk1 : 1 ≤ k := by omega
        have hk2 : k ≤ g.pages.length := by omega
        have hk3 : 8 + 4 * k ≤ room := by omega
        obtain ⟨P', hp', ea, ps'⟩ := k4.add hb hgl hkd
        have hv : (takeF g k).cells = [i64 l[i].ver, .lst 1 ((g.pages.take k).map i64) (1 != 0 && (g.sh.c && ((k : Int) == (g.pages.length : Nat))))] := by
          rw [← k2]; rfl
        rw [hv] at ea
        conv => whnf
        refine zI (z := (room : Int) - 8) (wrap_i64 (by simp only; omega) (by simp only; omega)) ?_
        conv => whnf
        refine ⟨by decide, ((room : Int) - 8).tdiv 4, wrap_i64 (by omega) (by omega), ?_⟩
        conv => whnf
        refine ⟨(k : Int), by rw [quo8' (by omega), List.length_map]; simp only [cond_false]; split <;> omega, ?_⟩
        conv => whnf
        refine brd (fun b => absurd b (by simp only; omega)) (fun _ => ?_)
        conv => whnf
        refine ixL freed_cells hi hz ?_
        conv => whnf
        refine slI (sl_hi i64 g.pages k1 g.sh.c k hk2) ?_
        conv => whnf
        refine ⟨rfl, ?_⟩
        conv => whnf
        refine apI ea ?_
        conv => whnf
        refine ⟨?_, ?_⟩
        · repeat' first | ((conv => whnf) <;> done) | ((conv => whnf) <;> (first | exact slI (sl_hi i64 g.pages k1 g.sh.c k hk2) rfl | exact ixL freed_cells hi hz rfl | refine ⟨?_, ?_⟩))
        conv => whnf
        refine slI (sl_lo i64 g.pages k1 g.sh.c k hk2) ?_
        conv => whnf
        refine zI (z := (room : Int) - 8) (wrap_i64 (by simp only; omega) (by simp only; omega)) ?_
        conv => whnf
        refine zI (z := ((4 * k : Nat) : Int)) (by rw [wrap_i64 (by omega) (by omega)]; omega) ?_
        conv => whnf
        refine zI (z := ((room - (8 + 4 * k) : Nat) : Int)) (by rw [wrap_i64 (by omega) (by omega)]; omega) ?_
        refine nxI (dropF g k, room - (8 + 4 * k), Lo, P', hp', ds, fs ++ [takeF g k]) ⟨⟨fun _ => rfl, k2, ?_⟩, ps'⟩ ?_ ⟨⟨rfl, rfl, rfl, rfl, rfl, rfl⟩, rfl, rfl⟩
        · show (g.pages.drop k).length < 1048576
          rw [List.length_drop]; omega
        · show 2 * (g.pages.drop k).length + (if room - (8 + 4 * k) < 12 then 1 else 0) < 2 * g.pages.length + (if room < 12 then 1 else 0)
          rw [List.length_drop, if_neg hb]
          split <;> omega
    · have hgl : g.pages = [] := by
        cases hc : g.pages with
        | nil => rfl
        | cons => rw [hc] at b; simp at b
      rw [show restOf g ((l.drop (i + 1)).map Freed.core) = (l.drop (i + 1)).map Freed.core from if_pos hgl] at k4
      conv => whnf
      refine cutI (by decide) rfl (t := ⟨[(0, .lst sz (l.map Freed.av) c), (3, Lo), (4, P), (5, i64 room), (6, i64 i)], hp, []⟩) ⟨⟨rfl, rfl, rfl, rfl, rfl⟩, rfl, rfl⟩ ?_
      conv => whnf
      refine zI (z := ((i + 1 : Nat) : Int)) (by rw [wrap_i64 (by omega) (by omega)]; rfl) ?_
      exact nxI (i + 1, room, Lo, P, hp, ds, fs) ⟨hi, k4⟩ (by simp only; omega) ⟨⟨rfl, rfl, rfl, rfl, rfl⟩, rfl, rfl⟩
  · have hi : i = l.length := by simp only [List.length_map] at a; omega
    subst hi
    rw [List.drop_length] at g2
    have hmp := g2.mp _ MP.done
    conv => whnf
    refine cutI (by decide) rfl (t := ⟨[(3, Lo), (4, P)], hp, []⟩) ⟨⟨rfl, rfl⟩, rfl, rfl⟩ ?_
    by_cases hfs : fs = []
    · subst hfs
      obtain ⟨v, e1, e2⟩ := g2.pb.partsS g2.okd (by simpa using hmp) 60
      rcases g2.vb.2 with ⟨rfl, _⟩ | ⟨eb, ver, f, rfl, _⟩
      · conv => whnf
        exact ⟨_, rfl, _, ⟨_, e1, rfl⟩, e2⟩
      · conv => whnf
        exact ⟨_, rfl, _, ⟨_, e1, rfl⟩, e2⟩
    · obtain ⟨b1, v1, b2, v2, hp', hP, ea, pb', ok'⟩ := g2.flush hfs hw
      subst hP
      rw [if_neg (by simpa using hfs)] at hmp
      obtain ⟨v, e1, e2⟩ := pb'.partsS ok' (by simpa using hmp) 60
      have hlen : 0 < fs.length := List.length_pos_iff.2 hfs
      conv => whnf
      refine brd (fun _ => ?_) (fun q => absurd (by omega) q)
      conv => whnf
      refine ⟨rfl, ?_⟩
      conv => whnf
      refine apI ea ?_
      conv => whnf
      exact ⟨_, rfl, _, ⟨_, e1, rfl⟩, e2⟩
end
end Go.Proofs
/- Contracts: the reference's weights, and what fits. -/
set_option linter.unusedVariables false
set_option linter.unusedSimpArgs false
namespace Go.Proofs
open Go Go.Abs
section
variable {n : Nat} {h : AHeap}
end
end Go.Proofs
/- Contracts: the reference's lists of freed pages. -/
set_option linter.unusedVariables false
set_option linter.unusedSimpArgs false
namespace Go.Proofs
open Go Go.Abs
section
variable {n : Nat} {h : AHeap}
theorem refpgs_loop {m : Nat} (hm : 1 ≤ m) (l : List Int) (hl : l.length < 9223372036854775808) (sz : Nat) (hz : l ≠ [] → sz = 1) (c : Bool) (f : Freed) (hf : f = ⟨f.ver, ⟨sz, c⟩, l⟩) {hp : AHeap} {E : Nat} (hE0 : hp[E]? = some (.cells 0 (some 165) f.cells 0)) {Q : Ex → LS → Prop} {s : LS} (v0 v3 : AV)
    (hs : LS.sub ⟨[(0, v0), (3, v3), (4, .ptr E 0 0), (5, i64 0)], hp, []⟩ s)
    (hE : pgsOk l = true → ∀ L, subL [(0, v0), (3, v3)] L → Q (.exit 2) ⟨L, hp, []⟩) (hR : pgsOk l = false → ∀ L, lk L 2 = some (.bool false) → Q .ret ⟨L, hp, []⟩) :
    OkR Tryz.prog (C m) cfg0.inl KK 77 7 (.loop (c53.lp 1)) s Q := by
  refine loopI (by decide) rfl (α := Nat) (fun x => ⟨[(0, v0), (3, v3), (4, .ptr E 0 0), (5, i64 x)], hp, []⟩) (fun x => x ≤ l.length ∧ ∀ i, i < x → pgAt l i = true) (fun x => l.length - x) 0 hs ⟨Nat.zero_le _, fun i hi => absurd hi (Nat.not_lt_zero _)⟩ (by show l.length - 0 < KK; simp only [KK]; omega) ?_
  rintro j ⟨g1, g2⟩
  have e0 : f.cells = [i64 f.ver, .lst sz (l.map i64) c] := by rw [hf]; rfl
  rw [e0] at hE0
  conv => whnf
  refine ldI hE0 ?_
  conv => whnf
  refine brd (fun a => ?_) (fun a => ?_)
  · have hj : j < l.length := by rw [List.length_map] at a; omega
    conv => whnf
    refine ldI hE0 ?_
    conv => whnf
    refine ⟨by omega, hz (fun e => by subst e; simp at hj), i64 l[j], by simp [hj], [i64 l[j]], rfl, ?_⟩
    conv => whnf
    refine clI (isPage_eq (by omega) _) ?_
    conv => whnf
    refine brn (fun b => ?_) (fun b => ?_)
    · conv => whnf
      exact hR (all_bad hj (by rw [pgAt_unf hj]; simp [b])) _ rfl
    · conv => whnf
      refine brd (fun d => ?_) (fun d => ?_)
      · have hj1 : j - 1 < l.length := by omega
        have hj0 : j ≠ 0 := by omega
        conv => whnf
        refine ldI hE0 ?_
        conv => whnf
        refine ⟨by omega, hz (fun e => by subst e; simp at hj), i64 l[j], by simp [hj], [i64 l[j]], rfl, ?_⟩
        conv => whnf
        refine ldI hE0 ?_
        conv => whnf
        refine zI (z := ((j - 1 : Nat) : Int)) (by rw [wrap_i64 (by omega) (by omega)]; omega) ?_
        conv => whnf
        refine ⟨by omega, hz (fun e => by subst e; simp at hj), i64 l[j - 1], by simp [hj1], [i64 l[j - 1]], rfl, ?_⟩
        conv => whnf
        refine brd (fun e => ?_) (fun e => ?_)
        · conv => whnf
          exact hR (all_bad hj (by rw [pgAt_unf hj]; simp [hj0]; omega)) _ rfl
        · conv => whnf
          refine zI (z := ((j + 1 : Nat) : Int)) (by rw [wrap_i64 (by omega) (by omega)]; rfl) ?_
          exact nxI (j + 1) ⟨hj, all_next g2 (by rw [pgAt_unf hj]; simp [b]; omega)⟩ (by omega) ⟨⟨rfl, rfl, rfl, rfl⟩, rfl, rfl⟩
      · have hj0 : j = 0 := by omega
        conv => whnf
        refine zI (z := ((j + 1 : Nat) : Int)) (by rw [wrap_i64 (by omega) (by omega)]; rfl) ?_
        exact nxI (j + 1) ⟨hj, all_next g2 (by rw [pgAt_unf hj, b]; simp [hj0])⟩ (by omega) ⟨⟨rfl, rfl, rfl, rfl⟩, rfl, rfl⟩
  · have hj : j = l.length := by rw [List.length_map] at a; omega
    subst hj
    conv => whnf
    exact hE (all_good g2) _ ⟨rfl, rfl⟩
theorem refFreed_eq (hn : 2 ≤ n) (l : List Freed) (hl : l.length < 1048576) (hf : ∀ f ∈ l, f.Ok ∧ f.pages.length < 9223372036854775808) (sz : Nat) (hz : l ≠ [] → sz = 2) (c : Bool) : C n 53 [.lst sz (l.map Freed.av) c] h = some (.ret (.bool (freedOk l)), h) := by
  obtain ⟨m, rfl⟩ : ∃ m, n = m + 1 := ⟨n - 1, by omega⟩
  refine fun_pure F53 rfl rfl rfl (pure_lst freed_pure l rfl) ?_
  conv => whnf
  refine loopI (by decide) rfl (α := Nat × AHeap) (fun x => ⟨[(0, .lst sz (l.map Freed.av) c), (3, i64 x.1)], x.2, []⟩) (fun x => x.1 ≤ l.length ∧ ∀ i, i < x.1 → frAt l i = true) (fun x => l.length - x.1) (0, []) ⟨⟨rfl, rfl⟩, rfl, rfl⟩ ⟨Nat.zero_le _, fun i hi => absurd hi (Nat.not_lt_zero _)⟩ (by show l.length - 0 < KK; simp only [KK]; omega) ?_
  rintro ⟨j, hp⟩ ⟨g1, g2⟩
  simp only at g1 g2
  conv => whnf
  refine brd (fun a => ?_) (fun a => ?_)
  · have hj : j < l.length := by simp only [List.length_map] at a; omega
    obtain ⟨k1, k2⟩ := hf _ (List.getElem_mem hj)
    conv => whnf
    refine ixL freed_cells hj hz ?_
    conv => whnf
    refine stI (get_last _ _) (by rfl) (by rfl) (by rfl) (by rfl) ?_
    conv => whnf
    refine ldI (get_set_last _ _ _) ?_
    conv => whnf
    refine brd (fun v1 => ?_) (fun v1 => ?_)
    · have v' : within l[j].ver 0 1099511627776 = false := by simp [within]; omega
      conv => whnf
      exact retP rfl (frz_bool (all_bad hj (by rw [frAt_unf hj]; simp [v'])).symm)
    conv => whnf
    refine ldI (get_set_last _ _ _) ?_
    conv => whnf
    refine brd (fun v2 => ?_) (fun v2 => ?_)
    · have v' : within l[j].ver 0 1099511627776 = false := by simp [within]; omega
      conv => whnf
      exact retP rfl (frz_bool (all_bad hj (by rw [frAt_unf hj]; simp [v'])).symm)
    have W : within l[j].ver 0 1099511627776 = true := within_iff.2 (by omega)
    conv => whnf
    refine brd (fun b => ?_) (fun b => ?_)
    · have hj1 : j - 1 < l.length := by simp only at b; omega
      have hj0 : j ≠ 0 := by simp only at b; omega
      conv => whnf
      refine ldI (get_set_last _ _ _) ?_
      conv => whnf
      refine zI (z := ((j - 1 : Nat) : Int)) (by simp only at b; rw [wrap_i64 (by simp only; omega) (by simp only; omega)]; simp only; omega) ?_
      conv => whnf
      refine ixL (l := l) (j := j - 1) freed_cells hj1 hz ?_
      conv => whnf
      refine brd (fun e => ?_) (fun e => ?_)
      · have e' : ¬ l[j - 1].ver < l[j].ver := by omega
        conv => whnf
        exact retP rfl (frz_bool (all_bad hj (by rw [frAt_unf hj]; simp [e', hj0])).symm)
      · have hord : (decide (j = 0) || decide (l[j - 1].ver < l[j].ver)) = true := by simp; omega
        conv => whnf
        refine ldI (get_set_last _ _ _) ?_
        conv => whnf
        refine bre (fun d => ?_) (fun d => ?_)
        · have d' : l[j].pages = [] := List.length_eq_zero_iff.1 (by rw [List.length_map] at d; omega)
          conv => whnf
          exact retP rfl (frz_bool (all_bad hj (by rw [frAt_unf hj]; simp [d'])).symm)
        · have d' : l[j].pages ≠ [] := by
            intro q
            rw [q] at d
            exact d rfl
          conv => whnf
          refine refpgs_loop (by omega) l[j].pages k2 l[j].sh.sz k1 l[j].sh.c l[j] rfl (get_set_last _ _ _) (.lst sz (l.map Freed.av) c) (i64 j) ⟨⟨rfl, rfl, rfl, rfl⟩, rfl, rfl⟩ (fun q L hL => ?_) (fun q L hk => ?_)
          · refine cutI (by decide) rfl (t := ⟨[(0, .lst sz (l.map Freed.av) c), (3, i64 j)], _, []⟩) ⟨hL, rfl, rfl⟩ ?_
            conv => whnf
            refine zI (z := ((j + 1 : Nat) : Int)) (by rw [wrap_i64 (by omega) (by omega)]; rfl) ?_
            refine nxI (j + 1, _) ⟨hj, all_next g2 (by rw [frAt_unf hj, q, W, hord]; simp [d'])⟩ (by simp only; omega) ⟨⟨rfl, rfl⟩, rfl, rfl⟩
          · exact retK hk (frz_bool (all_bad hj (by rw [frAt_unf hj, q]; simp)).symm)
    · have hj0 : j = 0 := by simp only at b; omega
      have hord : (decide (j = 0) || decide (l[j - 1].ver < l[j].ver)) = true := by simp [hj0]
      conv => whnf
      refine ldI (get_set_last _ _ _) ?_
      conv => whnf
      refine bre (fun d => ?_) (fun d => ?_)
      · have d' : l[j].pages = [] := List.length_eq_zero_iff.1 (by rw [List.length_map] at d; omega)
        conv => whnf
        exact retP rfl (frz_bool (all_bad hj (by rw [frAt_unf hj]; simp [d'])).symm)
      · have d' : l[j].pages ≠ [] := by
          intro q
          rw [q] at d
          exact d rfl
        conv => whnf
        refine refpgs_loop (by omega) l[j].pages k2 l[j].sh.sz k1 l[j].sh.c l[j] rfl (get_set_last _ _ _) (.lst sz (l.map Freed.av) c) (i64 j) ⟨⟨rfl, rfl, rfl, rfl⟩, rfl, rfl⟩ (fun q L hL => ?_) (fun q L hk => ?_)
        · refine cutI (by decide) rfl (t := ⟨[(0, .lst sz (l.map Freed.av) c), (3, i64 j)], _, []⟩) ⟨hL, rfl, rfl⟩ ?_
          conv => whnf
          refine zI (z := ((j + 1 : Nat) : Int)) (by rw [wrap_i64 (by omega) (by omega)]; rfl) ?_
          refine nxI (j + 1, _) ⟨hj, all_next g2 (by rw [frAt_unf hj, q, W, hord]; simp [d'])⟩ (by simp only; omega) ⟨⟨rfl, rfl⟩, rfl, rfl⟩
        · exact retK hk (frz_bool (all_bad hj (by rw [frAt_unf hj, q]; simp)).symm)
  · have hj : j = l.length := by simp only [List.length_map] at a; omega
    subst hj
    conv => whnf
    refine cutI (by decide) rfl (t := ⟨[], hp, []⟩) ⟨trivial, rfl, rfl⟩ ?_
    conv => whnf
    exact retP rfl (frz_bool (all_good g2).symm)
end
end Go.Proofs
