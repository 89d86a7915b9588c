/- Texts put together: Pa, Pb, Gb, Nf, Ng, Nh, La, Ha, Wf, Wg, Gc, Wr0, Wr. -/
import Derived.Test.YtfddiediieblhaaGreatBac9
import Derived.Test.YtfddiediieblhaaGreatBac8
import Derived.Test.YtfddiediieblhaaGreatBac7
/- Contracts: shared prefixes and sizes. -/
set_option linter.unusedVariables false
set_option linter.unusedSimpArgs false
namespace Go.Proofs
open Go Go.Abs
/-- How long the common prefix is. -/
def cp : Str → Str → Nat
  | a :: x, b :: y => if a = b then cp x y + 1 else 0
  | _, _ => 0
theorem cp_le : ∀ (x y : Str), cp x y ≤ x.length ∧ cp x y ≤ y.length
  | [], _ => by simp [cp]
  | _ :: _, [] => by simp [cp]
  | a :: x, b :: y => by
    have := cp_le x y
    simp only [cp, List.length_cons]
    split <;> omega
theorem cp_next : ∀ (x y : Str) (n : Nat) (hx : n < x.length) (hy : n < y.length), x[n] = y[n] → cp x y = n + cp (x.drop n) (y.drop n) → cp x y = n + 1 + cp (x.drop (n + 1)) (y.drop (n + 1)) := fun x y n hx hy he h => by
  rw [h, List.drop_eq_getElem_cons hx, List.drop_eq_getElem_cons hy]
  simp [cp, he]
  omega
theorem cp_stop (x y : Str) (n : Nat) (hx : n < x.length) (hy : n < y.length) (he : x[n] ≠ y[n]) (h : cp x y = n + cp (x.drop n) (y.drop n)) : cp x y = n := by
  rw [h, List.drop_eq_getElem_cons hx, List.drop_eq_getElem_cons hy]
  simp [cp, he]
theorem cp_end (x y : Str) (n : Nat) (hn : x.length ≤ n ∨ y.length ≤ n) (h : cp x y = n + cp (x.drop n) (y.drop n)) : cp x y = n := by
  rw [h]
  rcases hn with hn | hn
  · rw [List.drop_of_length_le hn]; simp [cp]
  · rw [List.drop_of_length_le hn]
    cases x.drop n <;> simp [cp]
section
variable {n : Nat} {h : AHeap}
theorem u8_eq (a b : UInt8) : (((a.toNat : Int)) == ((b.toNat : Int))) = decide (a = b) := eq_u8 a b
theorem cprefix_eq (hn : 1 ≤ n) (x y : Str) (hx : x.length < 1099511627776) (hy : y.length < 1099511627776) : C n 140 [.str x, .str y] h = some (.ret (i64 (cp x y)), h) := by
  obtain ⟨m, rfl⟩ : ∃ m, n = m + 1 := ⟨n - 1, by omega⟩
  refine fun_pure F140 rfl rfl rfl rfl ?_
  conv => whnf
  refine loopI (by decide) rfl (α := Nat) (fun k => ⟨[(0, .str x), (1, .str y), (5, i64 k)], [], []⟩) (fun k => (k ≤ x.length ∧ k ≤ y.length) ∧ cp x y = k + cp (x.drop k) (y.drop k)) (fun k => x.length - k) 0 ⟨⟨rfl, rfl, rfl⟩, rfl, rfl⟩ (by simp) (by show x.length - 0 < KK; simp only [KK]; omega) ?_
  rintro k ⟨⟨k1, k2⟩, k3⟩
  have hmin : (if ((y.length : Nat) : Int) < ((x.length : Nat) : Int) then ((y.length : Nat) : Int) else ((x.length : Nat) : Int)) = ((min x.length y.length : Nat) : Int) := by
    split <;> omega
  conv => whnf
  refine ⟨_, hmin, ?_⟩
  conv => whnf
  refine brd (fun a => ?_) (fun a => ?_)
  · have hkx : k < x.length := by omega
    have hky : k < y.length := by omega
    conv => whnf
    refine strI (b := x[k]) (by omega) (by rw [Int.toNat_natCast]; exact List.getElem?_eq_getElem hkx) ?_
    conv => whnf
    refine strI (b := y[k]) (by omega) (by rw [Int.toNat_natCast]; exact List.getElem?_eq_getElem hky) ?_
    have e := u8_eq x[k] y[k]
    conv => whnf
    refine br (fun b => ?_) (fun b => ?_)
    · have b' : x[k] = y[k] := by simpa using e.symm.trans b
      conv => whnf
      refine zI (z := ((k + 1 : Nat) : Int)) (by rw [wrap_i64 (by omega) (by omega)]; rfl) ?_
      exact nxI (k + 1) ⟨⟨hkx, hky⟩, cp_next x y k hkx hky b' k3⟩ (by omega) ⟨⟨rfl, rfl, rfl⟩, rfl, rfl⟩
    · have b' : x[k] ≠ y[k] := by simpa using e.symm.trans b
      conv => whnf
      refine cutI (by decide) rfl (t := ⟨[(5, i64 k)], [], []⟩) ⟨rfl, rfl, rfl⟩ ?_
      conv => whnf
      exact retP rfl (frz_int (by rw [cp_stop x y k hkx hky b' k3]))
  · conv => whnf
    refine cutI (by decide) rfl (t := ⟨[(5, i64 k)], [], []⟩) ⟨rfl, rfl, rfl⟩ ?_
    conv => whnf
    exact retP rfl (frz_int (by rw [cp_end x y k (by omega) k3]))

/-- The shared prefix. -/
def pre2 (p k : Str) : Str := p.take (cp p k)
def tailE (l : List Entry) (lv : Int) : List Entry := if 0 < lv then l.drop 1 else l
def shared (l : List Entry) (lv : Int) : Str := ((tailE l lv).drop 1).foldl (fun p e => pre2 p e.key) ((tailE l lv).headD default).key

theorem shared_loop {m : Nat} (hm : 1 ≤ m) (l : List Entry) (hl : l.length < 1099511627776) (he : ∀ e ∈ l, e.Ok) (p0 : Str) (hp0 : p0.length < 1099511627776) (sz : Nat) (hz : l ≠ [] → sz = 22) (c : Bool) {Q : Ex → LS → Prop} {s : LS}
    (hs : LS.sub ⟨[(5, .str p0), (17, .lst sz (l.map Entry.av) c), (18, i64 l.length), (19, i64 0)], [], []⟩ s) (hE : ∀ L hp, lk L 5 = some (.str (l.foldl (fun p e => pre2 p e.key) p0)) → Q (.exit 0) ⟨L, hp, []⟩) :
    OkR Tryz.prog (C m) cfg0.inl KK 31 6 (.loop (c104.lp 0)) s Q := by
  refine loopI (by decide) rfl (α := Nat × Str × AHeap) (fun x => ⟨[(5, .str x.2.1), (17, .lst sz (l.map Entry.av) c), (18, i64 l.length), (19, i64 x.1)], x.2.2, []⟩)
    (fun x => x.1 ≤ l.length ∧ x.2.1 = (l.take x.1).foldl (fun p e => pre2 p e.key) p0 ∧ x.2.1.length < 1099511627776) (fun x => l.length - x.1) (0, p0, []) hs (by simpa using hp0) (by show l.length - 0 < KK; simp only [KK]; omega) ?_
  rintro ⟨j, p, hp⟩ ⟨g1, g2, g3⟩
  simp only at g1 g2 g3
  conv => whnf
  refine brd (fun b => ?_) (fun b => ?_)
  · simp only at b
    have hj : j < l.length := by omega
    have hst : pre2 p l[j].key = (l.take (j + 1)).foldl (fun p e => pre2 p e.key) p0 := by
      rw [List.take_succ_eq_append_getElem hj, List.foldl_append, ← g2]; rfl
    have hk := he _ (List.getElem_mem hj)
    have hle := (cp_le p l[j].key).1
    conv => whnf
    refine ixL entry_cells hj hz ?_
    conv => whnf
    refine stI (get_last _ _) (by rfl) (by rfl) (by rfl) (by rfl) ?_
    conv => whnf
    refine ldI (get_set_last _ _ _) ?_
    conv => whnf
    refine clI (cprefix_eq (by omega) p l[j].key g3 hk.1) ?_
    conv => whnf
    refine ss_hi hle ?_
    conv => whnf
    refine zI (z := ((j + 1 : Nat) : Int)) (by rw [wrap_i64 (by omega) (by omega)]; rfl) ?_
    refine nxI (j + 1, pre2 p l[j].key, _) ⟨hj, hst, by simp only [pre2, List.length_take]; omega⟩ (by simp only; omega) ⟨⟨rfl, rfl, rfl, rfl⟩, rfl, rfl⟩
  · simp only at b
    have : j = l.length := by omega
    subst this
    rw [List.take_length] at g2
    subst g2
    conv => whnf
    exact hE _ _ rfl

theorem head_at {l : List Entry} (h : 0 < l.length) : l[0] = l.headD default := by
  cases l with
  | nil => simp at h
  | cons a r => rfl
theorem shared_eq (hn : 2 ≤ n) (l : List Entry) (hl : l.length < 1099511627776) (he : ∀ e ∈ l, e.Ok) (lv : Int) (hne : 0 < (tailE l lv).length) (sz : Nat) (hz : l ≠ [] → sz = 22) (c : Bool) :
    C n 104 [.lst sz (l.map Entry.av) c, i64 lv] h = some (.ret (.str (shared l lv)), h) := by
  obtain ⟨m, rfl⟩ : ∃ m, n = m + 1 := ⟨n - 1, by omega⟩
  have go : ∀ (t : List Entry) (c' : Bool) (s' : LS), t = tailE l lv → LS.sub ⟨[(0, .lst 22 (t.map Entry.av) c')], [], []⟩ s' → OkR Tryz.prog (C m) cfg0.inl KK 31 6 (cutOf c104) s' (RetQ Tryz.prog [.tmp 4] fun v' h' => frz h' 64 v' = some (.str (shared l lv))) := fun t c' s' ht hs' => by
    have h0 : 0 < t.length := by rw [ht]; exact hne
    have het : ∀ e ∈ t, e.Ok := fun e h => he e (by
      subst ht
      unfold tailE at h
      split at h
      · exact List.mem_of_mem_drop h
      · exact h)
    have hlt : t.length ≤ l.length := by subst ht; unfold tailE; split <;> simp
    have hsh : ((t.drop 1).foldl (fun p e => pre2 p e.key) t[0].key) = shared l lv := by rw [head_at h0, ht]; rfl
    refine cutI (by decide) rfl hs' ?_
    conv => whnf
    refine ixL entry_cells (j := 0) h0 (fun _ => rfl) ?_
    conv => whnf
    refine slI (sl_lo _ t (fun _ => rfl) c' 1 h0) ?_
    conv => whnf
    refine shared_loop (by omega) (t.drop 1) (by simp; omega) (fun e h => het e (List.mem_of_mem_drop h)) t[0].key (het _ (List.getElem_mem h0)).1 22 (fun _ => rfl) _ ⟨⟨rfl, rfl, lenI _ _, rfl⟩, rfl, rfl⟩ (fun L hp hL => ?_)
    refine cutI (by decide) rfl (t := ⟨[(5, .str (shared l lv))], hp, []⟩) ⟨by rw [hsh] at hL; exact hL, rfl, rfl⟩ ?_
    conv => whnf
    exact retP rfl (frz_str rfl)
  refine fun_pure F104 rfl rfl rfl (pure_lst entry_pure l rfl) ?_
  conv => whnf
  refine brd (fun a => ?_) (fun a => ?_)
  · have ht : l.drop 1 = tailE l lv := by unfold tailE; rw [if_pos a]
    have hl1 : 1 ≤ l.length := by rw [← ht] at hne; simp at hne; omega
    conv => whnf
    refine slI (sl_lo _ l hz c 1 hl1) ?_
    exact go (l.drop 1) _ _ ht ⟨rfl, rfl, rfl⟩
  · have ht : l = tailE l lv := by unfold tailE; rw [if_neg a]
    have hsz : sz = 22 := hz (by intro e; subst e; rw [← ht] at hne; simp at hne)
    subst hsz
    exact go l c _ ht ⟨rfl, rfl, rfl⟩

theorem valid_tail {l : List Entry} {lv : Int} (hv : valid l lv = true) : 0 < (tailE l lv).length := by
  obtain ⟨h1, h2, h3, h4⟩ := valid_iff.1 hv
  unfold tailE
  split
  · simp; omega
  · cases l with
    | nil => exact (h2 rfl).elim
    | cons => simp
theorem pre2_len (p k : Str) : (pre2 p k).length ≤ p.length := by simp [pre2]; omega
theorem fold_len : ∀ (l : List Entry) (p : Str), (l.foldl (fun p e => pre2 p e.key) p).length ≤ p.length
  | [], p => Nat.le_refl _
  | e :: r, p => Nat.le_trans (fold_len r _) (pre2_len p e.key)
end
end Go.Proofs
/- Contracts: sizes; entries behind a string. -/
set_option linter.unusedVariables false
set_option linter.unusedSimpArgs false
namespace Go.Proofs
open Go Go.Abs
theorem valid_key {l : List Entry} {lv : Int} (hv : valid l lv = true) : ∀ e ∈ l, e.key.length ≤ 48 := fun e he => by
  obtain ⟨h1, h2, h3, h4⟩ := valid_iff.1 hv
  obtain ⟨j, hj, rfl⟩ := List.getElem_of_mem he
  have := h4 j hj
  rw [vAt_unf hj] at this
  by_cases e0 : lv = 0
  · subst e0
    simp at this
    exact (form_key this.1).2
  · simp [e0, branches] at this
    omega
theorem shared_len {l : List Entry} {lv : Int} (hv : valid l lv = true) : (shared l lv).length ≤ 48 := by
  have h0 := valid_tail hv
  refine Nat.le_trans (fold_len _ _) ?_
  rw [← head_at h0]
  have hm : (tailE l lv)[0] ∈ l := by
    have : (tailE l lv)[0] ∈ tailE l lv := List.getElem_mem h0
    unfold tailE at this ⊢
    split at this <;> rename_i h
    · simp only [h, if_true]; exact List.mem_of_mem_drop this
    · simp only [h, if_false]; exact this
  exact valid_key hv _ hm
section
variable {n : Nat} {h : AHeap}
end
end Go.Proofs
/- Contracts: pages that are well-formed. -/
set_option linter.unusedVariables false
set_option linter.unusedSimpArgs false
namespace Go.Proofs
open Go Go.Abs

structure Page where
  kind : Int
  no : Int
  ver : Int
  tree : Int
  level : Int
  top : Bool
  esh : Sh
  entries : List Entry
  next : Int
  data : Str
  fsh : Sh
  freed : List Freed
def Page.cells (p : Page) : List AV := [i64 p.kind, i64 p.no, i64 p.ver, i64 p.tree, i64 p.level, .bool p.top, .lst p.esh.sz (p.entries.map Entry.av) p.esh.c, i64 p.next, .str p.data, .lst p.fsh.sz (p.freed.map Freed.av) p.fsh.c]
def Page.av (p : Page) : AV := .agg p.cells
/-- Strings and lists are short enough for a machine; slices are held as they are. -/
structure Page.Ok (p : Page) : Prop where
  esz : p.entries ≠ [] → p.esh.sz = 22
  fsz : p.freed ≠ [] → p.fsh.sz = 2
  elen : p.entries.length < 1099511627776
  flen : p.freed.length < 1048576
  dlen : p.data.length < 1099511627776
  ent : ∀ e ∈ p.entries, e.Ok
  fr : ∀ f ∈ p.freed, f.Ok ∧ f.pages.length < 9223372036854775808
theorem page_cells (p : Page) : p.av.cells? = some p.cells := rfl
theorem freed_pure (f : Freed) : f.av.pureB = true := by
  show pureBs [i64 f.ver, .lst f.sh.sz (f.pages.map i64) f.sh.c] = true
  simp [pureBs, AV.pureB, pure_map (f := i64) (fun _ => rfl)]
theorem page_pure (p : Page) : p.av.pureB = true := by
  show pureBs p.cells = true
  simp [Page.cells, pureBs, AV.pureB, pure_map entry_pure, pure_map freed_pure]
theorem eq_bool (a b : Bool) : eqA Tryz.prog 20 4 (.bool a) (.bool b) = some (a == b) := by kernel_rfl

def linked (n : Int) : Bool := n == 0 || numbered n
def Page.plain (p : Page) : Bool := p.tree == 0 && (p.level == 0 && (!p.top && (p.entries.length : Int) == 0))
def pgAt (l : List Int) (k : Nat) : Bool := numbered (l.getD k 0) && (k == 0 || decide (l.getD (k - 1) 0 < l.getD k 0))
def pgsOk (l : List Int) : Bool := (List.range l.length).all (pgAt l)
instance : Inhabited Freed := ⟨⟨0, ⟨0, true⟩, []⟩⟩
def frAt (l : List Freed) (k : Nat) : Bool := (within (l.getD k default).ver 0 1099511627776 && (((l.getD k default).pages.length : Int) != 0 && (k == 0 || decide ((l.getD (k - 1) default).ver < (l.getD k default).ver)))) && pgsOk (l.getD k default).pages
def freedOk (l : List Freed) : Bool := (List.range l.length).all (frAt l)
def listed (l : List Freed) : Int := 6 + (l.map fun f => 8 + 4 * (f.pages.length : Int)).sum
def Page.check (p : Page) : Bool := numbered p.no && (within p.ver 0 1099511627776 && (if p.kind = 1 ∨ p.kind = 2 then within p.tree 0 255 && (((p.kind == 1) == (p.level == 0)) && (fits p.entries p.level && (p.next == 0 && (p.data == [] && (p.freed.length : Int) == 0))))
  else if p.kind = 3 then p.plain && (linked p.next && (within p.data.length 1 490 && (p.freed.length : Int) == 0)) else if p.kind = 4 then p.plain && (linked p.next && (p.data == [] && (freedOk p.freed && decide (listed p.freed ≤ 496)))) else false))

theorem all_bad {p : Nat → Bool} {n j : Nat} (hj : j < n) (hb : p j = false) : (List.range n).all p = false := by
  rw [List.all_eq_false]; exact ⟨j, List.mem_range.2 hj, by simp [hb]⟩
theorem all_good {p : Nat → Bool} {n : Nat} (h : ∀ i, i < n → p i = true) : (List.range n).all p = true := by
  rw [List.all_eq_true]; exact fun i hi => h i (List.mem_range.1 hi)
theorem all_next {p : Nat → Bool} {j : Nat} (h : ∀ i, i < j → p i = true) (hj : p j = true) : ∀ i, i < j + 1 → p i = true := fun i hi => by
  by_cases e : i = j
  · rw [e]; exact hj
  · exact h i (by omega)
theorem pgAt_unf {l : List Int} {j : Nat} (hj : j < l.length) : pgAt l j = (numbered l[j] && (decide (j = 0) || decide (l[j - 1] < l[j]))) := by
  have h1 : l.getD j 0 = l[j] := by simp [hj]
  have h2 : l.getD (j - 1) 0 = l[j - 1] := by simp [show j - 1 < l.length by omega]
  have h3 : (j == 0) = decide (j = 0) := by by_cases e : j = 0 <;> simp [e]
  unfold pgAt; rw [h1, h2, h3]
theorem frAt_unf {l : List Freed} {j : Nat} (hj : j < l.length) : frAt l j = ((within l[j].ver 0 1099511627776 && ((l[j].pages.length : Int) != 0 && (decide (j = 0) || decide (l[j - 1].ver < l[j].ver)))) && pgsOk l[j].pages) := by
  have h1 : l.getD j default = l[j] := by simp [hj]
  have h2 : l.getD (j - 1) default = l[j - 1] := by simp [show j - 1 < l.length by omega]
  have h3 : (j == 0) = decide (j = 0) := by by_cases e : j = 0 <;> simp [e]
  unfold frAt; rw [h1, h2, h3]

section
variable {n : Nat} {h : AHeap}
theorem plain_eq (hn : 1 ≤ n) (p : Page) : C n 73 [p.av] h = some (.ret (.bool p.plain), h) := by
  obtain ⟨m, rfl⟩ : ∃ m, n = m + 1 := ⟨n - 1, by omega⟩
  refine fun_pure F73 rfl rfl rfl (by simp [pureBs, page_pure]) ?_
  repeat' (conv => whnf); first
    | refine retP rfl (frz_bool ?_)
    | refine brd (fun _ => ?_) (fun _ => ?_)
    | refine bre (fun _ => ?_) (fun _ => ?_)
    | refine brq (fun _ => ?_) (fun _ => ?_)
    | refine brn (fun _ => ?_) (fun _ => ?_)
    | refine br (fun _ => ?_) (fun _ => ?_)
    | refine ldI (by rfl) ?_
    | refine ldI (get_set_last _ _ _) ?_
    | refine ldI (get_last _ _) ?_
    | refine stI (by rfl) (by rfl) (by rfl) (by rfl) (by rfl) ?_
    | refine stI (get_last _ _) (by rfl) (by rfl) (by rfl) (by rfl) ?_
    | refine cutS (by decide) rfl ?_
  all_goals simp_all [Page.plain]
theorem linked_eq (hn : 3 ≤ n) (k : Int) : C n 74 [i64 k] h = some (.ret (.bool (linked k)), h) := by
  obtain ⟨m, rfl⟩ : ∃ m, n = m + 1 := ⟨n - 1, by omega⟩
  refine fun_pure F74 rfl rfl rfl rfl ?_
  repeat' (conv => whnf); first
    | refine clI (numbered_eq (by omega) _) ?_
    | refine retP rfl (frz_bool ?_)
    | refine brd (fun _ => ?_) (fun _ => ?_)
    | refine bre (fun _ => ?_) (fun _ => ?_)
    | refine brq (fun _ => ?_) (fun _ => ?_)
    | refine brn (fun _ => ?_) (fun _ => ?_)
    | refine br (fun _ => ?_) (fun _ => ?_)
    | refine ldI (by rfl) ?_
    | refine ldI (get_set_last _ _ _) ?_
    | refine ldI (get_last _ _) ?_
    | refine stI (by rfl) (by rfl) (by rfl) (by rfl) (by rfl) ?_
    | refine stI (get_last _ _) (by rfl) (by rfl) (by rfl) (by rfl) ?_
    | refine cutS (by decide) rfl ?_
  all_goals simp_all [linked]
theorem listed_bound : ∀ (l : List Freed), (∀ f ∈ l, f.pages.length < 1048576) → 6 ≤ listed l ∧ listed l ≤ 6 + 4194312 * l.length
  | [], _ => by simp [listed]
  | f :: r, hf => by
    have h1 := listed_bound r fun g hg => hf g (List.mem_cons_of_mem _ hg)
    have h2 := hf f (List.mem_cons_self ..)
    simp only [listed, List.map_cons, List.sum_cons, List.length_cons] at h1 ⊢
    omega
theorem listed_take (l : List Freed) {j : Nat} (hj : j < l.length) : listed (l.take (j + 1)) = listed (l.take j) + (8 + 4 * (l[j].pages.length : Int)) := by
  rw [List.take_succ_eq_append_getElem hj]
  unfold listed
  rw [List.map_append, List.sum_append]
  simp only [List.map_cons, List.map_nil, List.sum_cons, List.sum_nil]
  omega
theorem listed_eq (hn : 1 ≤ n) (l : List Freed) (hl : l.length < 1048576) (hf : ∀ f ∈ l, f.Ok ∧ f.pages.length < 1048576) (sz : Nat) (hz : l ≠ [] → sz = 2) (c : Bool) : C n 76 [.lst sz (l.map Freed.av) c] h = some (.ret (i64 (listed l)), h) := by
  obtain ⟨m, rfl⟩ : ∃ m, n = m + 1 := ⟨n - 1, by omega⟩
  refine fun_pure F76 rfl rfl rfl (pure_lst freed_pure l rfl) ?_
  conv => whnf
  refine loopI (by decide) rfl (α := Nat × AHeap) (fun x => ⟨[(3, i64 (listed (l.take x.1))), (6, .lst sz (l.map Freed.av) c), (7, i64 l.length), (8, i64 x.1)], x.2, []⟩) (fun x => x.1 ≤ l.length) (fun x => l.length - x.1) (0, []) ⟨⟨rfl, rfl, lenI _ _, rfl⟩, rfl, rfl⟩ (Nat.zero_le _) (by show l.length - 0 < KK; simp only [KK]; omega) ?_
  rintro ⟨j, hp⟩ g1
  simp only at g1
  conv => whnf
  refine brd (fun a => ?_) (fun a => ?_)
  · have hj : j < l.length := by simp only at a; omega
    obtain ⟨k1, k2⟩ := hf _ (List.getElem_mem hj)
    have hb := listed_bound (l.take j) fun f h => (hf f (List.mem_of_mem_take h)).2
    rw [List.length_take] at hb
    have el : ((l[j].pages.map i64).length : Int) = (l[j].pages.length : Int) := by rw [List.length_map]
    conv => whnf
    refine ixL freed_cells hj hz ?_
    conv => whnf
    refine stI (get_last _ _) (by rfl) (by rfl) (by rfl) (by rfl) ?_
    conv => whnf
    refine ldI (get_set_last _ _ _) ?_
    conv => whnf
    refine zI (z := 4 * (l[j].pages.length : Int)) (by rw [el, wrap_i64 (by omega) (by omega)]) ?_
    conv => whnf
    refine zI (z := 8 + 4 * (l[j].pages.length : Int)) (wrap_i64 (by omega) (by omega)) ?_
    conv => whnf
    refine zI (z := listed (l.take (j + 1))) (by rw [listed_take l hj, wrap_i64 (by simp only; omega) (by simp only; omega)]) ?_
    conv => whnf
    refine zI (z := ((j + 1 : Nat) : Int)) (by rw [wrap_i64 (by omega) (by omega)]; rfl) ?_
    exact nxI (j + 1, _) hj (by simp only; omega) ⟨⟨rfl, rfl, rfl, rfl⟩, rfl, rfl⟩
  · have hj : j = l.length := by simp only at a; omega
    subst hj
    conv => whnf
    refine cutI (by decide) rfl (t := ⟨[(3, i64 (listed l))], hp, []⟩) ⟨by rw [List.take_length]; rfl, rfl, rfl⟩ ?_
    conv => whnf
    exact retP rfl (frz_int rfl)

/-- Pages that are in order are few. -/
theorem pgs_ge {l : List Int} (h : pgsOk l = true) : ∀ i (hi : i < l.length), (2 : Int) + i ≤ l[i] ∧ l[i] ≤ 4095
  | 0, hi => by
    have := List.all_eq_true.1 h 0 (List.mem_range.2 hi)
    rw [pgAt_unf hi] at this
    simp [numbered, within] at this
    omega
  | i + 1, hi => by
    have h0 := pgs_ge h i (by omega)
    have := List.all_eq_true.1 h (i + 1) (List.mem_range.2 hi)
    rw [pgAt_unf hi] at this
    simp [numbered, within] at this
    omega
theorem pgs_few {l : List Int} (h : pgsOk l = true) : l.length ≤ 4094 := by
  rcases Nat.eq_zero_or_pos l.length with e | e
  · omega
  · have := pgs_ge h (l.length - 1) (by omega)
    omega
theorem freed_few {l : List Freed} (h : freedOk l = true) (hf : ∀ f ∈ l, f.Ok ∧ f.pages.length < 9223372036854775808) : ∀ f ∈ l, f.Ok ∧ f.pages.length < 1048576 := fun f hm => by
  obtain ⟨i, hi, rfl⟩ := List.getElem_of_mem hm
  have := List.all_eq_true.1 h i (List.mem_range.2 hi)
  rw [frAt_unf hi, Bool.and_eq_true] at this
  have := pgs_few this.2
  exact ⟨(hf _ hm).1, by omega⟩
theorem pgs_loop {m : Nat} (hm : 2 ≤ m) (l : List Int) (hl : l.length < 9223372036854775808) (sz : Nat) (hz : l ≠ [] → sz = 1) (c : Bool) (f : Freed) (hf : f = ⟨f.ver, ⟨sz, c⟩, l⟩) {hp : AHeap} {E : Nat} (hE0 : hp[E]? = some (.cells 0 (some 165) f.cells 0)) {Q : Ex → LS → Prop} {s : LS} (v0 v7 v8 v9 : AV)
    (hs : LS.sub ⟨[(0, v0), (4, .ptr E 0 0), (7, v7), (8, v8), (9, v9), (40, .lst sz (l.map i64) c), (41, i64 l.length), (42, i64 0)], hp, []⟩ s)
    (hE : pgsOk l = true → ∀ L, subL [(0, v0), (7, v7), (8, v8), (9, v9)] L → Q (.exit 2) ⟨L, hp, []⟩) (hR : pgsOk l = false → ∀ L, lk L 2 = some (.bool false) → Q .ret ⟨L, hp, []⟩) :
    OkR Tryz.prog (C m) cfg0.inl KK 66 7 (.loop (c75.lp 1)) s Q := by
  refine loopI (by decide) rfl (α := Nat) (fun x => ⟨[(0, v0), (4, .ptr E 0 0), (7, v7), (8, v8), (9, v9), (40, .lst sz (l.map i64) c), (41, i64 l.length), (42, i64 x)], hp, []⟩) (fun x => x ≤ l.length ∧ ∀ i, i < x → pgAt l i = true) (fun x => l.length - x) 0 hs ⟨Nat.zero_le _, fun i hi => absurd hi (Nat.not_lt_zero _)⟩ (by show l.length - 0 < KK; simp only [KK]; omega) ?_
  rintro j ⟨g1, g2⟩
  have e0 : f.cells = [i64 f.ver, .lst sz (l.map i64) c] := by rw [hf]; rfl
  rw [e0] at hE0
  conv => whnf
  refine brd (fun a => ?_) (fun a => ?_)
  · have hj : j < l.length := by omega
    repeat' (conv => whnf); first
      | refine ixL (l := l) (j := j) i64_cells hj hz ?_
      | refine ixL (l := l) (j := j - 1) i64_cells (by omega) hz ?_
      | refine clI (numbered_eq (by omega) _) ?_
      | refine ldI hE0 ?_
      | refine zI (z := ((j - 1 : Nat) : Int)) (by rw [wrap_i64 (by omega) (by omega)]; omega) ?_
      | refine zI (z := ((j + 1 : Nat) : Int)) (by rw [wrap_i64 (by omega) (by omega)]; rfl) ?_
      | refine hR (all_bad hj ?_) _ rfl
      | refine nxI (j + 1) ⟨hj, all_next g2 ?_⟩ (by omega) ⟨⟨rfl, rfl, rfl, rfl, rfl, rfl, rfl, rfl⟩, rfl, rfl⟩
      | (exfalso; omega)
      | refine brd (fun _ => ?_) (fun _ => ?_)
      | refine bre (fun _ => ?_) (fun _ => ?_)
      | refine brq (fun _ => ?_) (fun _ => ?_)
      | refine brn (fun _ => ?_) (fun _ => ?_)
      | refine br (fun _ => ?_) (fun _ => ?_)
      | refine ldI (by rfl) ?_
      | refine ldI (get_set_last _ _ _) ?_
      | refine ldI (get_last _ _) ?_
      | refine stI (by rfl) (by rfl) (by rfl) (by rfl) (by rfl) ?_
      | refine stI (get_last _ _) (by rfl) (by rfl) (by rfl) (by rfl) ?_
      | refine zI (wrap_i64 (by omega) (by omega)) ?_
      | refine cutS (by decide) rfl ?_
    all_goals clear hf e0 hE0 hE hR hs
    all_goals rw [pgAt_unf hj]
    all_goals by_cases hj0 : j = 0
    all_goals simp_all
    all_goals omega
  · have hj : j = l.length := by omega
    subst hj
    conv => whnf
    exact hE (all_good g2) _ ⟨rfl, rfl, rfl, rfl⟩
theorem freed_eq (hn : 3 ≤ n) (l : List Freed) (hl : l.length < 1048576) (hf : ∀ f ∈ l, f.Ok ∧ f.pages.length < 9223372036854775808) (sz : Nat) (hz : l ≠ [] → sz = 2) (c : Bool) : C n 75 [.lst sz (l.map Freed.av) c] h = some (.ret (.bool (freedOk l)), h) := by
  obtain ⟨m, rfl⟩ : ∃ m, n = m + 1 := ⟨n - 1, by omega⟩
  refine fun_pure F75 rfl rfl rfl (pure_lst freed_pure l rfl) ?_
  conv => whnf
  refine loopI (by decide) rfl (α := Nat × AHeap) (fun x => ⟨[(0, .lst sz (l.map Freed.av) c), (7, .lst sz (l.map Freed.av) c), (8, i64 l.length), (9, i64 x.1)], x.2, []⟩) (fun x => x.1 ≤ l.length ∧ ∀ i, i < x.1 → frAt l i = true) (fun x => l.length - x.1) (0, []) ⟨⟨rfl, rfl, lenI _ _, rfl⟩, rfl, rfl⟩ ⟨Nat.zero_le _, fun i hi => absurd hi (Nat.not_lt_zero _)⟩ (by show l.length - 0 < KK; simp only [KK]; omega) ?_
  rintro ⟨j, hp⟩ ⟨g1, g2⟩
  simp only at g1 g2
  conv => whnf
  refine brd (fun a => ?_) (fun a => ?_)
  · have hj : j < l.length := by simp only at a; omega
    obtain ⟨k1, k2⟩ := hf _ (List.getElem_mem hj)
    have el : ((l[j].pages.map i64).length : Int) = (l[j].pages.length : Int) := by rw [List.length_map]
    conv => whnf
    refine ixL freed_cells hj hz ?_
    conv => whnf
    refine stI (get_last _ _) (by rfl) (by rfl) (by rfl) (by rfl) ?_
    have good : ∀ {Q : Ex → LS → Prop} (s' : LS), LS.sub ⟨[(0, .lst sz (l.map Freed.av) c), (4, .ptr hp.length 0 0), (7, .lst sz (l.map Freed.av) c), (8, i64 l.length), (9, i64 j)], ((hp ++ [AB.cells 0 (some 165) [i64 0, .lst 0 [] true] 0]).set hp.length (.cells 0 (some 165) l[j].cells 0)), []⟩ s' →
        (pgsOk l[j].pages = true → ∀ L, subL [(0, .lst sz (l.map Freed.av) c), (7, .lst sz (l.map Freed.av) c), (8, i64 l.length), (9, i64 j)] L → Q .norm ⟨L, ((hp ++ [AB.cells 0 (some 165) [i64 0, .lst 0 [] true] 0]).set hp.length (.cells 0 (some 165) l[j].cells 0)), []⟩) → (pgsOk l[j].pages = false → ∀ L, lk L 2 = some (.bool false) → Q .ret ⟨L, ((hp ++ [AB.cells 0 (some 165) [i64 0, .lst 0 [] true] 0]).set hp.length (.cells 0 (some 165) l[j].cells 0)), []⟩) →
        OkR Tryz.prog (C m) cfg0.inl KK 66 7 (cutOf (c75.lp 0)) s' Q := by
      intro Q s' hs' hT hF
      refine cutI (by decide) rfl hs' ?_
      conv => whnf
      refine ldI (get_set_last _ _ _) ?_
      conv => whnf
      refine pgs_loop (by omega) l[j].pages k2 l[j].sh.sz k1 l[j].sh.c l[j] rfl (get_set_last _ _ _) (.lst sz (l.map Freed.av) c) (.lst sz (l.map Freed.av) c) (i64 l.length) (i64 j) ⟨⟨rfl, rfl, rfl, rfl, rfl, rfl, lenI i64 _, rfl⟩, rfl, rfl⟩ (fun q L hL => ?_) (fun q L hk => ?_)
      · conv => whnf
        exact hT q L hL
      · conv => whnf
        exact hF q L hk
    repeat' (conv => whnf); first
      | refine ldI (get_set_last _ _ _) ?_
      | refine ixL (l := l) (j := j - 1) freed_cells (by omega) hz ?_
      | refine clI (within_eq (by omega) _ _ _) ?_
      | refine zI (z := ((j - 1 : Nat) : Int)) (by rw [wrap_i64 (by omega) (by omega)]; omega) ?_
      | refine zI (z := ((j + 1 : Nat) : Int)) (by rw [wrap_i64 (by omega) (by omega)]; rfl) ?_
      | refine good _ ⟨⟨rfl, rfl, rfl, rfl, rfl⟩, rfl, rfl⟩ (fun _ _ _ => ?_) (fun _ _ _ => ?_)
      | refine cutI (by decide) rfl (t := ⟨[(0, .lst sz (l.map Freed.av) c), (7, .lst sz (l.map Freed.av) c), (8, i64 l.length), (9, i64 j)], _, []⟩) ⟨(by assumption), rfl, rfl⟩ ?_
      | refine nxI (j + 1, _) ⟨hj, all_next g2 ?_⟩ (by simp only; omega) ⟨⟨rfl, rfl, rfl, rfl⟩, rfl, rfl⟩
      | refine retK (by assumption) (frz_bool (all_bad hj ?_).symm)
      | refine retP rfl (frz_bool (all_bad hj ?_).symm)
      | (exfalso; omega)
      | refine brd (fun _ => ?_) (fun _ => ?_)
      | refine bre (fun _ => ?_) (fun _ => ?_)
      | refine brq (fun _ => ?_) (fun _ => ?_)
      | refine brn (fun _ => ?_) (fun _ => ?_)
      | refine br (fun _ => ?_) (fun _ => ?_)
      | refine ldI (by rfl) ?_
      | refine ldI (get_set_last _ _ _) ?_
      | refine ldI (get_last _ _) ?_
      | refine stI (by rfl) (by rfl) (by rfl) (by rfl) (by rfl) ?_
      | refine stI (get_last _ _) (by rfl) (by rfl) (by rfl) (by rfl) ?_
      | refine zI (wrap_i64 (by omega) (by omega)) ?_
    all_goals clear good
    all_goals rw [frAt_unf hj]
    all_goals try simp only [el] at *
    all_goals by_cases hj0 : j = 0
    all_goals simp_all
    all_goals omega
  · have hj : j = l.length := by simp only at a; omega
    subst hj
    conv => whnf
    refine cutI (by decide) rfl (t := ⟨[], hp, []⟩) ⟨trivial, rfl, rfl⟩ ?_
    conv => whnf
    exact retP rfl (frz_bool (all_good g2).symm)
end
end Go.Proofs
/- Contracts: pages that lead to each other. -/
set_option linter.unusedVariables false
set_option linter.unusedSimpArgs false
namespace Go.Proofs
open Go Go.Abs
theorem putAt_row0 {r F xs : List AV} {o : Nat} (h : o + xs.length ≤ r.length) : putAt (r ++ F) o xs = putAt r o xs ++ F := by
  unfold putAt
  rw [List.take_append_of_le_length (by omega), List.drop_append_of_le_length h]
  simp
theorem putAt_rowS {r F xs : List AV} {o : Nat} : putAt (r ++ F) (r.length + o) xs = r ++ putAt F o xs := by
  unfold putAt
  rw [List.take_append, List.drop_append]
  have h1 : r.take (r.length + o) = r := List.take_of_length_le (by omega)
  have h2 : r.drop (r.length + o + xs.length) = [] := List.drop_of_length_le (by omega)
  rw [h1, h2]
  have e1 : r.length + o - r.length = o := by omega
  have e2 : r.length + o + xs.length - r.length = o + xs.length := by omega
  rw [e1, e2]
  simp
theorem putAt_rows {w o : Nat} {xs : List AV} (ho : o + xs.length ≤ w) : ∀ {rows : List (List AV)} {j : Nat}, (∀ r ∈ rows, r.length = w) → (hj : j < rows.length) → putAt rows.flatten (j * w + o) xs = (rows.set j (putAt rows[j] o xs)).flatten
  | [], j, _, hj => absurd hj (Nat.not_lt_zero _)
  | r :: rs, 0, hr, hj => by
    have h1 := hr r (List.mem_cons_self ..)
    simp only [List.flatten_cons, List.set_cons_zero, List.getElem_cons_zero, Nat.zero_mul, Nat.zero_add]
    exact putAt_row0 (by omega)
  | r :: rs, j + 1, hr, hj => by
    have h1 := hr r (List.mem_cons_self ..)
    have ih := putAt_rows ho (rows := rs) (j := j) (fun r hm => hr r (List.mem_cons_of_mem _ hm)) (by simpa using hj)
    have e : (j + 1) * w + o = r.length + (j * w + o) := by rw [h1, Nat.add_mul]; omega
    rw [e]
    simp only [List.flatten_cons, List.set_cons_succ, List.getElem_cons_succ]
    rw [putAt_rowS, ih]
/-- Rows by their number. -/
abbrev rowsOf (N : Nat) (R : Nat → List AV) : List (List AV) := (List.range N).map R
theorem rowsOf_set {N j : Nat} {R R' : Nat → List AV} (hj : j < N) (h : ∀ k, k ≠ j → R k = R' k) {x : List AV} (hx : x = R' j) : (rowsOf N R).set j x = rowsOf N R' := by
  subst hx
  apply List.ext_getElem?
  intro k
  rw [List.getElem?_set]
  by_cases e : j = k
  · subst e
    simp [rowsOf, hj]
  · rw [if_neg e]
    unfold rowsOf
    rw [List.getElem?_map, List.getElem?_map]
    by_cases hk : k < N
    · simp [hk, h k (Ne.symm e)]
    · simp [hk]
theorem rowsOf_put {N j o w : Nat} {R R' : Nat → List AV} {xs : List AV} (hw : ∀ k, (R k).length = w) (hj : j < N) (ho : o + xs.length ≤ w) (h : ∀ k, k ≠ j → R k = R' k) (hx : putAt (R j) o xs = R' j) : putAt (rowsOf N R).flatten (j * w + o) xs = (rowsOf N R').flatten := by
  have hl : j < (rowsOf N R).length := by simpa [rowsOf] using hj
  rw [putAt_rows ho (fun r hm => by obtain ⟨k, _, rfl⟩ := List.mem_map.1 hm; exact hw k) hl]
  congr 1
  have : (rowsOf N R)[j] = R j := by simp [rowsOf]
  rw [this]
  exact rowsOf_set hj h hx
theorem rowsOf_len {N w : Nat} {R : Nat → List AV} (hw : ∀ k, (R k).length = w) : (rowsOf N R).flatten.length = N * w := by
  rw [rows_len (sz := w) (fun r hm => by obtain ⟨k, _, rfl⟩ := List.mem_map.1 hm; exact hw k)]
  simp [rowsOf]
theorem rep_rows (z : List AV) : ∀ N, rep N z = (rowsOf N fun _ => z).flatten := fun N => by
  induction N with
  | zero => rfl
  | succ N ih =>
    unfold rowsOf at ih ⊢
    rw [List.range_succ_eq_map, List.map_cons, List.map_map, List.flatten_cons]
    show z ++ rep N z = _
    rw [ih]
    rfl
theorem set_same {h : AHeap} {b : Nat} {x : AB} (hb : h[b]? = some x) : h.set b x = h := by
  have hl := lt_of_get hb
  apply List.ext_getElem?
  intro k
  by_cases e : k = b
  · subst e
    rw [List.getElem?_set_self hl, hb]
  · rw [List.getElem?_set_ne (Ne.symm e)]
def upd (R : Nat → List AV) (j : Nat) (x : List AV) : Nat → List AV := fun k => if k = j then x else R k
theorem upd_at (R : Nat → List AV) (j : Nat) (x : List AV) : upd R j x j = x := if_pos rfl
theorem upd_ne (R : Nat → List AV) {j k : Nat} (x : List AV) (h : k ≠ j) : upd R j x k = R k := if_neg h
/-- A store into a row. -/
theorem stRows {h : AHeap} {b N j d o : Nat} {el : Option TypeId} {R : Nat → List AV} {x : AV} {row : List AV} (hw : ∀ k, (R k).length = 10) (hj : j < N) (hd : d < 10) (f : h[b]? = some (.cells 0 el (rowsOf N R).flatten 0)) (hx : putAt (R j) d [x] = row) (ho : o = j * 10 + d) :
    Nat.ble (o + 1) (rowsOf N R).flatten.length = true ∧ (h.set b (.cells 0 el (putAt (rowsOf N R).flatten o [x]) 0))[b]? = some (.cells 0 el (rowsOf N (upd R j row)).flatten 0) ∧ (∀ k, (upd R j row k).length = 10) ∧ putAt (rowsOf N R).flatten o [x] = (rowsOf N (upd R j row)).flatten := by
  subst ho
  have e : putAt (rowsOf N R).flatten (j * 10 + d) [x] = (rowsOf N (upd R j row)).flatten := rowsOf_put hw hj (by simp only [List.length_cons, List.length_nil]; omega) (fun k hk => (upd_ne R row hk).symm) (by rw [hx, upd_at])
  refine ⟨?_, ?_, fun k => ?_, e⟩
  · rw [Nat.ble_eq, rowsOf_len hw]; omega
  · rw [List.getElem?_set_self (lt_of_get f), e]
  · by_cases q : k = j
    · subst q
      rw [upd_at, ← hx]
      have := hw k
      rw [putAt_length (by simp; omega), this]
    · rw [upd_ne R row q]; exact hw k
theorem rowsOf_ext {N : Nat} {R R' : Nat → List AV} (h : ∀ k, k < N → R k = R' k) : rowsOf N R = rowsOf N R' := List.map_congr_left fun k hk => h k (List.mem_range.1 hk)
abbrev tPage : Nat := 25
def iniR (D F : Nat → AV) (k : Nat) : List AV := [i64 0, i64 0, i64 0, i64 0, i64 0, .bool false, .lst 0 [] true, i64 0, D k, F k]
def nextOf (no : List Int) (k : Nat) : Int := if k + 1 < no.length then no.getD (k + 1) 0 else 0
def finR (no : List Int) (kind v : Int) (D F : Nat → AV) (k : Nat) : List AV := [i64 kind, i64 (no.getD k 0), i64 v, i64 0, i64 0, .bool false, .lst 0 [] true, i64 (nextOf no k), D k, F k]
def midR (no : List Int) (kind v : Int) (D F : Nat → AV) (j k : Nat) : List AV := if k < j then finR no kind v D F k else iniR D F k
theorem midR_len (no : List Int) (kind v : Int) (D F : Nat → AV) (j k : Nat) : (midR no kind v D F j k).length = 10 := by unfold midR; split <;> rfl
theorem midR_at (no : List Int) (kind v : Int) (D F : Nat → AV) (j : Nat) : midR no kind v D F j j = iniR D F j := if_neg (Nat.lt_irrefl _)
theorem midR_succ {no : List Int} {kind v : Int} {D F : Nat → AV} {j : Nat} {R : Nat → List AV} (h1 : R j = finR no kind v D F j) (h2 : ∀ k, k ≠ j → R k = midR no kind v D F j k) (k : Nat) : R k = midR no kind v D F (j + 1) k := by
  by_cases e : k = j
  · subst e
    rw [h1]; unfold midR; rw [if_pos (Nat.lt_succ_self _)]
  · rw [h2 k e]
    unfold midR
    by_cases q : k < j
    · rw [if_pos q, if_pos (by omega)]
    · rw [if_neg q, if_neg (by omega)]
section
variable {n : Nat} {hp : AHeap}
theorem chained_eq (hn : 1 ≤ n) {b : Nat} (no : List Int) (hN : no.length < 1048576) (sz : Nat) (hz : no ≠ [] → sz = 1) (c : Bool) (kind v : Int) (D F : Nat → AV) (hb : hp[b]? = some (.cells 0 (some tPage) (rowsOf no.length (iniR D F)).flatten 0)) :
    C n 93 [.sl 10 b 0 0 no.length, .lst sz (no.map i64) c, i64 kind, i64 v] hp = some (.ret (.sl 10 b 0 0 no.length), hp.set b (.cells 0 (some tPage) (rowsOf no.length (finR no kind v D F)).flatten 0)) := by
  obtain ⟨m, rfl⟩ : ∃ m, n = m + 1 := ⟨n - 1, by omega⟩
  refine fun_inl F93 rfl rfl ?_
  conv => whnf
  refine loopI (by decide) rfl (α := Nat × AHeap) (fun x => ⟨[(0, .sl 10 b 0 0 no.length), (1, .lst sz (no.map i64) c), (2, i64 kind), (3, i64 v), (11, i64 no.length), (12, i64 x.1)], x.2, []⟩)
    (fun x => x.1 ≤ no.length ∧ x.2 = hp.set b (.cells 0 (some tPage) (rowsOf no.length (midR no kind v D F x.1)).flatten 0)) (fun x => no.length - x.1) (0, hp) ⟨⟨rfl, rfl, rfl, rfl, rfl, rfl⟩, rfl, rfl⟩ ⟨Nat.zero_le _, (set_same hb).symm⟩ (by show no.length - 0 < KK; simp only [KK]; omega) ?_
  rintro ⟨j, h⟩ ⟨g1, g2⟩
  simp only at g1 g2
  have f0 : h[b]? = some (.cells 0 (some tPage) (rowsOf no.length (midR no kind v D F j)).flatten 0) := by rw [g2, List.getElem?_set_self (lt_of_get hb)]
  conv => whnf
  refine brd (fun a => ?_) (fun a => ?_)
  · have hj : j < no.length := by simp only at a; omega
    have hne : no ≠ [] := by rintro rfl; simp at hj
    have hg : no.getD j 0 = no[j] := by simp [hj]
    obtain ⟨b0, f1, w1, p0⟩ := stRows (o := 0 + ((j : Nat) : Int).toNat * 10 + 0) (x := i64 kind) (row := [i64 kind, i64 0, i64 0, i64 0, i64 0, .bool false, .lst 0 [] true, i64 0, D j, F j]) (midR_len no kind v D F j) hj (d := 0) (by decide) f0 (by rw [midR_at]; rfl) (by omega)
    obtain ⟨b1, f2, w2, p1⟩ := stRows (o := 0 + ((j : Nat) : Int).toNat * 10 + 1) (x := i64 no[j]) (row := [i64 kind, i64 no[j], i64 0, i64 0, i64 0, .bool false, .lst 0 [] true, i64 0, D j, F j]) w1 hj (d := 1) (by decide) f1 (by rw [upd_at]; rfl) (by omega)
    obtain ⟨b2, f3, w3, p2⟩ := stRows (o := 0 + ((j : Nat) : Int).toNat * 10 + 2) (x := i64 v) (row := [i64 kind, i64 no[j], i64 v, i64 0, i64 0, .bool false, .lst 0 [] true, i64 0, D j, F j]) w2 hj (d := 2) (by decide) f2 (by rw [upd_at]; rfl) (by omega)
    conv => whnf
    refine ⟨by omega, hz hne, i64 no[j], by simp [hj], [i64 no[j]], rfl, ?_⟩
    conv => whnf
    refine ⟨by omega, by omega, rfl, ?_⟩
    conv => whnf
    refine stI (xs := [i64 kind]) f0 (by rfl) (by rfl) b0 (by rfl) ?_
    conv => whnf
    refine ⟨by omega, by omega, rfl, ?_⟩
    conv => whnf
    refine stI (xs := [i64 no[j]]) f1 (by rfl) (by rfl) b1 (by rfl) ?_
    conv => whnf
    refine ⟨by omega, by omega, rfl, ?_⟩
    conv => whnf
    refine stI (xs := [i64 v]) f2 (by rfl) (by rfl) b2 (by rfl) ?_
    conv => whnf
    refine zI (z := ((j + 1 : Nat) : Int)) (by rw [wrap_i64 (by omega) (by omega)]; rfl) ?_
    conv => whnf
    refine brd (fun a2 => ?_) (fun a2 => ?_)
    · have hj2 : j + 1 < no.length := by omega
      obtain ⟨b3, f4, w4, p3⟩ := stRows (o := 0 + ((j : Nat) : Int).toNat * 10 + 7) (x := i64 no[j + 1]) (row := [i64 kind, i64 no[j], i64 v, i64 0, i64 0, .bool false, .lst 0 [] true, i64 no[j + 1], D j, F j]) w3 hj (d := 7) (by decide) f3 (by rw [upd_at]; rfl) (by omega)
      conv => whnf
      refine zI (z := ((j + 1 : Nat) : Int)) (by rw [wrap_i64 (by omega) (by omega)]; rfl) ?_
      conv => whnf
      refine ⟨by omega, hz hne, i64 no[j + 1], by simp [hj2], [i64 no[j + 1]], rfl, ?_⟩
      conv => whnf
      refine ⟨by omega, by omega, rfl, ?_⟩
      conv => whnf
      refine stI (xs := [i64 no[j + 1]]) f3 (by rfl) (by rfl) b3 (by rfl) ?_
      conv => whnf
      refine zI (z := ((j + 1 : Nat) : Int)) (by rw [wrap_i64 (by omega) (by omega)]; rfl) ?_
      refine nxI (j + 1, _) ⟨hj, ?_⟩ (by simp only; omega) ⟨⟨rfl, rfl, rfl, rfl, rfl, rfl⟩, rfl, rfl⟩
      simp only [p3, List.set_set]
      rw [g2, List.set_set]
      congr 2
      rw [rowsOf_ext fun k _ => midR_succ (R := upd _ j _) ?_ ?_ k]
      · rw [upd_at]
        have h2 : nextOf no j = no[j + 1] := by unfold nextOf; rw [if_pos hj2]; simp [hj2]
        unfold finR
        rw [hg, h2]
      · intro k hk
        rw [upd_ne _ _ hk, upd_ne _ _ hk, upd_ne _ _ hk, upd_ne _ _ hk]
    · have hj2 : ¬ j + 1 < no.length := by omega
      conv => whnf
      refine zI (z := ((j + 1 : Nat) : Int)) (by rw [wrap_i64 (by omega) (by omega)]; rfl) ?_
      refine nxI (j + 1, _) ⟨hj, ?_⟩ (by simp only; omega) ⟨⟨rfl, rfl, rfl, rfl, rfl, rfl⟩, rfl, rfl⟩
      simp only [p2, List.set_set]
      rw [g2, List.set_set]
      congr 2
      rw [rowsOf_ext fun k _ => midR_succ (R := upd _ j _) ?_ ?_ k]
      · rw [upd_at]
        have h2 : nextOf no j = 0 := by unfold nextOf; rw [if_neg hj2]
        unfold finR
        rw [hg, h2]
      · intro k hk
        rw [upd_ne _ _ hk, upd_ne _ _ hk, upd_ne _ _ hk]
  · have hj : j = no.length := by simp only at a; omega
    subst hj
    conv => whnf
    refine cutI (by decide) rfl (t := ⟨[(0, .sl 10 b 0 0 no.length)], h, []⟩) ⟨rfl, rfl, rfl⟩ ?_
    conv => whnf
    refine ⟨rfl, _, rfl, rfl, ?_⟩
    show h = _
    rw [g2]
    congr 2
    rw [rowsOf_ext]
    intro k hk
    unfold midR
    rw [if_pos hk]
end
end Go.Proofs
/- Contracts: the pages of a long value. -/
set_option linter.unusedVariables false
set_option linter.unusedSimpArgs false
namespace Go.Proofs
open Go Go.Abs
def chainPg (ps : List Str) (no : List Int) (v : Int) (k : Nat) : Page := ⟨3, no.getD k 0, v, 0, 0, false, ⟨0, true⟩, [], nextOf no k, ps.getD k [], ⟨0, true⟩, []⟩
def chainPs (ps : List Str) (no : List Int) (v : Int) : List Page := (List.range no.length).map (chainPg ps no v)
def chainOk (s : Str) (no : List Int) (v : Int) : Bool := within s.length 65 4000 && (decide (no.length = (pieces s).length) && numsOk no v)
def dataD (ps : List Str) (j k : Nat) : AV := if k < j then .str (ps.getD k []) else .str []
def nilF (k : Nat) : AV := .lst 0 [] true
theorem dataR_ext {ps : List Str} {j : Nat} {R : Nat → List AV} (h1 : R j = iniR (fun _ => .str (ps.getD j [])) nilF j) (h2 : ∀ k, k ≠ j → R k = iniR (dataD ps j) nilF k) (k : Nat) : R k = iniR (dataD ps (j + 1)) nilF k := by
  by_cases e : k = j
  · subst e
    rw [h1]; unfold iniR dataD; rw [if_pos (Nat.lt_succ_self _)]
  · rw [h2 k e]
    unfold iniR dataD
    by_cases q : k < j
    · rw [if_pos q, if_pos (by omega)]
    · rw [if_neg q, if_neg (by omega)]
theorem frz_tup2 {h : AHeap} {n : Nat} {a b a' b' : AV} (h1 : Abs.frz h n a = some a') (h2 : Abs.frz h n b = some b') : Abs.frz h (n + 1) (.tup [a, b]) = some (.tup [a', b']) := by
  have h3 : allM (Abs.frz h n) [a, b] = some [a', b'] := by
    unfold allM allM
    rw [h1, h2]
    rfl
  unfold Abs.frz
  simp only
  rw [h3]
  rfl
theorem chain_frz {hp : AHeap} {ps : List Str} {no : List Int} {v : Int} {b : Nat} (hb : hp[b]? = some (.cells 0 (some tPage) (rowsOf no.length (finR no 3 v (fun k => .str (ps.getD k [])) nilF)).flatten 0)) (n : Nat) : Abs.frz hp (n + 3) (.sl 10 b 0 0 no.length) = some (.lst 10 ((chainPs ps no v).map Page.av) false) := by
  have hlen : ∀ r ∈ rowsOf no.length (finR no 3 v (fun k => .str (ps.getD k [])) nilF), r.length = 10 ∧ r.all AV.scal = true := fun r hm => by
    obtain ⟨k, _, rfl⟩ := List.mem_map.1 hm
    exact ⟨rfl, rfl⟩
  have h1 := frz_sl (n := n + 2) (sz := 10) (by decide) hb (fun r hm => (hlen r hm).1) (rows' := rowsOf no.length (finR no 3 v (fun k => .str (ps.getD k [])) nilF)) (allM_id fun x hx => by
    obtain ⟨r, hm, hx⟩ := List.mem_flatten.1 hx
    obtain ⟨k, _, rfl⟩ := List.mem_map.1 hm
    simp only [finR, nilF, List.mem_cons, List.not_mem_nil, or_false] at hx
    rcases hx with rfl | rfl | rfl | rfl | rfl | rfl | rfl | rfl | rfl | rfl <;> rfl) hlen rfl
  have h2 : (rowsOf no.length (finR no 3 v (fun k => .str (ps.getD k [])) nilF)).length = no.length := by simp [rowsOf]
  rw [h2] at h1
  rw [h1]
  congr 2
  unfold chainPs rowsOf
  rw [List.map_map, List.map_map]
  rfl
section
variable {n : Nat} {h : AHeap}
theorem chain_eq (hn : 8 ≤ n) (s : Str) (hs : s.length < 1073741824) (no : List Int) (hno : no.length < 1048576) (sz : Nat) (hz : no ≠ [] → sz = 1) (c : Bool) (v : Int) : C n 31 [.str s, .lst sz (no.map i64) c, i64 v] h = some (.ret (.tup (if chainOk s no v = true then [.lst 10 ((chainPs (pieces s) no v).map Page.av) false, i64 0] else [.lst 0 [] true, i64 1])), h) := by
  obtain ⟨m, rfl⟩ : ∃ m, n = m + 1 := ⟨n - 1, by omega⟩
  have cP := fun h => pieces_eq (n := m) (h := h) (by omega) s hs
  have cN : ∀ h, C m 92 [.lst sz (no.map i64) c, i64 v] h = some (.ret (.bool (numsOk no v)), h) := fun h => numbers_eq (by omega) no (by omega) sz hz c v
  refine fun_pure F31 rfl rfl rfl (show pureBs [.str s, .lst sz (no.map i64) c, i64 v] = true by
    show (AV.pureB (.str s) && pureBs [.lst sz (no.map i64) c, i64 v]) = true
    rw [ints_pure no rfl]; rfl) ?_
  cases hw : within s.length 65 4000 with
  | false =>
    rw [hw, if_neg (by decide)] at cP
    conv => whnf
    refine clI (cP _) ?_
    conv => whnf
    have hc : chainOk s no v = false := by unfold chainOk; rw [hw]; rfl
    rw [hc, if_neg (by decide)]
    exact retP rfl rfl
  | true =>
    rw [hw, if_pos rfl] at cP
    have hN : (pieces s).length = pieceN s := by simp [pieces]
    have hN2 : pieceN s < 1048576 := by have := within_iff.1 hw; unfold pieceN; omega
    conv => whnf
    refine clI (cP _) ?_
    conv => whnf
    refine brq (fun a => ?_) (fun a => ?_)
    · conv => whnf
      have hc : chainOk s no v = false := by
        have : no.length ≠ (pieces s).length := fun e => a (by simp [e])
        unfold chainOk; simp [this]
      rw [hc, if_neg (by decide)]
      exact retP rfl rfl
    have hle : no.length = (pieces s).length := by simp at a; omega
    have hne : no ≠ [] := by
      rintro rfl
      have h1 := within_iff.1 hw
      simp [hN, pieceN] at hle
      omega
    conv => whnf
    refine clI (cN _) ?_
    conv => whnf
    refine brn (fun q => ?_) (fun q => ?_)
    · conv => whnf
      have hc : chainOk s no v = false := by unfold chainOk; rw [q]; simp
      rw [hc, if_neg (by decide)]
      exact retP rfl rfl
    have hc : chainOk s no v = true := by unfold chainOk; rw [hw, q]; simp [hle]
    rw [hc, if_pos rfl]
    conv => whnf
    refine ⟨by omega, by omega, by simp; omega, ?_⟩
    conv => whnf
    refine loopI (by decide) rfl (α := Nat × AHeap) (fun x => ⟨[(1, .lst sz (no.map i64) c), (2, i64 v), (10, .sl 10 0 0 0 no.length), (35, .lst 1 ((pieces s).map .str) false), (36, i64 no.length), (37, i64 x.1)], x.2, []⟩)
      (fun x => x.1 ≤ no.length ∧ x.2 = [.cells 0 (some tPage) (rowsOf no.length (iniR (dataD (pieces s) x.1) nilF)).flatten 0]) (fun x => no.length - x.1) (0, [.cells 0 (some tPage) (rowsOf no.length (iniR (dataD (pieces s) 0) nilF)).flatten 0]) ⟨⟨rfl, rfl, ?_, rfl, ?_, rfl⟩, ?_, rfl⟩ ⟨Nat.zero_le _, rfl⟩ (by show no.length - 0 < KK; simp only [KK]; omega) ?_
    · show some (AV.sl 10 0 0 0 ((List.map AV.str (pieces s)).length : Int).toNat) = _
      rw [List.length_map, ← hle]; rfl
    · show some (AV.int .i64 ((List.map AV.str (pieces s)).length : Int)) = _
      rw [List.length_map, ← hle]
    · show [] ++ [AB.cells 0 (some tPage) (rep ((List.map AV.str (pieces s)).length : Int).toNat [.int .i64 0, .int .i64 0, .int .i64 0, .int .i64 0, .int .i64 0, .bool false, .lst 0 [] true, .int .i64 0, .str [], .lst 0 [] true]) 0] = _
      rw [List.length_map, ← hle, Int.toNat_natCast, rep_rows]
      rfl
    rintro ⟨j, hp⟩ ⟨g1, g2⟩
    simp only at g1 g2
    subst g2
    have hw10 : ∀ k, (iniR (dataD (pieces s) j) nilF k).length = 10 := fun k => rfl
    conv => whnf
    refine brd (fun a => ?_) (fun a => ?_)
    · have hj : j < no.length := by simp only at a; omega
      have hj2 : j < (pieces s).length := by omega
      have hg : (pieces s).getD j [] = (pieces s)[j] := by simp [hj2]
      obtain ⟨b0, f1, w1, p0⟩ := stRows (h := [.cells 0 (some tPage) (rowsOf no.length (iniR (dataD (pieces s) j) nilF)).flatten 0]) (b := 0) (o := 0 + ((j : Nat) : Int).toNat * 10 + 8) (x := .str (pieces s)[j]) (row := iniR (fun _ => .str (pieces s)[j]) nilF j) hw10 hj (d := 8) (by decide) rfl (by rfl) (by omega)
      conv => whnf
      refine ⟨by omega, rfl, .str (pieces s)[j], by simp [hj2], [.str (pieces s)[j]], rfl, ?_⟩
      conv => whnf
      refine ⟨by omega, by omega, rfl, ?_⟩
      conv => whnf
      refine stI (xs := [.str (pieces s)[j]]) (by rfl) (by rfl) (by rfl) b0 (by rfl) ?_
      conv => whnf
      refine zI (z := ((j + 1 : Nat) : Int)) (by rw [wrap_i64 (by omega) (by omega)]; rfl) ?_
      refine nxI (j + 1, _) ⟨hj, ?_⟩ (by simp only; omega) ⟨⟨rfl, rfl, rfl, rfl, rfl, rfl⟩, rfl, rfl⟩
      show [AB.cells 0 (some tPage) (putAt (rowsOf no.length (iniR (dataD (pieces s) j) nilF)).flatten (0 + ((j : Nat) : Int).toNat * 10 + 8) [.str (pieces s)[j]]) 0] = _
      rw [p0, rowsOf_ext fun k _ => dataR_ext (R := upd _ j _) ?_ ?_ k]
      · rw [upd_at, hg]
      · intro k hk
        rw [upd_ne _ _ hk]
    · have hj : j = no.length := by simp only at a; omega
      subst hj
      have e1 : rowsOf no.length (iniR (dataD (pieces s) no.length) nilF) = rowsOf no.length (iniR (fun k => .str ((pieces s).getD k [])) nilF) := by
        refine rowsOf_ext fun k hk => ?_
        unfold iniR dataD
        rw [if_pos hk]
      rw [e1]
      have cH := chained_eq (n := m) (hp := [.cells 0 (some tPage) (rowsOf no.length (iniR (fun k => .str ((pieces s).getD k [])) nilF)).flatten 0]) (b := 0) (by omega) no hno sz hz c 3 v (fun k => .str ((pieces s).getD k [])) nilF rfl
      conv => whnf
      refine cutI (by decide) rfl (t := ⟨[(1, .lst sz (no.map i64) c), (2, i64 v), (10, .sl 10 0 0 0 no.length)], [.cells 0 (some tPage) (rowsOf no.length (iniR (fun k => .str ((pieces s).getD k [])) nilF)).flatten 0], []⟩) ⟨⟨rfl, rfl, rfl⟩, rfl, rfl⟩ ?_
      conv => whnf
      refine clI cH ?_
      conv => whnf
      refine retP rfl ?_
      have e2 := chain_frz (hp := [.cells 0 (some tPage) (rowsOf no.length (finR no 3 v (fun k => .str ((pieces s).getD k [])) nilF)).flatten 0]) (b := 0) rfl 60
      exact frz_tup2 e2 rfl
end
end Go.Proofs
/- Contracts: the text of pages, their numbers. -/
set_option linter.unusedVariables false
set_option linter.unusedSimpArgs false
namespace Go.Proofs
open Go Go.Abs
theorem vbuf_frzN {el : TypeId} {hp : AHeap} {L : AV} {xs : List AV} (hne : xs ≠ []) (b : VBuf el 1 hp L (xs.map fun x => [x])) (hx : ∀ x ∈ xs, Abs.frz hp 63 x = some x) : Abs.frz hp 64 L = some (.lst 1 xs false) := by
  rcases b.2 with ⟨rfl, h2⟩ | ⟨eb, ver, frz, rfl, h2, _⟩
  · exact (hne (by simpa using h2)).elim
  · rw [vflatten_ones] at h2
    unfold Abs.frz
    simp only [h2, List.length_map]
    rw [if_pos ⟨trivial, by omega⟩]
    have h1 : (xs.drop 0).take (xs.length * 1) = xs := by rw [List.drop_zero]; exact List.take_of_length_le (by omega)
    rw [h1, allM_id hx]
    simp only
    have hs : xs.all AV.scal = true := by
      rw [List.all_eq_true]
      intro x hm
      have := (b.1 [x] (List.mem_map.2 ⟨x, hm, rfl⟩)).2
      simpa using this
    rw [if_pos hs]
    rfl
section
variable {n : Nat} {h : AHeap}
theorem String_nil (hn : 1 ≤ n) {hp : AHeap} {b : Nat} {bs : Str} {F : List Nat} (w : BW hp b bs F) (hF : bs = [] → F = [b]) (hl : bs.length ≤ 1073741824) : ∃ hp', C n 63 [.ptr b 0 0] hp = some (.ret (.str bs), hp') := by
  by_cases h0 : bs = []
  · have hF2 := hF h0
    subst h0
    obtain ⟨m, rfl⟩ : ∃ m, n = m + 1 := ⟨n - 1, by omega⟩
    obtain ⟨t, a, buf, h1, h2, h3, h4⟩ := w
    rcases h4 with ⟨rfl, _, rfl⟩ | ⟨bb, ver, frz, rfl, g2, g3, g4, e⟩
    · refine ⟨hp, ?_⟩
      refine fun_inl F63 rfl rfl ?_
      conv => whnf
      refine ldI h1 ?_
      conv => whnf
      refine ldI h1 ?_
      conv => whnf
      refine ⟨rfl, ?_⟩
      conv => whnf
      refine ⟨?_, ?_⟩
      · refine ⟨?_, ?_⟩
        · conv => whnf
          exact ldI h1 rfl
        · conv => whnf
          exact ldI h1 rfl
      · exact ⟨rfl, [.str []], rfl, rfl, rfl⟩
    · rw [hF2] at e; simp at e
  · obtain ⟨hp', e, _⟩ := String_eq hn w h0 hl
    exact ⟨hp', e⟩
/-- An empty string written into a builder that has nothing. -/
theorem WriteString_nil (hn : 2 ≤ n) {hp : AHeap} {b : Nat} (w : BW hp b [] [b]) : ∃ hp', C n 59 [.ptr b 0 0, .str []] hp = some (.ret (.tup [i64 0, .nili]), hp') ∧ BW hp' b [] [b] := by
  obtain ⟨m, rfl⟩ : ∃ m, n = m + 1 := ⟨n - 1, by omega⟩
  obtain ⟨hp1, t, buf, e1, h1, h3, h4, k1⟩ := copyCheck_eq (n := m) (by omega) w
  rcases h4 with ⟨rfl, _, _⟩ | ⟨bb, ver, frz, rfl, g2, g3, g4, e⟩
  · refine ⟨hp1.set b (.cells 0 (some t) (putAt [.ptr b 0 0, .lst 0 [] true] 1 [.lst 0 [] true]) 0), ?_, ⟨t, .ptr b 0 0, .lst 0 [] true, ?_, .inr rfl, h3, .inl ⟨rfl, rfl, rfl⟩⟩⟩
    · refine fun_inl F59 rfl rfl ?_
      conv => whnf
      refine clI e1 ?_
      conv => whnf
      refine ldI h1 ?_
      refine ⟨_, (show appR hp1 5 1 (.lst 0 [] true) (.str []) = some (.lst 0 [] true, none) from rfl), ?_⟩
      conv => whnf
      refine stI h1 (xs := [.lst 0 [] true]) (by rfl) (by rfl) (by rfl) (by rfl) ?_
      exact ⟨rfl, [i64 0, .nili], rfl, rfl, rfl⟩
    · rw [List.getElem?_set_self (lt_of_get h1)]; rfl
  · simp at e
def textOf (l : List Page) : Str := l.flatMap (·.data)
theorem textOf_len {l : List Page} (hd : ∀ p ∈ l, p.data.length ≤ 1000) : (textOf l).length ≤ l.length * 1000 := by
  induction l with
  | nil => simp [textOf]
  | cons a r ih =>
    have h1 := ih fun p hp => hd p (List.mem_cons_of_mem _ hp)
    have h2 := hd a (List.mem_cons_self ..)
    simp only [textOf, List.flatMap_cons, List.length_append, List.length_cons] at h1 ⊢
    omega
theorem textOf_take {l : List Page} {j : Nat} (hj : j < l.length) : textOf (l.take (j + 1)) = textOf (l.take j) ++ l[j].data := by
  unfold textOf
  rw [List.take_succ_eq_append_getElem hj, List.flatMap_append]
  simp
theorem joinedText_eq (hn : 3 ≤ n) (l : List Page) (hl : l.length ≤ 1000) (hd : ∀ p ∈ l, p.data.length ≤ 1000) (sz : Nat) (hz : l ≠ [] → sz = 10) (c : Bool) : C n 95 [.lst sz (l.map Page.av) c] h = some (.ret (.str (textOf l)), h) := by
  obtain ⟨m, rfl⟩ : ∃ m, n = m + 1 := ⟨n - 1, by omega⟩
  refine fun_pure F95 rfl rfl rfl (pure_lst page_pure l rfl) ?_
  conv => whnf
  refine loopI (by decide) rfl (α := Nat × AHeap × List Nat) (fun x => ⟨[(3, .ptr 0 0 0), (6, .lst sz (l.map Page.av) c), (7, i64 l.length), (8, i64 x.1)], x.2.1, []⟩)
    (fun x => x.1 ≤ l.length ∧ BW x.2.1 0 (textOf (l.take x.1)) x.2.2 ∧ (textOf (l.take x.1) = [] → x.2.2 = [0])) (fun x => l.length - x.1) (0, [.cells 0 (some tBld) [.nilp, .lst 0 [] true] 0], [0]) ⟨⟨rfl, rfl, lenI _ _, rfl⟩, rfl, rfl⟩ ⟨Nat.zero_le _, ⟨tBld, .nilp, .lst 0 [] true, rfl, .inl rfl, .inl rfl, .inl ⟨rfl, rfl, rfl⟩⟩, fun _ => rfl⟩ (by show l.length - 0 < KK; simp only [KK]; omega) ?_
  rintro ⟨j, hp, F⟩ ⟨g1, g2, g3⟩
  simp only at g1 g2 g3
  have hlen : (textOf (l.take j)).length ≤ 1000000 := by
    have := textOf_len (l := l.take j) fun p hp => hd p (List.mem_of_mem_take hp)
    rw [List.length_take] at this
    have : min j l.length * 1000 ≤ 1000 * 1000 := Nat.mul_le_mul (by omega) (by omega)
    omega
  conv => whnf
  refine brd (fun a => ?_) (fun a => ?_)
  · have hj : j < l.length := by simp only at a; omega
    have hdj := hd l[j] (List.getElem_mem hj)
    have k1 : Keep hp ((hp ++ [AB.cells 0 (some tPage) [i64 0, i64 0, i64 0, i64 0, i64 0, .bool false, .lst 0 [] true, i64 0, .str [], .lst 0 [] true] 0]).set hp.length (AB.cells 0 (some tPage) (putAt [i64 0, i64 0, i64 0, i64 0, i64 0, .bool false, .lst 0 [] true, i64 0, .str [], .lst 0 [] true] 0 l[j].cells) 0)) [] := (Keep.app hp _ []).set' (.inr (Nat.le_refl _))
    have w1 := g2.stays k1 (fun x _ q => by cases q)
    obtain ⟨hp', F', eW, w2, w3⟩ : ∃ hp' F', C m 59 [.ptr 0 0 0, .str l[j].data] _ = some (.ret (.tup [i64 l[j].data.length, .nili]), hp') ∧ BW hp' 0 (textOf (l.take (j + 1))) F' ∧ (textOf (l.take (j + 1)) = [] → F' = [0]) := by
      by_cases e : textOf (l.take (j + 1)) = []
      · have e' := e
        rw [textOf_take hj, List.append_eq_nil_iff] at e
        have hF := g3 e.1
        rw [hF, e.1] at w1
        obtain ⟨hp', e1, e2⟩ := WriteString_nil (n := m) (by omega) w1
        rw [e.2]
        exact ⟨hp', [0], e1, by rw [e']; exact e2, fun _ => rfl⟩
      · obtain ⟨hp', F', e1, e2⟩ := WriteString_eq (n := m) (by omega) w1 l[j].data (by omega)
        exact ⟨hp', F', e1, by rw [textOf_take hj]; exact e2.1, fun q => (e q).elim⟩
    conv => whnf
    refine ixL page_cells hj hz ?_
    conv => whnf
    refine stI (get_last _ _) (xs := l[j].cells) (by rfl) (by rfl) (by rfl) (by rfl) ?_
    conv => whnf
    refine ldI (get_set_last _ _ _) ?_
    conv => whnf
    refine clI eW ?_
    conv => whnf
    refine zI (z := ((j + 1 : Nat) : Int)) (by rw [wrap_i64 (by omega) (by omega)]; rfl) ?_
    exact nxI (j + 1, hp', F') ⟨hj, w2, w3⟩ (by simp only; omega) ⟨⟨rfl, rfl, rfl, rfl⟩, rfl, rfl⟩
  · have hj : j = l.length := by simp only at a; omega
    subst hj
    rw [List.take_length] at g2 g3 hlen
    obtain ⟨hp', eS⟩ := String_nil (n := m) (by omega) g2 g3 (by omega)
    conv => whnf
    refine cutI (by decide) rfl (t := ⟨[(3, .ptr 0 0 0)], hp, []⟩) ⟨rfl, rfl, rfl⟩ ?_
    conv => whnf
    refine clI eS ?_
    conv => whnf
    exact retP rfl (frz_str rfl)
theorem numbersOf_eq (hn : 1 ≤ n) (l : List Page) (hl : l.length ≤ 1048576) (sz : Nat) (hz : l ≠ [] → sz = 10) (c : Bool) (hne : l ≠ []) : C n 96 [.lst sz (l.map Page.av) c] h = some (.ret (.lst 1 ((l.map Page.no).map i64) false), h) := by
  obtain ⟨m, rfl⟩ : ∃ m, n = m + 1 := ⟨n - 1, by omega⟩
  refine fun_pure F96 rfl rfl rfl (pure_lst page_pure l rfl) ?_
  conv => whnf
  refine loopI (by decide) rfl (α := Nat × AV × AHeap) (fun x => ⟨[(3, x.2.1), (6, .lst sz (l.map Page.av) c), (7, i64 l.length), (8, i64 x.1)], x.2.2, []⟩)
    (fun x => x.1 ≤ l.length ∧ VBuf 3 1 x.2.2 x.2.1 ((((l.take x.1).map Page.no).map i64).map fun x => [x])) (fun x => l.length - x.1) (0, .lst 0 [] true, []) ⟨⟨rfl, rfl, lenI _ _, rfl⟩, rfl, rfl⟩ ⟨Nat.zero_le _, VBuf.nil⟩ (by show l.length - 0 < KK; simp only [KK]; omega) ?_
  rintro ⟨j, L, hp⟩ ⟨g1, g2⟩
  simp only at g1 g2
  conv => whnf
  refine brd (fun a => ?_) (fun a => ?_)
  · have hj : j < l.length := by simp only at a; omega
    have b1 := g2.fresh (k := hp.length) (.cells 0 (some tPage) (putAt [i64 0, i64 0, i64 0, i64 0, i64 0, .bool false, .lst 0 [] true, i64 0, .str [], .lst 0 [] true] 0 l[j].cells) 0) (Nat.le_refl _) [.cells 0 (some tPage) [i64 0, i64 0, i64 0, i64 0, i64 0, .bool false, .lst 0 [] true, i64 0, .str [], .lst 0 [] true] 0]
    obtain ⟨v, hp', ea, b', _⟩ := vbuf_app (x := .lst 1 [i64 l[j].no] true) b1 rfl (vfirst_one _ rfl) ⟨rfl, rfl⟩ (by simp; omega)
    conv => whnf
    refine ixL page_cells hj hz ?_
    conv => whnf
    refine stI (get_last _ _) (xs := l[j].cells) (by rfl) (by rfl) (by rfl) (by rfl) ?_
    conv => whnf
    refine ldI (get_set_last _ _ _) ?_
    conv => whnf
    refine ⟨rfl, ?_⟩
    conv => whnf
    refine apI ea ?_
    conv => whnf
    refine zI (z := ((j + 1 : Nat) : Int)) (by rw [wrap_i64 (by omega) (by omega)]; rfl) ?_
    refine nxI (j + 1, v, hp') ⟨hj, ?_⟩ (by simp only; omega) ⟨⟨rfl, rfl, rfl, rfl⟩, rfl, rfl⟩
    simp only
    rw [List.take_succ_eq_append_getElem hj]
    simp only [List.map_append, List.map_cons, List.map_nil]
    exact b'
  · have hj : j = l.length := by simp only at a; omega
    subst hj
    rw [List.take_length] at g2
    conv => whnf
    refine cutI (by decide) rfl (t := ⟨[(3, L)], hp, []⟩) ⟨rfl, rfl, rfl⟩ ?_
    conv => whnf
    refine retP rfl ?_
    exact vbuf_frzN (by simpa using hne) g2 (fun x hx => by obtain ⟨k, _, rfl⟩ := List.mem_map.1 hx; rfl)
end
end Go.Proofs
/- The looked-up text of the functions. -/
namespace Go.Proofs
open Go Go.Abs
/- f67 understory/page.read: 61 temporaries, depth 6, 1 parameters, results [*t2, *t3] -/
def c67 : RC :=
 (.seq (.ops [(oP 2 (.alloc 25 [(.int .i64 0), (.int .i64 0), (.int .i64 0), (.int .i64 0), (.int .i64 0), (.bool false), (.lst 0 [] true), (.int .i64 0), (.str []), (.lst 0 [] true)])),
 (oP 3 (.alloc 4 [(.bool false)]))])
 (.seq (.ops [(oP 8 (.mkFn (.func 118) [] [(.t 2), (.t 3)])),
 ⟨none, none, .dfr { callee := .value (.tmp 8), args := #[], argTypes := #[] }⟩])
 (.seq (.ops [(mV 9 0),
 (oP 10 (.sliceS (.t 9) none (some (.c (.int .i64 508))))),
 (oP 11 (.build [(.str []), (.int .i64 0)] [(0, 1, (.t 10)), (1, 1, (.c (.int .i64 1)))])),
 (oP 12 (.build [(.str []), (.int .i64 0)] [(0, 2, (.t 11))])),
 (oP 13 (.box 145 (.t 12))),
 (mV 4 13)])
 (.seq (.ops [(mV 14 4),
 (oP 15 (.callF 78 [(.t 14), (.c (.int .i64 1))])),
 (oP 16 (.fieldAddr 0 (.t 2))),
 (oU (.store 1 (.t 16) (.t 15)))])
 (.seq (.ops [(mV 17 4),
 (oP 18 (.callF 78 [(.t 17), (.c (.int .i64 4))])),
 (oP 19 (.fieldAddr 1 (.t 2))),
 (oU (.store 1 (.t 19) (.t 18)))])
 (.seq (.ops [(mV 20 4),
 (oP 21 (.callF 78 [(.t 20), (.c (.int .i64 6))])),
 (oP 22 (.fieldAddr 2 (.t 2))),
 (oU (.store 1 (.t 22) (.t 21)))])
 (.cut (.seq (.seq (.ops [(mV 23 4),
 (oP 24 (.fieldAddr 0 (.t 2))),
 (oP 25 (.load false 1 (.t 24))),
 (oP 26 (.callF 119 [(.t 23), (.t 25)]))])
 (.block 0
 (.seq (.ops [(oP 27 (.asrt 178 true true (.t 26))),
 (oP 28 (.extract (.t 27) 1)),
 (oP 29 (.extract (.t 27) 0))])
 (.cond (.t 28)
 (.seq (.ops [(oP 5 (.alloc 178 [(.int .i64 0), (.int .i64 0), (.bool false), (.lst 0 [] true)])),
 (oU (.store 4 (.t 5) (.t 29)))])
 (.draw [((oP 30 (.fieldAddr 0 (.t 5))), 0),
 ((oP 31 (.load false 1 (.t 30))), 1),
 ((oP 32 (.fieldAddr 1 (.t 5))), 0),
 ((oP 33 (.load false 1 (.t 32))), 1),
 ((oP 34 (.fieldAddr 2 (.t 5))), 0),
 ((oP 35 (.load false 1 (.t 34))), 1),
 ((oP 36 (.fieldAddr 3 (.t 5))), 0),
 ((oP 37 (.load false 1 (.t 36))), 1),
 ((oP 38 (.fieldAddr 3 (.t 2))), 0),
 ((oU (.store 1 (.t 38) (.t 31))), 2),
 ((oP 39 (.fieldAddr 4 (.t 2))), 0),
 ((oU (.store 1 (.t 39) (.t 33))), 2),
 ((oP 40 (.fieldAddr 5 (.t 2))), 0),
 ((oU (.store 1 (.t 40) (.t 35))), 2),
 ((oP 41 (.fieldAddr 6 (.t 2))), 0),
 ((oU (.store 1 (.t 41) (.t 37))), 3)]))
 (.seq (.ops [(oP 42 (.asrt 174 true true (.t 26))),
 (oP 43 (.extract (.t 42) 1)),
 (oP 44 (.extract (.t 42) 0))])
 (.cond (.t 43)
 (.seq (.ops [(oP 6 (.alloc 174 [(.int .i64 0), (.str [])])),
 (oU (.store 2 (.t 6) (.t 44)))])
 (.draw [((oP 45 (.fieldAddr 0 (.t 6))), 0),
 ((oP 46 (.load false 1 (.t 45))), 1),
 ((oP 47 (.fieldAddr 1 (.t 6))), 0),
 ((oP 48 (.load false 1 (.t 47))), 1),
 ((oP 49 (.fieldAddr 7 (.t 2))), 0),
 ((oU (.store 1 (.t 49) (.t 46))), 2),
 ((oP 50 (.fieldAddr 8 (.t 2))), 0),
 ((oU (.store 1 (.t 50) (.t 48))), 3)]))
 (.seq (.ops [(oP 51 (.asrt 176 true true (.t 26))),
 (oP 52 (.extract (.t 51) 1)),
 (oP 53 (.extract (.t 51) 0))])
 (.cond (.t 52)
 (.seq (.ops [(oP 7 (.alloc 176 [(.int .i64 0), (.lst 0 [] true)])),
 (oU (.store 2 (.t 7) (.t 53)))])
 (.draw [((oP 54 (.fieldAddr 0 (.t 7))), 0),
 ((oP 55 (.load false 1 (.t 54))), 1),
 ((oP 56 (.fieldAddr 1 (.t 7))), 0),
 ((oP 57 (.load false 1 (.t 56))), 1),
 ((oP 58 (.fieldAddr 7 (.t 2))), 0),
 ((oU (.store 1 (.t 58) (.t 55))), 2),
 ((oP 59 (.fieldAddr 9 (.t 2))), 0),
 ((oU (.store 1 (.t 59) (.t 57))), 3)]))
 .skip))))))))
 (.seq (.ops [(oP 60 (.load true 10 (.t 2))),
 (oU (.store 10 (.t 2) (.t 60))),
 (oU (.store 1 (.t 3) (.c (.bool true))))])
 .ret)))))))))
theorem F67 : FI 67 1 61 6 [.cell 2 25, .cell 3 4] c67 := ⟨⟨Tryz.f67, Tryz.func67, by kernel_rfl, by kernel_rfl, by kernel_rfl⟩, by kernel_rfl, by decide, by kernel_rfl⟩
/- f118 understory/page.read$1: 17 temporaries, depth 5, 0 parameters, results [] -/
def c118 : RC :=
 (.seq (.ops [(oP 5 (.raw { dst := (some 5), op := (.call { callee := .builtin .recover, args := #[], argTypes := #[] }), type := 20, pos := "block.go:262", after := #[], guard := none })),
 (mV 2 5)])
 (.seq (.ops [(mV 6 2),
 (oP 7 (.isNilI true (.t 6)))])
 (.cond (.t 7)
 (.seq (.seq (.ops [(mV 9 2),
 (oP 10 (.asrt 190 true true (.t 9))),
 (mV 8 10),
 (oP 11 (.extract (.t 8) 0)),
 (oP 12 (.extract (.t 8) 1)),
 (oP 3 (.alloc 190 [])),
 (oU (.store 0 (.t 3) (.t 11))),
 (mV 4 12)])
 (.seq (.ops [(mV 13 4),
 (oP 14 (.un .not (.t 13)))])
 (.cond (.t 14)
 (.ops [(mV 15 2),
 ⟨none, none, .pan (.t 15)⟩])
 .skip)))
 (.ops [(oP 16 (.build [(.int .i64 0), (.int .i64 0), (.int .i64 0), (.int .i64 0), (.int .i64 0), (.bool false), (.lst 0 [] true), (.int .i64 0), (.str []), (.lst 0 [] true)] [])),
 (oU (.store 10 (.t 0) (.t 16))),
 (oU (.store 1 (.t 1) (.c (.bool false))))]))
 .skip)))
end Go.Proofs
/- The looked-up text of the functions. -/
namespace Go.Proofs
open Go Go.Abs
/- f18 understory/page.Head: 42 temporaries, depth 6, 1 parameters, results [t2, t3, t4, t5] -/
def c18 : RC :=
 (.seq (.ops [(oP 2 (.mv (.c (.int .i64 0)))),
 (oP 3 (.mv (.c (.int .i64 0)))),
 (oP 4 (.mv (.c (.int .i64 0)))),
 (oP 5 (.mv (.c (.int .i64 0))))])
 (.seq (.seq (.ops [(mV 7 0),
 (oP 8 (.lenS (.t 7))),
 (oP 9 (.bin .neq (.t 8) (.c (.int .i64 512)))),
 (mV 10 9),
 (oG 11 10 false (.mv (.t 0))),
 (oG 12 10 false (.indexS (.t 11) (.c (.int .i64 0)))),
 (oG 13 10 false (.bin .neq (.t 12) (.c (.int .u8 85)))),
 (oP 14 (.pick (.t 10) (.c (.bool true)) (.t 13))),
 (mV 15 14),
 (oG 16 15 false (.mv (.t 0))),
 (oG 17 15 false (.sliceS (.t 16) none (some (.c (.int .i64 508))))),
 (oG 18 15 false (.callF 62 [(.t 17)])),
 (oG 19 15 false (.mv (.t 0))),
 (oG 20 15 false (.bin .neq (.t 18) (.t 19))),
 (oP 21 (.pick (.t 15) (.c (.bool true)) (.t 20))),
 (mV 22 21),
 (oG 23 22 false (.mv (.t 0))),
 (oG 24 22 false (.indexS (.t 23) (.c (.int .i64 1)))),
 (oG 25 22 false (.toInt .i64 (.t 24))),
 (oG 26 22 false (.callF 71 [(.t 25), (.c (.int .i64 1)), (.c (.int .i64 4))])),
 (oG 27 22 false (.un .not (.t 26))),
 (oP 28 (.pick (.t 22) (.c (.bool true)) (.t 27)))])
 (.cond (.t 28)
 (.seq (.ops [(oP 2 (.mv (.c (.int .i64 0)))),
 (oP 3 (.mv (.c (.int .i64 0)))),
 (oP 4 (.mv (.c (.int .i64 0)))),
 (oP 5 (.mv (.c (.int .i64 8))))])
 .ret)
 .skip))
 (.seq (.ops [(mV 29 0),
 (oP 30 (.build [(.str []), (.int .i64 0)] [(0, 1, (.t 29)), (1, 1, (.c (.int .i64 1)))])),
 (oP 31 (.build [(.str []), (.int .i64 0)] [(0, 2, (.t 30))])),
 (oP 32 (.box 145 (.t 31))),
 (mV 6 32)])
 (.seq (.ops [(mV 33 6),
 (oP 34 (.callF 78 [(.t 33), (.c (.int .i64 1))])),
 (mV 2 34)])
 (.seq (.ops [(mV 35 6),
 (oP 36 (.callF 78 [(.t 35), (.c (.int .i64 4))])),
 (mV 3 36)])
 (.seq (.ops [(mV 37 6),
 (oP 38 (.callF 78 [(.t 37), (.c (.int .i64 6))])),
 (mV 4 38)])
 (.seq (.ops [(mV 39 2),
 (mV 40 3),
 (mV 41 4),
 (mV 2 39),
 (mV 3 40),
 (mV 4 41),
 (oP 5 (.mv (.c (.int .i64 0))))])
 .ret)))))))
theorem F18 : FI 18 1 42 6 [.tmp 2, .tmp 3, .tmp 4, .tmp 5] c18 := ⟨⟨Tryz.f18, Tryz.func18, by kernel_rfl, by kernel_rfl, by kernel_rfl⟩, by kernel_rfl, by decide, by kernel_rfl⟩
/- f14 understory/page.Decode: 48 temporaries, depth 6, 1 parameters, results [*t2, t3] -/
def c14 : RC :=
 (.seq (.ops [(oP 2 (.alloc 25 [(.int .i64 0), (.int .i64 0), (.int .i64 0), (.int .i64 0), (.int .i64 0), (.bool false), (.lst 0 [] true), (.int .i64 0), (.str []), (.lst 0 [] true)])),
 (oP 3 (.mv (.c (.int .i64 0))))])
 (.seq (.seq (.ops [(mV 13 0),
 (oP 14 (.callF 18 [(.t 13)])),
 (mV 12 14),
 (oP 15 (.extract (.t 12) 0)),
 (oP 16 (.extract (.t 12) 1)),
 (oP 17 (.extract (.t 12) 2)),
 (oP 18 (.extract (.t 12) 3)),
 (mV 4 15),
 (mV 5 16),
 (mV 6 17),
 (mV 7 18)])
 (.seq (.ops [(mV 19 7),
 (oP 20 (.bin .neq (.t 19) (.c (.int .i64 0))))])
 (.cond (.t 20)
 (.seq (.ops [(oP 21 (.build [(.int .i64 0), (.int .i64 0), (.int .i64 0), (.int .i64 0), (.int .i64 0), (.bool false), (.lst 0 [] true), (.int .i64 0), (.str []), (.lst 0 [] true)] [])),
 (mV 22 7),
 (oU (.store 10 (.t 2) (.t 21))),
 (mV 3 22)])
 .ret)
 .skip)))
 (.seq (.ops [(mV 24 0),
 (oP 25 (.callF 67 [(.t 24)])),
 (mV 23 25),
 (oP 26 (.extract (.t 23) 0)),
 (oP 27 (.extract (.t 23) 1)),
 (oP 8 (.alloc 25 [(.int .i64 0), (.int .i64 0), (.int .i64 0), (.int .i64 0), (.int .i64 0), (.bool false), (.lst 0 [] true), (.int .i64 0), (.str []), (.lst 0 [] true)])),
 (oU (.store 10 (.t 8) (.t 26))),
 (mV 9 27)])
 (.seq (.seq (.ops [(mV 28 9),
 (oP 29 (.un .not (.t 28))),
 (mV 30 29),
 (oG 31 30 false (.load true 10 (.t 8))),
 (oG 32 30 false (.callF 16 [(.t 31)])),
 (oG 33 30 false (.bin .neq (.t 32) (.c (.int .i64 0)))),
 (oP 34 (.pick (.t 30) (.c (.bool true)) (.t 33)))])
 (.cond (.t 34)
 (.seq (.ops [(oP 35 (.build [(.int .i64 0), (.int .i64 0), (.int .i64 0), (.int .i64 0), (.int .i64 0), (.bool false), (.lst 0 [] true), (.int .i64 0), (.str []), (.lst 0 [] true)] [])),
 (oU (.store 10 (.t 2) (.t 35))),
 (oP 3 (.mv (.c (.int .i64 8))))])
 .ret)
 .skip))
 (.seq (.ops [(oP 37 (.load true 10 (.t 8))),
 (oP 38 (.callF 12 [(.t 37)])),
 (mV 36 38),
 (oP 39 (.extract (.t 36) 0)),
 (oP 40 (.extract (.t 36) 1)),
 (mV 10 39),
 (mV 11 40)])
 (.seq (.seq (.ops [(mV 41 10),
 (oP 42 (.callF 68 [(.t 41)])),
 (mV 43 0),
 (oP 44 (.callF 68 [(.t 43)])),
 (oP 45 (.cmp true 136 (.t 42) (.t 44)))])
 (.cond (.t 45)
 (.seq (.ops [(oP 46 (.build [(.int .i64 0), (.int .i64 0), (.int .i64 0), (.int .i64 0), (.int .i64 0), (.bool false), (.lst 0 [] true), (.int .i64 0), (.str []), (.lst 0 [] true)] [])),
 (oU (.store 10 (.t 2) (.t 46))),
 (oP 3 (.mv (.c (.int .i64 8))))])
 .ret)
 .skip))
 (.seq (.ops [(oP 47 (.load true 10 (.t 8))),
 (oU (.store 10 (.t 2) (.t 47))),
 (oP 3 (.mv (.c (.int .i64 0))))])
 .ret)))))))
theorem F14 : FI 14 1 48 6 [.cell 2 25, .tmp 3] c14 := ⟨⟨Tryz.f14, Tryz.func14, by kernel_rfl, by kernel_rfl, by kernel_rfl⟩, by kernel_rfl, by decide, by kernel_rfl⟩
end Go.Proofs
/- Contracts: nodes that are written into a builder. -/
set_option linter.unusedVariables false
set_option linter.unusedSimpArgs false
namespace Go.Proofs
open Go Go.Abs

theorem cp_take : ∀ (x y : Str), x.take (cp x y) = y.take (cp x y)
  | [], y => by simp [cp]
  | a :: x, [] => by simp [cp]
  | a :: x, b :: y => by
    simp only [cp]
    split
    · rename_i h; subst h; simp [cp_take x y]
    · rfl
theorem pre2_left (p k : Str) : pre2 p k <+: p := List.take_prefix _ _
theorem pre2_right (p k : Str) : pre2 p k <+: k := by unfold pre2; rw [cp_take]; exact List.take_prefix _ _
theorem fold_prefix : ∀ (l : List Entry) (p : Str), l.foldl (fun p e => pre2 p e.key) p <+: p ∧ ∀ e ∈ l, l.foldl (fun p e => pre2 p e.key) p <+: e.key
  | [], p => ⟨List.prefix_refl _, fun e h => by cases h⟩
  | a :: r, p => by
    obtain ⟨h1, h2⟩ := fold_prefix r (pre2 p a.key)
    refine ⟨h1.trans (pre2_left _ _), fun e he => ?_⟩
    rcases List.mem_cons.1 he with rfl | he
    · exact h1.trans (pre2_right _ _)
    · exact h2 e he
theorem shared_prefix (l : List Entry) (lv : Int) : ∀ e ∈ tailE l lv, shared l lv <+: e.key := by
  intro e he
  unfold shared
  cases ht : tailE l lv with
  | nil => rw [ht] at he; cases he
  | cons a r =>
    rw [ht] at he
    obtain ⟨h1, h2⟩ := fold_prefix r a.key
    rcases List.mem_cons.1 he with rfl | he
    · exact h1
    · exact h2 e he
def cutAt (l : List Entry) (lv : Int) (i : Nat) : Nat := if i = 0 ∧ 0 < lv then 0 else (shared l lv).length
theorem cutAt_prefix {l : List Entry} {lv : Int} {i : Nat} (hi : i < l.length) (h : ¬ (i = 0 ∧ 0 < lv)) : shared l lv <+: l[i].key := by
  refine shared_prefix l lv _ ?_
  unfold tailE
  split
  · rename_i hl
    obtain ⟨k, rfl⟩ : ∃ k, i = k + 1 := ⟨i - 1, by omega⟩
    rw [List.mem_iff_getElem]
    exact ⟨k, by simp; omega, by simp [Nat.add_comm]⟩
  · exact List.getElem_mem hi
theorem cutAt_le {l : List Entry} {lv : Int} {i : Nat} (hi : i < l.length) : cutAt l lv i ≤ l[i].key.length := by
  unfold cutAt
  split
  · omega
  · rename_i h; exact (cutAt_prefix hi h).length_le

theorem nn_form {e : Entry} (hf : formOf e ≠ 0) : e.Nn ∧ e.key.length ≤ 48 ∧ e.val.length ≤ 64 := by
  have hk := form_key hf
  unfold formOf at hf
  split at hf
  · exact (hf rfl).elim
  split at hf
  · rename_i h
    simp [isShort] at h
    obtain ⟨⟨⟨⟨⟨h1, h2⟩, h3⟩, h4⟩, _⟩, h5⟩ := h
    exact ⟨⟨by omega, by omega, by omega, by omega⟩, by omega, h5⟩
  split at hf
  · exact (hf rfl).elim
  rename_i hv
  simp at hv
  split at hf
  · rename_i h
    simp [isLong, numbered, within] at h
    exact ⟨⟨by omega, by omega, by omega, by omega⟩, by omega, by simp [hv]⟩
  split at hf
  · rename_i h
    simp [isNest, numbered, within] at h
    exact ⟨⟨by omega, by omega, by omega, by omega⟩, by omega, by simp [hv]⟩
  · exact (hf rfl).elim
theorem nn_branch {e : Entry} (h : branches e = true) : e.Nn ∧ e.key.length ≤ 48 ∧ e.val.length ≤ 64 := by
  simp [branches, numbered, within] at h
  obtain ⟨⟨⟨⟨⟨h1, h2⟩, h3⟩, h4⟩, h5⟩, h6⟩ := h
  exact ⟨⟨by omega, by omega, by omega, by omega⟩, by omega, by simp [h2]⟩
theorem valid_nn {l : List Entry} {lv : Int} (hv : valid l lv = true) : ∀ e ∈ l, e.Nn ∧ e.key.length ≤ 48 ∧ e.val.length ≤ 64 := by
  obtain ⟨h1, h2, h3, h4⟩ := valid_iff.1 hv
  intro e he
  obtain ⟨j, hj, rfl⟩ := List.getElem_of_mem he
  have := h4 j hj
  rw [vAt_unf hj] at this
  by_cases e0 : lv = 0
  · subst e0
    simp at this
    exact nn_form this.1
  · simp [e0] at this
    exact nn_branch this.1.1

def entsB (l : List Entry) (lv : Int) (k : Nat) : Str := (List.range k).flatMap fun i => entB (cutAt l lv i) (l.getD i default) lv
def offsB (l : List Entry) (lv : Int) (base k : Nat) : Str := (List.range k).flatMap fun i => num (base + (entsB l lv i).length) 2
def nodeB (tree lv : Int) (top : Bool) (l : List Entry) (base : Nat) : Str :=
  num tree.toNat 1 ++ (num lv.toNat 1 ++ (num (if top then 1 else 0) 1 ++ (num (shared l lv).length 1 ++ (num l.length 2 ++ (shared l lv ++ (offsB l lv (base + 6 + (shared l lv).length + 2 * l.length) l.length ++ entsB l lv l.length))))))
theorem entsB_succ (l : List Entry) (lv : Int) {k : Nat} (hk : k < l.length) : entsB l lv (k + 1) = entsB l lv k ++ entB (cutAt l lv k) l[k] lv := by
  unfold entsB
  rw [List.range_succ, List.flatMap_append, List.flatMap_cons, List.flatMap_nil, List.append_nil, ← getD_at hk]
theorem offsB_succ (l : List Entry) (lv : Int) (base k : Nat) : offsB l lv base (k + 1) = offsB l lv base k ++ num (base + (entsB l lv k).length) 2 := by
  unfold offsB
  rw [List.range_succ, List.flatMap_append, List.flatMap_cons, List.flatMap_nil, List.append_nil]
theorem offsB_len (l : List Entry) (lv : Int) (base : Nat) : ∀ k, (offsB l lv base k).length = 2 * k
  | 0 => rfl
  | k + 1 => by rw [offsB_succ, List.length_append, offsB_len l lv base k, num_len]; omega
theorem entB_len (c : Nat) (e : Entry) (lv : Int) : (entB c e lv).length ≤ 27 + e.key.length + e.val.length ∧ 1 ≤ (entB c e lv).length := by
  have := restB_len e lv
  unfold entB
  simp only [List.length_append, num_len, List.length_drop]
  omega
theorem entsB_len {l : List Entry} {lv : Int} (hv : valid l lv = true) : ∀ k, k ≤ l.length → (entsB l lv k).length ≤ 140 * k
  | 0, _ => by simp [entsB]
  | k + 1, hk => by
    have h1 := entsB_len hv k (by omega)
    have h2 := entB_len (cutAt l lv k) l[k] lv
    have h3 := valid_nn hv _ (List.getElem_mem (show k < l.length by omega))
    rw [entsB_succ l lv (by omega), List.length_append]
    omega

theorem Wrote.other {hp h h' : AHeap} {a b : Nat} {F G GA GA' : List Nat} {s sA : Str} (w : Wrote hp h b F G s) (v : Wrote h h' a GA GA' sA) (h1 : ∀ x ∈ GA, hp.length ≤ x) (h2 : ∀ x ∈ G, x ∉ GA) : Wrote hp h' b F G s :=
  ⟨w.1.stays v.2.1 h2, w.2.1.trans v.2.1 (fun x hx => .inr (h1 x hx)), w.2.2⟩
/-- Two builders that have nothing in common. -/
theorem Wrote.apart {h h' : AHeap} {b : Nat} {F F' GA : List Nat} {s : Str} (w : Wrote h h' b F F' s) (hd : ∀ x ∈ GA, x ∉ F) (hl : ∀ x ∈ GA, x < h.length) : ∀ x ∈ GA, x ∉ F' := fun x hx hf => by
  rcases w.2.2 x hf with q | q
  · exact hd x hx q
  · have := hl x hx; omega
end Go.Proofs
/- Contracts: nodes that are written into a builder (the walk). -/
set_option linter.unusedVariables false
set_option linter.unusedSimpArgs false
namespace Go.Proofs
open Go Go.Abs
def zeroE : Entry := ⟨[], [], 0, 0, 0, 0, Dg.zero⟩
def nodeXs (tree lv : Int) (top : Bool) (l : List Entry) (sz : Nat) (c : Bool) : List AV := [i64 tree, i64 lv, .bool top, .lst sz (l.map Entry.av) c]
section
variable {n : Nat} {hp : AHeap} {b : Nat} {bs : Str} {F : List Nat} {K X : AV → AHeap → Prop}

theorem node_eq (hn : 5 ≤ n) (w : BW hp b bs F) (tree lv : Int) (top : Bool) (h0 : 0 ≤ tree) (l : List Entry) (sz : Nat) (hz : l ≠ [] → sz = 22) (c : Bool) (hv : valid l lv = true) (hl : l.length ≤ 1000) (hbs : bs.length ≤ 1000) :
    ∃ hp' F', C n 220 [.agg (nodeXs tree lv top l sz c), .ptr b 0 0] hp = some (.ret (.tup []), hp') ∧ Wrote hp hp' b F F' (bs ++ nodeB tree lv top l bs.length) := by
  obtain ⟨m, rfl⟩ : ∃ m, n = m + 1 := ⟨n - 1, by omega⟩
  have := fun_inlR (n := m) (c := cfg0) (args := [.agg (nodeXs tree lv top l sz c), .ptr b 0 0]) (h := hp) (R := fun v hp' => v = .tup [] ∧ ∃ F', Wrote hp hp' b F F' (bs ++ nodeB tree lv top l bs.length)) F220 rfl rfl ?_
  · obtain ⟨v, hp', e, rfl, F', hW⟩ := this
    exact ⟨hp', F', e, hW⟩
  obtain ⟨⟨lv0, lv20⟩, hne, _, _⟩ := valid_iff.1 hv
  have hnn := valid_nn hv
  have hpre := shared_len hv
  obtain ⟨w1, e1, ne1⟩ := w.app (.cells 0 (some 178) (nodeXs tree lv top l sz c) 0)
  conv => whnf
  refine ldI e1 ?_
  conv => whnf
  refine ldI e1 ?_
  conv => whnf
  refine clI (shared_eq (n := m) (by omega) l (by omega) (fun e h => by have := hnn e h; exact ⟨by omega, by omega⟩) lv (valid_tail hv) sz hz c) ?_
  conv => whnf
  refine ldI e1 ?_
  conv => whnf
  refine numC (n := m) (hp := hp ++ [.cells 0 (some 178) (nodeXs tree lv top l sz c) 0]) (by omega) w1 tree h0 1 (by omega) (by omega) fun h2 F2 w2 => ?_
  have e2 := (w2.keep e1 ne1).1
  have ne2 := (w2.keep e1 ne1).2
  conv => whnf
  refine ldI e2 ?_
  conv => whnf
  refine numC (n := m) (hp := h2) (by omega) w2.1 lv (by omega) 1 (by omega) (by simp only [List.length_append, num_len]; omega) fun h3 F3 w3 => ?_
  have e3 := (w3.keep e2 ne2).1
  have ne3 := (w3.keep e2 ne2).2
  have rest : ∀ (k : Int) (s' : LS), k = (if top then 1 else 0) → LS.sub ⟨[(1, .ptr b 0 0), (2, .ptr hp.length 0 0), (4, .str (shared l lv)), (5, i64 k)], h3, []⟩ s' →
      OkR Tryz.prog (C m) cfg0.inl KK 86 7 (cutOf c220) s' (RetQ Tryz.prog [] fun v hp' => v = .tup [] ∧ ∃ F', Wrote hp hp' b F F' (bs ++ nodeB tree lv top l bs.length)) := by
    intro k s' hk hs'
    have hk01 : 0 ≤ k ∧ k ≤ 1 := by subst hk; split <;> omega
    refine cutI (by decide) rfl hs' ?_
    conv => whnf
    refine numC (n := m) (hp := h3) (by omega) w3.1 k (by omega) 1 (by omega) (by simp only [List.length_append, num_len]; omega) fun h4 F4 w4 => ?_
    have e4 := (w4.keep e3 ne3).1
    have ne4 := (w4.keep e3 ne3).2
    conv => whnf
    refine numC (n := m) (hp := h4) (by omega) w4.1 ((shared l lv).length : Int) (by omega) 1 (by omega) (by simp only [List.length_append, num_len]; omega) fun h5 F5 w5 => ?_
    have e5 := (w5.keep e4 ne4).1
    have ne5 := (w5.keep e4 ne4).2
    conv => whnf
    refine ldI e5 ?_
    conv => whnf
    have el : ((l.map Entry.av).length : Int) = (l.length : Int) := by rw [List.length_map]
    rw [el]
    refine numC (n := m) (hp := h5) (by omega) w5.1 (l.length : Int) (by omega) 2 (by omega) (by simp only [List.length_append, num_len]; omega) fun h6 F6 w6 => ?_
    have e6 := (w6.keep e5 ne5).1
    have ne6 := (w6.keep e5 ne5).2
    conv => whnf
    refine strC (n := m) (hp := h6) (by omega) w6.1 (shared l lv) (by simp only [List.length_append, num_len]; omega) fun h7 F7 w7 => ?_
    have e7 := (w7.keep e6 ne6).1
    have ne7 := (w7.keep e6 ne6).2
    have W7 := ((w2.trans (w3.trans (w4.trans (w5.trans (w6.trans w7))))).of_app)
    obtain ⟨w8, a8, na8⟩ := w7.1.app (.cells 0 (some 117) [.nilp, .lst 0 [] true] 0)
    have e8 := get_app (x := .cells 0 (some 117) [.nilp, .lst 0 [] true] 0) e7
    have hA : h7.length ∉ F7 := na8
    have hlen : hp.length ≤ h7.length := W7.2.1.1
    have hlen8 : (bs ++ num tree.toNat 1 ++ num lv.toNat 1 ++ num k.toNat 1 ++ num ((shared l lv).length : Int).toNat 1 ++ num (l.length : Int).toNat 2 ++ shared l lv).length = bs.length + 6 + (shared l lv).length := by
      simp only [List.length_append, num_len]
    conv => whnf
    refine ldI e8 ?_
    conv => whnf
    rw [el]
    refine zI (z := 2 * (l.length : Int)) (wrap_i64 (by omega) (by omega)) ?_
    conv => whnf
    refine clI (Len_eq (n := m) (by omega) w8) ?_
    conv => whnf
    refine ⟨?_, ?_⟩
    · conv => whnf
      exact ldI e8 rfl
    conv => whnf
    refine zI (z := ((bs.length + 6 + (shared l lv).length + 2 * l.length : Nat) : Int)) (by rw [hlen8, wrap_i64 (by omega) (by omega)]; omega) ?_
    conv => whnf
    refine ldI e8 ?_
    conv => whnf
    refine loopI (by decide) rfl (α := Nat × List Nat × List Nat × AHeap) (fun x => ⟨[(1, .ptr b 0 0), (2, .ptr hp.length 0 0), (4, .str (shared l lv)), (6, .ptr h7.length 0 0), (7, i64 (bs.length + 6 + (shared l lv).length + 2 * l.length : Nat)), (53, .lst sz (l.map Entry.av) c), (54, i64 l.length), (55, i64 x.1)], x.2.2.2, []⟩)
      (fun x => x.1 ≤ l.length ∧ Wrote hp x.2.2.2 b F x.2.1 (bs ++ (num tree.toNat 1 ++ (num lv.toNat 1 ++ (num k.toNat 1 ++ (num (shared l lv).length 1 ++ (num l.length 2 ++ (shared l lv ++ offsB l lv (bs.length + 6 + (shared l lv).length + 2 * l.length) x.1))))))) ∧ BW x.2.2.2 h7.length (entsB l lv x.1) x.2.2.1 ∧
        (∀ y ∈ x.2.2.1, hp.length < y ∧ y ∉ x.2.1) ∧ x.2.2.2[hp.length]? = some (.cells 0 (some 178) (nodeXs tree lv top l sz c) 0) ∧ hp.length ∉ x.2.1) (fun x => l.length - x.1) (0, F7, [h7.length], h7 ++ [.cells 0 (some 117) [.nilp, .lst 0 [] true] 0]) ⟨⟨rfl, rfl, rfl, rfl, rfl, rfl, lenI _ _, rfl⟩, rfl, rfl⟩ ?_ (by show l.length - 0 < KK; simp only [KK]; omega) ?_
    · refine ⟨Nat.zero_le _, ?_, ⟨_, _, _, a8, .inl rfl, .inr rfl, .inl ⟨rfl, rfl, rfl⟩⟩, ?_, e8, ne7⟩
      · have W8 : Wrote hp (h7 ++ [.cells 0 (some 117) [.nilp, .lst 0 [] true] 0]) b F F7 _ := ⟨w8, W7.2.1.trans ((Keep.app h7 _ []).mono (by simp)) (fun x hx => .inl hx), W7.2.2⟩
        simpa [offsB, List.append_assoc] using W8
      · intro y hy
        simp at hy
        subst hy
        exact ⟨lt_of_get e7, hA⟩
    rintro ⟨j, G, GA, h⟩ ⟨g1, g2, g3, g4, g5, g6⟩
    simp only at g1 g2 g3 g4 g5 g6
    conv => whnf
    refine brd (fun a => ?_) (fun a => ?_)
    · have hj : j < l.length := by simp only at a; omega
      have hk' := hnn _ (List.getElem_mem hj)
      have hE1 := entsB_len hv j (by omega)
      have hO := offsB_len l lv (bs.length + 6 + (shared l lv).length + 2 * l.length) j
      obtain ⟨u0, x0, nx0⟩ := g2.1.app (.cells 0 (some 56) l[j].cells 0)
      have v0 := g3.stays (Keep.app h (.cells 0 (some 56) l[j].cells 0) []) (by simp)
      have nxA : h.length ∉ GA := fun q => by have := g3.lt _ q; omega
      have y0 := get_app (x := .cells 0 (some 56) l[j].cells 0) g5
      have es : (h ++ [AB.cells 0 (some 56) zeroE.cells 0]).set h.length (.cells 0 (some 56) l[j].cells 0) = h ++ [.cells 0 (some 56) l[j].cells 0] := by simp
      have u1 := es ▸ u0
      have x1 := es ▸ x0
      have v1 := es ▸ v0
      have y1 := es ▸ y0
      conv => whnf
      refine ixL entry_cells hj hz ?_
      conv => whnf
      refine stI (get_last _ _) (by rfl) (by rfl) (by rfl) (by rfl) ?_
      conv => whnf
      refine clI (Len_eq (n := m) (hp := (h ++ [AB.cells 0 (some 56) zeroE.cells 0]).set h.length (.cells 0 (some 56) l[j].cells 0)) (by omega) v1) ?_
      conv => whnf
      refine zI (z := (((bs.length + 6 + (shared l lv).length + 2 * l.length) + (entsB l lv j).length : Nat) : Int)) (by rw [wrap_i64 (by omega) (by omega)]; omega) ?_
      conv => whnf
      refine numC (n := m) (hp := (h ++ [AB.cells 0 (some 56) zeroE.cells 0]).set h.length (.cells 0 (some 56) l[j].cells 0)) (by omega) u1 _ (by omega) 2 (by omega) (by simp only [List.length_append, num_len, hO]; omega) fun h9 G9 w9 => ?_
      have x9 := (w9.keep x1 nx0).1
      have y9 := (w9.keep y1 g6).1
      have ny9 := (w9.keep y1 g6).2
      have v9 := v1.stays w9.2.1 fun x hx => (g4 x hx).2
      have w9' : Wrote h h9 b G G9 _ := Wrote.of_app (es ▸ w9)
      have W9 := g2.trans w9'
      have ap : ∀ x ∈ GA, x ∉ G9 := w9'.apart (fun x hx => (g4 x hx).2) g3.lt
      have call : ∀ {Q : Ex → LS → Prop} (cc : Nat) (s' : LS), cc = cutAt l lv j → LS.sub ⟨[(1, .ptr b 0 0), (2, .ptr hp.length 0 0), (4, .str (shared l lv)), (6, .ptr h7.length 0 0), (7, i64 ((bs.length + 6 + (shared l lv).length + 2 * l.length) : Nat)), (9, .ptr h.length 0 0), (10, i64 cc), (53, .lst sz (l.map Entry.av) c), (54, i64 l.length), (55, i64 j)], h9, []⟩ s' →
          (∀ h10 GA10, Wrote h9 h10 h7.length GA GA10 (entsB l lv j ++ entB (cutAt l lv j) l[j] lv) → ∀ L, subL [(1, .ptr b 0 0), (2, .ptr hp.length 0 0), (4, .str (shared l lv)), (6, .ptr h7.length 0 0), (7, i64 ((bs.length + 6 + (shared l lv).length + 2 * l.length) : Nat)), (53, .lst sz (l.map Entry.av) c), (54, i64 l.length), (55, i64 j)] L → Q .norm ⟨L, h10, []⟩) →
          OkR Tryz.prog (C m) cfg0.inl KK 86 7 (cutOf (c220.lp 0)) s' Q := by
        intro Q cc s' hcc hs' hQ
        subst hcc
        obtain ⟨h10, GA10, e10, w10⟩ := entry_eq (n := m) (by omega) v9 (nodeXs tree lv top l sz c) lv rfl rfl l[j] hk'.1 (cutAt l lv j) (cutAt_le hj) (by omega)
        refine cutI (by decide) rfl hs' ?_
        conv => whnf
        refine ldI y9 ?_
        conv => whnf
        refine ldI x9 ?_
        conv => whnf
        refine clI e10 ?_
        exact hQ h10 GA10 w10 _ ⟨rfl, rfl, rfl, rfl, rfl, rfl, rfl, rfl⟩
      have next : ∀ (L : LT) (h10 : AHeap) (GA10 : List Nat), Wrote h9 h10 h7.length GA GA10 (entsB l lv j ++ entB (cutAt l lv j) l[j] lv) →
          (Wrote hp h10 b F G9 (bs ++ (num tree.toNat 1 ++ (num lv.toNat 1 ++ (num k.toNat 1 ++ (num (shared l lv).length 1 ++ (num l.length 2 ++ (shared l lv ++ offsB l lv (bs.length + 6 + (shared l lv).length + 2 * l.length) (j + 1)))))))) ∧ BW h10 h7.length (entsB l lv (j + 1)) GA10 ∧
          (∀ y ∈ GA10, hp.length < y ∧ y ∉ G9) ∧ h10[hp.length]? = some (.cells 0 (some 178) (nodeXs tree lv top l sz c) 0) ∧ hp.length ∉ G9) := by
        intro L h10 GA10 w10
        refine ⟨?_, ?_, ?_, ?_, ny9⟩
        · have := W9.other w10 (fun x hx => by have := (g4 x hx).1; omega) (fun x hx q => ap x q hx)
          rw [offsB_succ]
          rw [Int.toNat_natCast] at this
          simpa only [List.append_assoc] using this
        · rw [entsB_succ l lv hj]; exact w10.1
        · intro y hy
          rcases w10.2.2 y hy with q | q
          · exact ⟨(g4 y q).1, ap y q⟩
          · refine ⟨?_, fun q2 => ?_⟩
            · have := lt_of_get y9; omega
            · have := W9.1.lt y q2; omega
        · exact (w10.keep y9 (fun q => by have := (g4 _ q).1; omega)).1
      conv => whnf
      refine bre (fun e => ?_) (fun e => ?_)
      · conv => whnf
        refine ldI y9 ?_
        conv => whnf
        refine brd (fun d => ?_) (fun d => ?_)
        · refine call 0 _ (by unfold cutAt; rw [if_pos ⟨by omega, d⟩]) ⟨⟨rfl, rfl, rfl, rfl, rfl, rfl, rfl, rfl, rfl, rfl⟩, rfl, rfl⟩ fun h10 GA10 w10 L hL => ?_
          refine cutI (by decide) rfl (t := ⟨[(1, .ptr b 0 0), (2, .ptr hp.length 0 0), (4, .str (shared l lv)), (6, .ptr h7.length 0 0), (7, i64 (bs.length + 6 + (shared l lv).length + 2 * l.length : Nat)), (53, .lst sz (l.map Entry.av) c), (54, i64 l.length), (55, i64 j)], h10, []⟩) ⟨hL, rfl, rfl⟩ ?_
          conv => whnf
          refine zI (z := ((j + 1 : Nat) : Int)) (by rw [wrap_i64 (by omega) (by omega)]; rfl) ?_
          exact nxI (j + 1, G9, GA10, h10) ⟨hj, next [] h10 GA10 w10⟩ (by simp only; omega) ⟨⟨rfl, rfl, rfl, rfl, rfl, rfl, rfl, rfl⟩, rfl, rfl⟩
        · refine call (shared l lv).length _ (by unfold cutAt; rw [if_neg (fun q => d q.2)]) ⟨⟨rfl, rfl, rfl, rfl, rfl, rfl, rfl, rfl, rfl, rfl⟩, rfl, rfl⟩ fun h10 GA10 w10 L hL => ?_
          refine cutI (by decide) rfl (t := ⟨[(1, .ptr b 0 0), (2, .ptr hp.length 0 0), (4, .str (shared l lv)), (6, .ptr h7.length 0 0), (7, i64 (bs.length + 6 + (shared l lv).length + 2 * l.length : Nat)), (53, .lst sz (l.map Entry.av) c), (54, i64 l.length), (55, i64 j)], h10, []⟩) ⟨hL, rfl, rfl⟩ ?_
          conv => whnf
          refine zI (z := ((j + 1 : Nat) : Int)) (by rw [wrap_i64 (by omega) (by omega)]; rfl) ?_
          exact nxI (j + 1, G9, GA10, h10) ⟨hj, next [] h10 GA10 w10⟩ (by simp only; omega) ⟨⟨rfl, rfl, rfl, rfl, rfl, rfl, rfl, rfl⟩, rfl, rfl⟩
      · conv => whnf
        refine call (shared l lv).length _ (by unfold cutAt; rw [if_neg (fun q => e (by omega))]) ⟨⟨rfl, rfl, rfl, rfl, rfl, rfl, rfl, rfl, rfl, rfl⟩, rfl, rfl⟩ fun h10 GA10 w10 L hL => ?_
        refine cutI (by decide) rfl (t := ⟨[(1, .ptr b 0 0), (2, .ptr hp.length 0 0), (4, .str (shared l lv)), (6, .ptr h7.length 0 0), (7, i64 (bs.length + 6 + (shared l lv).length + 2 * l.length : Nat)), (53, .lst sz (l.map Entry.av) c), (54, i64 l.length), (55, i64 j)], h10, []⟩) ⟨hL, rfl, rfl⟩ ?_
        conv => whnf
        refine zI (z := ((j + 1 : Nat) : Int)) (by rw [wrap_i64 (by omega) (by omega)]; rfl) ?_
        exact nxI (j + 1, G9, GA10, h10) ⟨hj, next [] h10 GA10 w10⟩ (by simp only; omega) ⟨⟨rfl, rfl, rfl, rfl, rfl, rfl, rfl, rfl⟩, rfl, rfl⟩
    · have hj : j = l.length := by simp only at a; omega
      subst hj
      have hne2 : entsB l lv l.length ≠ [] := by
        obtain ⟨q, hq⟩ : ∃ q, l.length = q + 1 := ⟨l.length - 1, by cases l with | nil => exact (hne rfl).elim | cons => simp⟩
        rw [hq, entsB_succ l lv (by omega)]
        intro e
        have := congrArg List.length e
        have h2 := (entB_len (cutAt l lv q) (l[q]'(by omega)) lv).2
        rw [List.length_append] at this
        simp only [List.length_nil] at this
        omega
      have hE1 := entsB_len hv l.length (by omega)
      have hO := offsB_len l lv (bs.length + 6 + (shared l lv).length + 2 * l.length) l.length
      obtain ⟨h10, e10, w10⟩ := String_eq (n := m) (by omega) g3 hne2 (by omega)
      have W10 := g2.other w10 (fun x hx => by have := (g4 x hx).1; omega) (fun x hx q => (g4 x q).2 hx)
      conv => whnf
      refine cutI (by decide) rfl (t := ⟨[(1, .ptr b 0 0), (6, .ptr h7.length 0 0)], h, []⟩) ⟨⟨rfl, rfl⟩, rfl, rfl⟩ ?_
      conv => whnf
      refine clI e10 ?_
      conv => whnf
      refine strC (n := m) (hp := h10) (by omega) W10.1 (entsB l lv l.length) (by simp only [List.length_append, num_len, hO]; omega) fun h11 F11 w11 => ?_
      conv => whnf
      refine ⟨rfl, [], rfl, rfl, F11, ?_⟩
      have := W10.trans w11
      have ht : k.toNat = if top then 1 else 0 := by subst hk; cases top <;> rfl
      unfold nodeB
      rw [← ht]
      simpa [List.append_assoc] using this
  conv => whnf
  refine ldI e3 ?_
  refine br (fun a => ?_) (fun a => ?_)
  · subst a
    conv => whnf
    exact rest 1 _ rfl ⟨⟨rfl, rfl, rfl, rfl⟩, rfl, rfl⟩
  · subst a
    conv => whnf
    exact rest 0 _ rfl ⟨⟨rfl, rfl, rfl, rfl⟩, rfl, rfl⟩
end
end Go.Proofs
/- Contracts: pages that are well-formed; their bodies; the ends of blocks. -/
set_option linter.unusedVariables false
set_option linter.unusedSimpArgs false
namespace Go.Proofs
open Go Go.Abs
section
variable {n : Nat} {h : AHeap}
theorem check_eq (hn : 7 ≤ n) (p : Page) (ok : p.Ok) : C n 16 [p.av] h = some (.ret (i64 (if p.check then 0 else 2)), h) := by
  obtain ⟨m, rfl⟩ : ∃ m, n = m + 1 := ⟨n - 1, by omega⟩
  obtain ⟨o1, o2, o3, o4, o5, o6, o7⟩ := ok
  refine fun_pure F16 rfl rfl rfl (by simp [pureBs, page_pure]) ?_
  repeat' (conv => whnf); first
    | refine clI (numbered_eq (by omega) _) ?_
    | refine clI (within_eq (by omega) _ _ _) ?_
    | refine clI (fits_eq (by omega) p.entries o3 o6 p.level p.esh.sz o1 p.esh.c) ?_
    | refine clI (plain_eq (by omega) p) ?_
    | refine clI (linked_eq (by omega) _) ?_
    | refine clI (freed_eq (by omega) p.freed o4 o7 p.fsh.sz o2 p.fsh.c) ?_
    | refine clI (listed_eq (by omega) p.freed o4 (freed_few (by assumption) o7) p.fsh.sz o2 p.fsh.c) ?_
    | refine eqI (eq_bool _ _) ?_
    | refine retP rfl (frz_int ?_)
    | refine brd (fun _ => ?_) (fun _ => ?_)
    | refine bre (fun _ => ?_) (fun _ => ?_)
    | refine brq (fun _ => ?_) (fun _ => ?_)
    | refine brn (fun _ => ?_) (fun _ => ?_)
    | refine br (fun _ => ?_) (fun _ => ?_)
    | refine ldI (by rfl) ?_
    | refine ldI (get_set_last _ _ _) ?_
    | refine ldI (get_last _ _) ?_
    | refine stI (by rfl) (by rfl) (by rfl) (by rfl) (by rfl) ?_
    | refine stI (get_last _ _) (by rfl) (by rfl) (by rfl) (by rfl) ?_
    | refine cutS (by decide) rfl ?_
  all_goals clear o1 o2 o3 o4 o5 o6 o7
  all_goals simp_all [Page.check]

def Page.body (p : Page) : AV := if p.kind = 3 then .ifc 174 (.agg [i64 p.next, .str p.data]) else if p.kind = 4 then .ifc 176 (.agg [i64 p.next, .lst p.fsh.sz (p.freed.map Freed.av) p.fsh.c]) else .ifc 178 (.agg (nodeXs p.tree p.level p.top p.entries p.esh.sz p.esh.c))
theorem body_eq (hn : 1 ≤ n) (p : Page) : C n 58 [p.av] h = some (.ret p.body, h) := by
  obtain ⟨m, rfl⟩ : ∃ m, n = m + 1 := ⟨n - 1, by omega⟩
  have fe : ∀ n, FrzOk (n + 3) (.lst p.esh.sz (p.entries.map Entry.av) p.esh.c) := fun n => frzOk_lst fun x hx => by
    obtain ⟨e, _, rfl⟩ := List.mem_map.1 hx
    exact frzOk_agg fun y hy => by
      simp [Entry.cells, Dg.cells] at hy
      rcases hy with rfl | rfl | rfl | rfl | rfl | rfl | hy
      · exact frzOk_str
      · exact frzOk_str
      · exact frzOk_int
      · exact frzOk_int
      · exact frzOk_int
      · exact frzOk_int
      · rcases hy with rfl | rfl | rfl | rfl | rfl | rfl | rfl | rfl | rfl | rfl | rfl | rfl | rfl | rfl | rfl | rfl <;> exact frzOk_int
  have ff : ∀ n, FrzOk (n + 5) (.lst p.fsh.sz (p.freed.map Freed.av) p.fsh.c) := fun n => frzOk_lst fun x hx => by
    obtain ⟨f, _, rfl⟩ := List.mem_map.1 hx
    exact frzOk_agg fun y hy => by
      simp [Freed.cells] at hy
      rcases hy with rfl | rfl
      · exact frzOk_int
      · exact frzOk_lst fun z hz => by
          obtain ⟨k, _, rfl⟩ := List.mem_map.1 hz
          exact frzOk_int
  refine fun_pure F58 rfl rfl rfl (by simp [pureBs, page_pure]) ?_
  repeat' (conv => whnf); first
    | refine retP rfl ?_
    | refine brd (fun _ => ?_) (fun _ => ?_)
    | refine bre (fun _ => ?_) (fun _ => ?_)
    | refine brq (fun _ => ?_) (fun _ => ?_)
    | refine brn (fun _ => ?_) (fun _ => ?_)
    | refine br (fun _ => ?_) (fun _ => ?_)
    | refine ldI (by rfl) ?_
    | refine ldI (get_set_last _ _ _) ?_
    | refine ldI (get_last _ _) ?_
    | refine stI (by rfl) (by rfl) (by rfl) (by rfl) (by rfl) ?_
    | refine stI (get_last _ _) (by rfl) (by rfl) (by rfl) (by rfl) ?_
    | refine cutS (by decide) rfl ?_
  · show frz _ 64 (.ifc 174 (.agg [i64 p.next, .str p.data])) = some p.body
    refine (frzOk_ifc (frzOk_agg (n := 62) fun y hy => ?_) _).trans (congrArg some ?_)
    · simp at hy
      rcases hy with rfl | rfl
      · exact frzOk_int
      · exact frzOk_str
    · simp_all [Page.body]
  · show frz _ 64 (.ifc 176 (.agg [i64 p.next, .lst p.fsh.sz (p.freed.map Freed.av) p.fsh.c])) = some p.body
    refine (frzOk_ifc (frzOk_agg (n := 62) fun y hy => ?_) _).trans (congrArg some ?_)
    · simp at hy
      rcases hy with rfl | rfl
      · exact frzOk_int
      · exact ff 57
    · simp_all [Page.body]
  · show frz _ 64 (.ifc 178 (.agg (nodeXs p.tree p.level p.top p.entries p.esh.sz p.esh.c))) = some p.body
    refine (frzOk_ifc (frzOk_agg (n := 62) fun y hy => ?_) _).trans (congrArg some ?_)
    · simp [nodeXs] at hy
      rcases hy with rfl | rfl | rfl | rfl
      · exact frzOk_int
      · exact frzOk_int
      · exact frzOk_bool
      · exact fe 59
    · simp_all [Page.body]

theorem low_u32 (c : UInt32) (k : Nat) (hk : k ≤ 3) : IntKind.u8.wrap (((c.toNat : Int)).fdiv (2 ^ (min ((8 * k : Nat) : Int).toNat IntKind.u32.bits))) = ((UInt8.ofNat (c.toNat / 256 ^ k)).toNat : Int) := by
  have h1 : min ((8 * k : Nat) : Int).toNat IntKind.u32.bits = 8 * k := by show min ((8 * k : Nat) : Int).toNat 32 = 8 * k; omega
  rw [h1, Int.fdiv_eq_ediv_of_nonneg _ (by exact Int.pow_nonneg (by decide))]
  have h2 : ((c.toNat : Int)) / (2 ^ (8 * k) : Int) = ((c.toNat / 256 ^ k : Nat) : Int) := by
    rw [show (256 : Nat) = 2 ^ 8 by rfl, ← Nat.pow_mul]
    norm_cast
  rw [h2]
  show (if (IntKind.u8.signed && decide (((c.toNat / 256 ^ k : Nat) : Int) % (2 ^ 8 : Int) ≥ (2 ^ (8 - 1) : Int))) = true then ((c.toNat / 256 ^ k : Nat) : Int) % (2 ^ 8 : Int) - 2 ^ 8 else ((c.toNat / 256 ^ k : Nat) : Int) % (2 ^ 8 : Int)) = _
  rw [if_neg (by simp [IntKind.signed]), UInt8.toNat_ofNat']
  omega
/-- The last four bytes of a block. -/
def crcB (s : Str) : Str := [UInt8.ofNat ((crc s).toNat / 256 ^ 0), UInt8.ofNat ((crc s).toNat / 256 ^ 1), UInt8.ofNat ((crc s).toNat / 256 ^ 2), UInt8.ofNat ((crc s).toNat / 256 ^ 3)]
theorem ended_eq (hn : 2 ≤ n) (s : Str) (hs : s.length < 1099511627776) : C n 62 [.str s] h = some (.ret (.str (s ++ crcB s)), h) := by
  obtain ⟨m, rfl⟩ : ∃ m, n = m + 1 := ⟨n - 1, by omega⟩
  refine fun_pure F62 rfl rfl rfl rfl ?_
  conv => whnf
  refine clI (crcC_eq (by omega) s hs) ?_
  conv => whnf
  refine zI (z := ((UInt8.ofNat ((crc s).toNat / 256 ^ 0)).toNat : Int)) (by rw [low_u8, Nat.pow_zero, Nat.div_one]; rfl) ?_
  conv => whnf
  refine ⟨by decide, _, rfl, ?_⟩
  conv => whnf
  refine zI (low_u32 (crc s) 1 (by omega)) ?_
  conv => whnf
  refine ⟨by decide, _, rfl, ?_⟩
  conv => whnf
  refine zI (low_u32 (crc s) 2 (by omega)) ?_
  conv => whnf
  refine ⟨by decide, _, rfl, ?_⟩
  conv => whnf
  refine zI (low_u32 (crc s) 3 (by omega)) ?_
  conv => whnf
  refine ⟨rfl, ?_⟩
  conv => whnf
  refine ⟨_, crcB s, first_lst _ (crcB s) true, toBytes_map _, ?_⟩
  conv => whnf
  refine ⟨by simp [crcB]; omega, ?_⟩
  conv => whnf
  exact retP rfl (frz_str rfl)
end
end Go.Proofs
/- The looked-up text of the functions. -/
namespace Go.Proofs
open Go Go.Abs
/- f60 strings.Repeat: 125 temporaries, depth 7, 2 parameters, results [t4] -/
def c60 : RC :=
 (.seq (.ops [(oP 4 (.mv (.c (.str []))))])
 (.seq (.seq (.ops [(mV 11 1)])
 (.block 0
 (.seq (.ops [(oP 13 (.bin .eql (.t 11) (.c (.int .i64 0)))),
 (mV 12 13)])
 (.cond (.t 12)
 (.seq (.ops [(oP 4 (.mv (.c (.str []))))])
 .ret)
 (.seq (.ops [(oP 15 (.bin .eql (.t 11) (.c (.int .i64 1)))),
 (mV 14 15)])
 (.cond (.t 14)
 (.seq (.ops [(mV 16 0),
 (mV 4 16)])
 .ret)
 .skip))))))
 (.seq (.seq (.ops [(mV 17 1),
 (oP 18 (.bin .lss (.t 17) (.c (.int .i64 0))))])
 (.cond (.t 18)
 (.ops [(oP 19 (.mkIfc 9 (.c (.str [115, 116, 114, 105, 110, 103, 115, 58, 32, 110, 101, 103, 97, 116, 105, 118, 101, 32, 82, 101, 112, 101, 97, 116, 32, 99, 111, 117, 110, 116])))),
 ⟨none, none, .pan (.t 19)⟩])
 .skip))
 (.seq (.ops [(mV 21 0),
 (oP 22 (.lenS (.t 21))),
 (oP 23 (.toInt .u64 (.t 22))),
 (mV 24 1),
 (oP 25 (.toInt .u64 (.t 24))),
 (oP 26 (.callF 109 [(.t 23), (.t 25)])),
 (mV 20 26),
 (oP 27 (.extract (.t 20) 0)),
 (oP 28 (.extract (.t 20) 1)),
 (mV 5 27),
 (mV 6 28)])
 (.seq (.seq (.ops [(mV 29 5),
 (oP 30 (.bin .gtr (.t 29) (.c (.int .u64 0)))),
 (mV 31 30),
 (oG 32 31 false (.mv (.t 6))),
 (oG 33 31 false (.bin .gtr (.t 32) (.c (.int .u64 9223372036854775807)))),
 (oP 34 (.pick (.t 31) (.c (.bool true)) (.t 33)))])
 (.cond (.t 34)
 (.ops [(oP 35 (.mkIfc 9 (.c (.str [115, 116, 114, 105, 110, 103, 115, 58, 32, 82, 101, 112, 101, 97, 116, 32, 111, 117, 116, 112, 117, 116, 32, 108, 101, 110, 103, 116, 104, 32, 111, 118, 101, 114, 102, 108, 111, 119])))),
 ⟨none, none, .pan (.t 35)⟩])
 .skip))
 (.seq (.ops [(mV 36 6),
 (oP 37 (.toInt .i64 (.t 36))),
 (mV 7 37)])
 (.seq (.seq (.ops [(mV 38 0),
 (oP 39 (.lenS (.t 38))),
 (oP 40 (.bin .eql (.t 39) (.c (.int .i64 0))))])
 (.cond (.t 40)
 (.seq (.ops [(oP 4 (.mv (.c (.str []))))])
 .ret)
 .skip))
 (.seq (.seq (.ops [(mV 41 0),
 (oP 42 (.indexS (.t 41) (.c (.int .i64 0))))])
 (.block 1
 (.seq (.seq (.ops [(oP 44 (.bin .eql (.t 42) (.c (.int .u8 32)))),
 (mV 43 44)])
 (.cond (.t 43)
 .skip
 (.seq (.ops [(oP 45 (.bin .eql (.t 42) (.c (.int .u8 45)))),
 (mV 43 45)])
 (.cond (.t 43)
 .skip
 (.seq (.ops [(oP 46 (.bin .eql (.t 42) (.c (.int .u8 48)))),
 (mV 43 46)])
 (.cond (.t 43)
 .skip
 (.seq (.ops [(oP 47 (.bin .eql (.t 42) (.c (.int .u8 61)))),
 (mV 43 47)])
 (.cond (.t 43)
 .skip
 (.ops [(oP 48 (.bin .eql (.t 42) (.c (.int .u8 9)))),
 (mV 43 48)])))))))))
 (.cond (.t 43)
 (.block 2
 (.seq (.ops [(mV 50 7),
 (oP 51 (.bin .leq (.t 50) (.c (.int .i64 128)))),
 (mV 52 51),
 (oG 53 52 true (.mv (.t 0))),
 (oG 54 52 true (.callF 110 [(.c (.str [32, 32, 32, 32, 32, 32, 32, 32, 32, 32, 32, 32, 32, 32, 32, 32, 32, 32, 32, 32, 32, 32, 32, 32, 32, 32, 32, 32, 32, 32, 32, 32, 32, 32, 32, 32, 32, 32, 32, 32, 32, 32, 32, 32, 32, 32, 32, 32, 32, 32, 32, 32, 32, 32, 32, 32, 32, 32, 32, 32, 32, 32, 32, 32, 32, 32, 32, 32, 32, 32, 32, 32, 32, 32, 32, 32, 32, 32, 32, 32, 32, 32, 32, 32, 32, 32, 32, 32, 32, 32, 32, 32, 32, 32, 32, 32, 32, 32, 32, 32, 32, 32, 32, 32, 32, 32, 32, 32, 32, 32, 32, 32, 32, 32, 32, 32, 32, 32, 32, 32, 32, 32, 32, 32, 32, 32, 32, 32])), (.t 53)])),
 (oP 55 (.pick (.t 52) (.t 54) (.c (.bool false)))),
 (mV 49 55)])
 (.cond (.t 49)
 (.seq (.ops [(mV 56 7),
 (oP 57 (.sliceS (.c (.str [32, 32, 32, 32, 32, 32, 32, 32, 32, 32, 32, 32, 32, 32, 32, 32, 32, 32, 32, 32, 32, 32, 32, 32, 32, 32, 32, 32, 32, 32, 32, 32, 32, 32, 32, 32, 32, 32, 32, 32, 32, 32, 32, 32, 32, 32, 32, 32, 32, 32, 32, 32, 32, 32, 32, 32, 32, 32, 32, 32, 32, 32, 32, 32, 32, 32, 32, 32, 32, 32, 32, 32, 32, 32, 32, 32, 32, 32, 32, 32, 32, 32, 32, 32, 32, 32, 32, 32, 32, 32, 32, 32, 32, 32, 32, 32, 32, 32, 32, 32, 32, 32, 32, 32, 32, 32, 32, 32, 32, 32, 32, 32, 32, 32, 32, 32, 32, 32, 32, 32, 32, 32, 32, 32, 32, 32, 32, 32])) none (some (.t 56)))),
 (mV 4 57)])
 .ret)
 (.seq (.ops [(mV 59 7),
 (oP 60 (.bin .leq (.t 59) (.c (.int .i64 128)))),
 (mV 61 60),
 (oG 62 61 true (.mv (.t 0))),
 (oG 63 61 true (.callF 110 [(.c (.str [45, 45, 45, 45, 45, 45, 45, 45, 45, 45, 45, 45, 45, 45, 45, 45, 45, 45, 45, 45, 45, 45, 45, 45, 45, 45, 45, 45, 45, 45, 45, 45, 45, 45, 45, 45, 45, 45, 45, 45, 45, 45, 45, 45, 45, 45, 45, 45, 45, 45, 45, 45, 45, 45, 45, 45, 45, 45, 45, 45, 45, 45, 45, 45, 45, 45, 45, 45, 45, 45, 45, 45, 45, 45, 45, 45, 45, 45, 45, 45, 45, 45, 45, 45, 45, 45, 45, 45, 45, 45, 45, 45, 45, 45, 45, 45, 45, 45, 45, 45, 45, 45, 45, 45, 45, 45, 45, 45, 45, 45, 45, 45, 45, 45, 45, 45, 45, 45, 45, 45, 45, 45, 45, 45, 45, 45, 45, 45])), (.t 62)])),
 (oP 64 (.pick (.t 61) (.t 63) (.c (.bool false)))),
 (mV 58 64)])
 (.cond (.t 58)
 (.seq (.ops [(mV 65 7),
 (oP 66 (.sliceS (.c (.str [45, 45, 45, 45, 45, 45, 45, 45, 45, 45, 45, 45, 45, 45, 45, 45, 45, 45, 45, 45, 45, 45, 45, 45, 45, 45, 45, 45, 45, 45, 45, 45, 45, 45, 45, 45, 45, 45, 45, 45, 45, 45, 45, 45, 45, 45, 45, 45, 45, 45, 45, 45, 45, 45, 45, 45, 45, 45, 45, 45, 45, 45, 45, 45, 45, 45, 45, 45, 45, 45, 45, 45, 45, 45, 45, 45, 45, 45, 45, 45, 45, 45, 45, 45, 45, 45, 45, 45, 45, 45, 45, 45, 45, 45, 45, 45, 45, 45, 45, 45, 45, 45, 45, 45, 45, 45, 45, 45, 45, 45, 45, 45, 45, 45, 45, 45, 45, 45, 45, 45, 45, 45, 45, 45, 45, 45, 45, 45])) none (some (.t 65)))),
 (mV 4 66)])
 .ret)
 (.seq (.ops [(mV 68 7),
 (oP 69 (.bin .leq (.t 68) (.c (.int .i64 64)))),
 (mV 70 69),
 (oG 71 70 true (.mv (.t 0))),
 (oG 72 70 true (.callF 110 [(.c (.str [48, 48, 48, 48, 48, 48, 48, 48, 48, 48, 48, 48, 48, 48, 48, 48, 48, 48, 48, 48, 48, 48, 48, 48, 48, 48, 48, 48, 48, 48, 48, 48, 48, 48, 48, 48, 48, 48, 48, 48, 48, 48, 48, 48, 48, 48, 48, 48, 48, 48, 48, 48, 48, 48, 48, 48, 48, 48, 48, 48, 48, 48, 48, 48])), (.t 71)])),
 (oP 73 (.pick (.t 70) (.t 72) (.c (.bool false)))),
 (mV 67 73)])
 (.cond (.t 67)
 (.seq (.ops [(mV 74 7),
 (oP 75 (.sliceS (.c (.str [48, 48, 48, 48, 48, 48, 48, 48, 48, 48, 48, 48, 48, 48, 48, 48, 48, 48, 48, 48, 48, 48, 48, 48, 48, 48, 48, 48, 48, 48, 48, 48, 48, 48, 48, 48, 48, 48, 48, 48, 48, 48, 48, 48, 48, 48, 48, 48, 48, 48, 48, 48, 48, 48, 48, 48, 48, 48, 48, 48, 48, 48, 48, 48])) none (some (.t 74)))),
 (mV 4 75)])
 .ret)
 (.seq (.ops [(mV 77 7),
 (oP 78 (.bin .leq (.t 77) (.c (.int .i64 128)))),
 (mV 79 78),
 (oG 80 79 true (.mv (.t 0))),
 (oG 81 79 true (.callF 110 [(.c (.str [61, 61, 61, 61, 61, 61, 61, 61, 61, 61, 61, 61, 61, 61, 61, 61, 61, 61, 61, 61, 61, 61, 61, 61, 61, 61, 61, 61, 61, 61, 61, 61, 61, 61, 61, 61, 61, 61, 61, 61, 61, 61, 61, 61, 61, 61, 61, 61, 61, 61, 61, 61, 61, 61, 61, 61, 61, 61, 61, 61, 61, 61, 61, 61, 61, 61, 61, 61, 61, 61, 61, 61, 61, 61, 61, 61, 61, 61, 61, 61, 61, 61, 61, 61, 61, 61, 61, 61, 61, 61, 61, 61, 61, 61, 61, 61, 61, 61, 61, 61, 61, 61, 61, 61, 61, 61, 61, 61, 61, 61, 61, 61, 61, 61, 61, 61, 61, 61, 61, 61, 61, 61, 61, 61, 61, 61, 61, 61])), (.t 80)])),
 (oP 82 (.pick (.t 79) (.t 81) (.c (.bool false)))),
 (mV 76 82)])
 (.cond (.t 76)
 (.seq (.ops [(mV 83 7),
 (oP 84 (.sliceS (.c (.str [61, 61, 61, 61, 61, 61, 61, 61, 61, 61, 61, 61, 61, 61, 61, 61, 61, 61, 61, 61, 61, 61, 61, 61, 61, 61, 61, 61, 61, 61, 61, 61, 61, 61, 61, 61, 61, 61, 61, 61, 61, 61, 61, 61, 61, 61, 61, 61, 61, 61, 61, 61, 61, 61, 61, 61, 61, 61, 61, 61, 61, 61, 61, 61, 61, 61, 61, 61, 61, 61, 61, 61, 61, 61, 61, 61, 61, 61, 61, 61, 61, 61, 61, 61, 61, 61, 61, 61, 61, 61, 61, 61, 61, 61, 61, 61, 61, 61, 61, 61, 61, 61, 61, 61, 61, 61, 61, 61, 61, 61, 61, 61, 61, 61, 61, 61, 61, 61, 61, 61, 61, 61, 61, 61, 61, 61, 61, 61])) none (some (.t 83)))),
 (mV 4 84)])
 .ret)
 (.seq (.ops [(mV 86 7),
 (oP 87 (.bin .leq (.t 86) (.c (.int .i64 64)))),
 (mV 88 87),
 (oG 89 88 true (.mv (.t 0))),
 (oG 90 88 true (.callF 110 [(.c (.str [9, 9, 9, 9, 9, 9, 9, 9, 9, 9, 9, 9, 9, 9, 9, 9, 9, 9, 9, 9, 9, 9, 9, 9, 9, 9, 9, 9, 9, 9, 9, 9, 9, 9, 9, 9, 9, 9, 9, 9, 9, 9, 9, 9, 9, 9, 9, 9, 9, 9, 9, 9, 9, 9, 9, 9, 9, 9, 9, 9, 9, 9, 9, 9])), (.t 89)])),
 (oP 91 (.pick (.t 88) (.t 90) (.c (.bool false)))),
 (mV 85 91)])
 (.cond (.t 85)
 (.seq (.ops [(mV 92 7),
 (oP 93 (.sliceS (.c (.str [9, 9, 9, 9, 9, 9, 9, 9, 9, 9, 9, 9, 9, 9, 9, 9, 9, 9, 9, 9, 9, 9, 9, 9, 9, 9, 9, 9, 9, 9, 9, 9, 9, 9, 9, 9, 9, 9, 9, 9, 9, 9, 9, 9, 9, 9, 9, 9, 9, 9, 9, 9, 9, 9, 9, 9, 9, 9, 9, 9, 9, 9, 9, 9])) none (some (.t 92)))),
 (mV 4 93)])
 .ret)
 .skip)))))))))))
 .skip))))
 (.seq (.ops [(mV 94 7),
 (mV 8 94)])
 (.seq (.seq (.ops [(mV 95 7),
 (oP 96 (.bin .gtr (.t 95) (.c (.int .i64 8192))))])
 (.cond (.t 96)
 (.seq (.ops [(mV 97 0),
 (oP 98 (.lenS (.t 97))),
 (oP 99 (.bin .quo (.c (.int .i64 8192)) (.t 98))),
 (mV 100 0),
 (oP 101 (.lenS (.t 100))),
 (oP 102 (.bin .mul (.t 99) (.t 101))),
 (mV 8 102)])
 (.seq (.ops [(mV 103 8),
 (oP 104 (.bin .eql (.t 103) (.c (.int .i64 0))))])
 (.cond (.t 104)
 (.ops [(mV 105 0),
 (oP 106 (.lenS (.t 105))),
 (mV 8 106)])
 .skip)))
 .skip))
 (.seq (.ops [(oP 9 (.alloc 115 [.nilp, (.lst 0 [] true)]))])
 (.seq (.ops [(mV 107 7),
 (oP 108 (.callF 111 [(.t 9), (.t 107)]))])
 (.seq (.ops [(mV 109 0),
 (oP 110 (.callF 59 [(.t 9), (.t 109)]))])
 (.seq (.block 3
 (.loop
 (.seq (.seq (.ops [(oP 111 (.callF 61 [(.t 9)])),
 (mV 112 7),
 (oP 113 (.bin .lss (.t 111) (.t 112)))])
 (.cond (.t 113)
 .skip
 (.exit 3)))
 (.block 4
 (.seq (.ops [(mV 114 7),
 (oP 115 (.callF 61 [(.t 9)])),
 (oP 116 (.bin .sub (.t 114) (.t 115))),
 (oP 117 (.callF 61 [(.t 9)])),
 (mV 118 8),
 (oP 119 (.mm3 false (.t 116) (.t 117) (.t 118))),
 (mV 10 119)])
 (.ops [(oP 120 (.callF 63 [(.t 9)])),
 (mV 121 10),
 (oP 122 (.sliceS (.t 120) none (some (.t 121)))),
 (oP 123 (.callF 59 [(.t 9), (.t 122)]))]))))))
 (.cut (.seq (.ops [(oP 124 (.callF 63 [(.t 9)])),
 (mV 4 124)])
 .ret))))))))))))))))
theorem F60 : FI 60 2 125 7 [.tmp 4] c60 := ⟨⟨Tryz.f60, Tryz.func60, by kernel_rfl, by kernel_rfl, by kernel_rfl⟩, by kernel_rfl, by decide, by kernel_rfl⟩
/- f111 (*strings.Builder).Grow: 25 temporaries, depth 5, 2 parameters, results [] -/
def c111 : RC :=
 (.seq (.ops [(mV 4 0),
 (oP 5 (.callF 108 [(.t 4)]))])
 (.seq (.seq (.ops [(mV 6 1),
 (oP 7 (.bin .lss (.t 6) (.c (.int .i64 0))))])
 (.cond (.t 7)
 (.ops [(oP 8 (.mkIfc 9 (.c (.str [115, 116, 114, 105, 110, 103, 115, 46, 66, 117, 105, 108, 100, 101, 114, 46, 71, 114, 111, 119, 58, 32, 110, 101, 103, 97, 116, 105, 118, 101, 32, 99, 111, 117, 110, 116])))),
 ⟨none, none, .pan (.t 8)⟩])
 .skip))
 (.seq (.draw [((mV 9 0), 0),
 ((oP 10 (.nilCheck (.t 9))), 0),
 ((oP 11 (.fieldAddr 1 (.t 10))), 0),
 ((oP 12 (.load false 1 (.t 11))), 1),
 ((oP 13 (.capL (.t 12))), 0),
 ((mV 14 0), 0),
 ((oP 15 (.nilCheck (.t 14))), 0),
 ((oP 16 (.fieldAddr 1 (.t 15))), 0),
 ((oP 17 (.load false 1 (.t 16))), 1),
 ((oP 18 (.lenL (.t 17))), 0),
 ((oP 19 (.bin .sub (.t 13) (.t 18))), 0),
 ((mV 20 1), 0),
 ((oP 21 (.bin .lss (.t 19) (.t 20))), 0)])
 (.cond (.t 21)
 (.ops [(mV 22 0),
 (mV 23 1),
 (oP 24 (.callF 148 [(.t 22), (.t 23)]))])
 .skip))))
theorem F111 : FI 111 2 25 5 [] c111 := ⟨⟨Tryz.f111, Tryz.func111, by kernel_rfl, by kernel_rfl, by kernel_rfl⟩, by kernel_rfl, by decide, by kernel_rfl⟩
/- f148 (*strings.Builder).grow: 30 temporaries, depth 5, 2 parameters, results [] -/
def c148 : RC :=
 (.seq (.draw [((mV 5 0), 0),
 ((oP 6 (.nilCheck (.t 5))), 0),
 ((oP 7 (.fieldAddr 1 (.t 6))), 0),
 ((oP 8 (.load false 1 (.t 7))), 1),
 ((oP 9 (.capL (.t 8))), 0),
 ((oP 10 (.bin .mul (.c (.int .i64 2)) (.t 9))), 0),
 ((mV 11 1), 0),
 ((oP 12 (.bin .add (.t 10) (.t 11))), 0),
 ((mV 14 0), 0),
 ((oP 15 (.nilCheck (.t 14))), 0),
 ((oP 16 (.fieldAddr 1 (.t 15))), 0),
 ((oP 17 (.load false 1 (.t 16))), 1),
 ((oP 18 (.lenL (.t 17))), 0),
 ((oP 13 (.mkNZ 5 (.t 12))), 2),
 ((oP 19 (.sliceL 1 (.t 13) none (some (.t 18)) none)), 1),
 ((mV 4 19), 0)])
 (.seq (.ops [(mV 20 4),
 (mV 21 0),
 (oP 22 (.nilCheck (.t 21))),
 (oP 23 (.fieldAddr 1 (.t 22))),
 (oP 24 (.load false 1 (.t 23))),
 (oP 25 (.cpy 1 (.t 20) (.t 24)))])
 (.ops [(mV 26 0),
 (mV 27 4),
 (oP 28 (.nilCheck (.t 26))),
 (oP 29 (.fieldAddr 1 (.t 28))),
 (oU (.store 1 (.t 29) (.t 27)))])))
theorem F148 : FI 148 2 30 5 [] c148 := ⟨⟨Tryz.f148, Tryz.func148, by kernel_rfl, by kernel_rfl, by kernel_rfl⟩, by kernel_rfl, by decide, by kernel_rfl⟩
/- f109 math/bits.Mul: 30 temporaries, depth 5, 2 parameters, results [t4, t5] -/
def c109 : RC :=
 (.seq (.ops [(oP 4 (.mv (.c (.int .u64 0)))),
 (oP 5 (.mv (.c (.int .u64 0))))])
 (.seq (.cond (.c (.bool false))
 (.seq (.ops [(mV 11 0),
 (oP 12 (.toInt .u32 (.t 11))),
 (mV 13 1),
 (oP 14 (.toInt .u32 (.t 13))),
 (oP 15 (.callF 145 [(.t 12), (.t 14)])),
 (mV 10 15),
 (oP 16 (.extract (.t 10) 0)),
 (oP 17 (.extract (.t 10) 1)),
 (mV 6 16),
 (mV 7 17)])
 (.seq (.ops [(mV 18 6),
 (oP 19 (.toInt .u64 (.t 18))),
 (mV 20 7),
 (oP 21 (.toInt .u64 (.t 20))),
 (mV 4 19),
 (mV 5 21)])
 .ret))
 .skip)
 (.seq (.ops [(mV 23 0),
 (mV 24 1),
 (oP 25 (.callF 146 [(.t 23), (.t 24)])),
 (mV 22 25),
 (oP 26 (.extract (.t 22) 0)),
 (oP 27 (.extract (.t 22) 1)),
 (mV 8 26),
 (mV 9 27)])
 (.seq (.ops [(mV 28 8),
 (mV 29 9),
 (mV 4 28),
 (mV 5 29)])
 .ret))))
theorem F109 : FI 109 2 30 5 [.tmp 4, .tmp 5] c109 := ⟨⟨Tryz.f109, Tryz.func109, by kernel_rfl, by kernel_rfl, by kernel_rfl⟩, by kernel_rfl, by decide, by kernel_rfl⟩
/- f146 math/bits.Mul64: 51 temporaries, depth 6, 2 parameters, results [t4, t5] -/
def c146 : RC :=
 (.seq (.ops [(oP 4 (.mv (.c (.int .u64 0)))),
 (oP 5 (.mv (.c (.int .u64 0))))])
 (.seq (.ops [(mV 14 0),
 (oP 15 (.bin .and (.t 14) (.c (.int .u64 4294967295)))),
 (mV 6 15)])
 (.seq (.ops [(mV 16 0),
 (oP 17 (.bin .shr (.t 16) (.c (.int .u64 32)))),
 (mV 7 17)])
 (.seq (.ops [(mV 18 1),
 (oP 19 (.bin .and (.t 18) (.c (.int .u64 4294967295)))),
 (mV 8 19)])
 (.seq (.ops [(mV 20 1),
 (oP 21 (.bin .shr (.t 20) (.c (.int .u64 32)))),
 (mV 9 21)])
 (.seq (.ops [(mV 22 6),
 (mV 23 8),
 (oP 24 (.bin .mul (.t 22) (.t 23))),
 (mV 10 24)])
 (.seq (.ops [(mV 25 7),
 (mV 26 8),
 (oP 27 (.bin .mul (.t 25) (.t 26))),
 (mV 28 10),
 (oP 29 (.bin .shr (.t 28) (.c (.int .u64 32)))),
 (oP 30 (.bin .add (.t 27) (.t 29))),
 (mV 11 30)])
 (.seq (.ops [(mV 31 11),
 (oP 32 (.bin .and (.t 31) (.c (.int .u64 4294967295)))),
 (mV 12 32)])
 (.seq (.ops [(mV 33 11),
 (oP 34 (.bin .shr (.t 33) (.c (.int .u64 32)))),
 (mV 13 34)])
 (.seq (.ops [(mV 35 12),
 (mV 36 6),
 (mV 37 9),
 (oP 38 (.bin .mul (.t 36) (.t 37))),
 (oP 39 (.bin .add (.t 35) (.t 38))),
 (mV 12 39)])
 (.seq (.ops [(mV 40 7),
 (mV 41 9),
 (oP 42 (.bin .mul (.t 40) (.t 41))),
 (mV 43 13),
 (oP 44 (.bin .add (.t 42) (.t 43))),
 (mV 45 12),
 (oP 46 (.bin .shr (.t 45) (.c (.int .u64 32)))),
 (oP 47 (.bin .add (.t 44) (.t 46))),
 (mV 4 47)])
 (.seq (.ops [(mV 48 0),
 (mV 49 1),
 (oP 50 (.bin .mul (.t 48) (.t 49))),
 (mV 5 50)])
 .ret))))))))))))
theorem F146 : FI 146 2 51 6 [.tmp 4, .tmp 5] c146 := ⟨⟨Tryz.f146, Tryz.func146, by kernel_rfl, by kernel_rfl, by kernel_rfl⟩, by kernel_rfl, by decide, by kernel_rfl⟩
/- f110 strings.HasPrefix: 8 temporaries, depth 4, 2 parameters, results [t4] -/
/- f147 internal/stringslite.HasPrefix: 18 temporaries, depth 5, 2 parameters, results [t4] -/
end Go.Proofs
/- Contracts: a byte repeated. -/
set_option linter.unusedVariables false
set_option linter.unusedSimpArgs false
namespace Go.Proofs
open Go Go.Abs
theorem wrap_u64 {k : Int} (h0 : 0 ≤ k) (h1 : k < 18446744073709551616) : IntKind.u64.wrap k = k := by
  show (if (IntKind.u64.signed && decide (k % (2 ^ 64 : Int) ≥ (2 ^ (64 - 1) : Int))) = true then k % (2 ^ 64 : Int) - 2 ^ 64 else k % (2 ^ 64 : Int)) = _
  rw [if_neg (by simp [IntKind.signed])]
  omega
theorem mask_u64 {k : Int} (h0 : 0 ≤ k) (h1 : k < 4294967296) : IntKind.u64.wrap (BitVec.ofInt IntKind.u64.bits k &&& BitVec.ofInt IntKind.u64.bits 4294967295).toNat = k := by
  obtain ⟨q, rfl⟩ := Int.eq_ofNat_of_zero_le h0
  have hq : q < 4294967296 := by omega
  have e : (BitVec.ofInt IntKind.u64.bits (q : Int) &&& BitVec.ofInt IntKind.u64.bits 4294967295).toNat = q := by
    show (BitVec.ofInt 64 (q : Int) &&& BitVec.ofInt 64 4294967295).toNat = q
    rw [BitVec.toNat_and]
    have h1 : (BitVec.ofInt 64 (q : Int)).toNat = q := by rw [BitVec.ofInt_natCast, BitVec.toNat_ofNat]; omega
    have h2 : (BitVec.ofInt 64 4294967295).toNat = 2 ^ 32 - 1 := by decide
    rw [h1, h2, Nat.and_two_pow_sub_one_eq_mod]; omega
  rw [e]
  exact wrap_u64 (by omega) (by omega)
theorem shr_small {k : Int} (h0 : 0 ≤ k) (h1 : k < 4294967296) : k.fdiv (2 ^ (min (32 : Int).toNat IntKind.u64.bits)) = 0 := by
  have : min (32 : Int).toNat IntKind.u64.bits = 32 := by decide
  rw [this, Int.fdiv_eq_ediv_of_nonneg _ (by decide)]
  have : (2 ^ 32 : Int) = 4294967296 := by decide
  omega
section
variable {n : Nat} {h : AHeap}
theorem mul64_eq (hn : 1 ≤ n) (k : Int) (h0 : 0 ≤ k) (h1 : k < 1048576) : C n 146 [.int .u64 1, .int .u64 k] h = some (.ret (.tup [.int .u64 0, .int .u64 k]), h) := by
  obtain ⟨m, rfl⟩ : ∃ m, n = m + 1 := ⟨n - 1, by omega⟩
  refine fun_pure F146 rfl rfl rfl rfl ?_
  conv => whnf
  refine zI (mask_u64 (by decide) (by decide)) ?_
  conv => whnf
  refine ⟨by decide, _, shr_small (by decide) (by decide), ?_⟩
  conv => whnf
  refine zI (mask_u64 h0 (by omega)) ?_
  conv => whnf
  refine ⟨by decide, _, shr_small h0 (by omega), ?_⟩
  conv => whnf
  refine zI (z := k) (by rw [Int.one_mul, wrap_u64 h0 (by omega)]) ?_
  conv => whnf
  refine zI (z := 0) (by rw [Int.zero_mul]; rfl) ?_
  conv => whnf
  refine ⟨by decide, _, shr_small h0 (by omega), ?_⟩
  conv => whnf
  refine zI (z := 0) (by rfl) ?_
  conv => whnf
  refine zI (mask_u64 (by decide) (by decide)) ?_
  conv => whnf
  refine ⟨by decide, _, shr_small (by decide) (by decide), ?_⟩
  conv => whnf
  refine zI (z := 0) (by rw [Int.mul_zero]; rfl) ?_
  conv => whnf
  refine zI (z := 0) (by rfl) ?_
  conv => whnf
  refine zI (z := 0) (by rw [Int.mul_zero]; rfl) ?_
  conv => whnf
  refine zI (z := 0) (by rfl) ?_
  conv => whnf
  refine ⟨by decide, _, shr_small (by decide) (by decide), ?_⟩
  conv => whnf
  refine zI (z := 0) (by rfl) ?_
  conv => whnf
  refine zI (z := k) (by rw [Int.one_mul, wrap_u64 h0 (by omega)]) ?_
  conv => whnf
  exact retP rfl rfl
theorem mul_eq (hn : 2 ≤ n) (k : Int) (h0 : 0 ≤ k) (h1 : k < 1048576) : C n 109 [.int .u64 1, .int .u64 k] h = some (.ret (.tup [.int .u64 0, .int .u64 k]), h) := by
  obtain ⟨m, rfl⟩ : ∃ m, n = m + 1 := ⟨n - 1, by omega⟩
  refine fun_pure F109 rfl rfl rfl rfl ?_
  conv => whnf
  refine clI (mul64_eq (by omega) k h0 h1) ?_
  conv => whnf
  exact retP rfl rfl

theorem grow_eq (hn : 1 ≤ n) {hp : AHeap} {b t : Nat} {a : AV} (hb : hp[b]? = some (.cells 0 (some t) [a, .lst 0 [] true] 0)) (ha : a = .ptr b 0 0) (ht : t = tBld ∨ t = tWri) (k : Int) (h0 : 0 < k) (h1 : k < 1048576) :
    ∃ hp' F', C n 148 [.ptr b 0 0, i64 k] hp = some (.ret (.tup []), hp') ∧ Wrote hp hp' b [b] F' [] := by
  obtain ⟨m, rfl⟩ : ∃ m, n = m + 1 := ⟨n - 1, by omega⟩
  subst ha
  refine ⟨(hp ++ [AB.cells 0 (some 5) [] 0]).set b (.cells 0 (some t) (putAt [.ptr b 0 0, .lst 0 [] true] 1 [.sl 1 hp.length 0 0 0]) 0), [b, hp.length], ?_, ?_⟩
  · refine fun_inl F148 rfl rfl ?_
    have hb' := get_app (x := AB.cells 0 (some 5) [] 0) hb
    conv => whnf
    refine ldI hb ?_
    conv => whnf
    refine ⟨0, rfl, ?_⟩
    conv => whnf
    refine zI (z := 0) (by rfl) ?_
    conv => whnf
    refine zI (z := k) (by rw [wrap_i64 (by omega) (by omega)]; omega) ?_
    conv => whnf
    refine ldI hb ?_
    conv => whnf
    refine ⟨by omega, by omega, ?_⟩
    conv => whnf
    refine ⟨⟨?_, ?_⟩, ?_⟩
    · conv => whnf
      exact ldI hb' rfl
    · conv => whnf
      exact ldI hb' rfl
    conv => whnf
    refine slI (v := .sl 1 hp.length 0 0 0) ?_ ?_
    · unfold sliceA
      simp only [Option.getD_none, Option.getD_some]
      rw [if_pos ⟨by omega, by simp, by simp; omega, trivial⟩, if_neg (by omega)]
      simp
    conv => whnf
    refine ldI hb' ?_
    refine ⟨_, rfl, ?_⟩
    conv => whnf
    refine stI hb' (by rfl) (by rfl) (by rfl) (by rfl) ?_
    exact ⟨rfl, [], rfl, rfl, rfl⟩
  · have hlt := lt_of_get hb
    refine ⟨⟨_, _, _, by rw [List.getElem?_set_self (by simp; omega)]; rfl, .inr rfl, ht, .inr ⟨hp.length, 0, 0, rfl, ?_, by omega, Nat.le_refl _, rfl⟩⟩, ((Keep.app hp _ []).mono (by simp)).set' (.inl (by simp)), ?_⟩
    · rw [List.getElem?_set_ne (by omega)]; simp
    · intro x hx; simp at hx; rcases hx with rfl | rfl <;> simp

theorem Grow_eq (hn : 2 ≤ n) {hp : AHeap} {b : Nat} (hb : hp[b]? = some (.cells 0 (some tBld) [.nilp, .lst 0 [] true] 0)) (k : Int) (h0 : 0 < k) (h1 : k < 1048576) :
    ∃ hp' F', C n 111 [.ptr b 0 0, i64 k] hp = some (.ret (.tup []), hp') ∧ Wrote hp hp' b [b] F' [] := by
  obtain ⟨m, rfl⟩ : ∃ m, n = m + 1 := ⟨n - 1, by omega⟩
  have w : BW hp b [] [b] := ⟨_, _, _, hb, .inl rfl, .inl rfl, .inl ⟨rfl, rfl, rfl⟩⟩
  obtain ⟨hp1, t, buf, ec, hb1, ht, hB, k1⟩ := copyCheck_eq (n := m) (by omega) w
  have hbuf : buf = .lst 0 [] true := by
    rcases hB with ⟨q, _, _⟩ | ⟨bb, ver, frz, _, _, _, _, q⟩
    · exact q
    · simp at q
  subst hbuf
  obtain ⟨h2, F2, e2, w2⟩ := grow_eq (n := m) (by omega) hb1 rfl ht k h0 h1
  refine ⟨h2, F2, ?_, w2.1, k1.trans w2.2.1 (fun x hx => .inl hx), fun x hx => (w2.2.2 x hx).imp id fun q => Nat.le_trans k1.1 q⟩
  refine fun_inl F111 rfl rfl ?_
  conv => whnf
  refine clI ec ?_
  conv => whnf
  refine brd (fun a => absurd a (by omega)) (fun a => ?_)
  conv => whnf
  refine ldI hb1 ?_
  conv => whnf
  refine ⟨0, rfl, ?_⟩
  conv => whnf
  refine ldI hb1 ?_
  conv => whnf
  refine zI (z := 0) (by rfl) ?_
  conv => whnf
  refine brd (fun a => ?_) (fun a => absurd (by omega) a)
  conv => whnf
  refine clI e2 ?_
  exact ⟨rfl, [], rfl, rfl, rfl⟩
def zeros (k : Nat) : Str := List.replicate k 0
theorem zeros_len (k : Nat) : (zeros k).length = k := by simp [zeros]
theorem repeat_eq (hn : 4 ≤ n) (k : Nat) (hk : k ≤ 4096) : C n 60 [.str [0], i64 k] h = some (.ret (.str (zeros k)), h) := by
  obtain ⟨m, rfl⟩ : ∃ m, n = m + 1 := ⟨n - 1, by omega⟩
  refine fun_pure F60 rfl rfl rfl rfl ?_
  conv => whnf
  refine bre (fun a => ?_) (fun a => ?_)
  · have : k = 0 := by omega
    subst this
    conv => whnf
    exact retP rfl (frz_str rfl)
  conv => whnf
  refine bre (fun a1 => ?_) (fun a1 => ?_)
  · have : k = 1 := by omega
    subst this
    conv => whnf
    exact retP rfl (frz_str rfl)
  have hk2 : 2 ≤ k := by omega
  conv => whnf
  refine zI (z := 1) (by rfl) ?_
  conv => whnf
  refine zI (wrap_u64 (by omega) (by omega)) ?_
  conv => whnf
  refine clI (mul_eq (by omega) k (by omega) (by omega)) ?_
  conv => whnf
  refine brd (fun a3 => absurd a3 (by omega)) (fun a3 => ?_)
  conv => whnf
  refine zI (wrap_i64 (by omega) (by omega)) ?_
  conv => whnf
  refine strI (b := 0) (by omega) (by rfl) ?_
  conv => whnf
  refine brd (fun a4 => absurd a4 (by omega)) (fun a4 => ?_)
  conv => whnf
  obtain ⟨h2, F2, e2, w2⟩ := Grow_eq (n := m) (hp := ([] : AHeap) ++ [AB.cells 0 (some tBld) [.nilp, .lst 0 [] true] 0]) (b := 0) (by omega) rfl k (by omega) (by omega)
  refine clI e2 ?_
  obtain ⟨h3, F3, e3, w3⟩ := WriteString_eq (n := m) (by omega) w2.1 [0] (by simp)
  conv => whnf
  refine clI e3 ?_
  conv => whnf
  refine loopI (by decide) rfl (α := Nat × List Nat × AHeap) (fun x => ⟨[(7, i64 k), (8, i64 k), (9, .ptr 0 0 0)], x.2.2, []⟩) (fun x => (1 ≤ x.1 ∧ x.1 ≤ k) ∧ BW x.2.2 0 (zeros x.1) x.2.1) (fun x => k - x.1) (1, F3, h3) ⟨⟨rfl, rfl, rfl⟩, rfl, rfl⟩ ⟨⟨Nat.le_refl _, by omega⟩, w3.1⟩ (by show k - 1 < KK; simp only [KK]; omega) ?_
  rintro ⟨c, G, hp⟩ ⟨⟨g1, g2⟩, g3⟩
  simp only at g1 g2 g3
  conv => whnf
  refine clI (Len_eq (n := m) (by omega) g3) ?_
  conv => whnf
  have el : ((zeros c).length : Int) = (c : Int) := by rw [zeros_len]
  rw [el]
  refine brd (fun a5 => ?_) (fun a5 => ?_)
  · have hc : c < k := by omega
    conv => whnf
    refine clI (Len_eq (n := m) (by omega) g3) ?_
    conv => whnf
    rw [el]
    refine zI (wrap_i64 (by omega) (by omega)) ?_
    conv => whnf
    refine clI (Len_eq (n := m) (by omega) g3) ?_
    conv => whnf
    rw [el]
    refine ⟨_, (show mm2 false (mm2 false ((k : Int) - c) c) k = ((min (k - c) c : Nat) : Int) from ?_), ?_⟩
    · unfold mm2
      simp only [cond_false]
      repeat' split
      all_goals omega
    obtain ⟨h4, e4, w4⟩ := String_eq (n := m) (by omega) g3 (by intro e; have := congrArg List.length e; rw [zeros_len] at this; simp at this; omega) (by rw [zeros_len]; omega)
    conv => whnf
    refine clI e4 ?_
    conv => whnf
    refine ss_hi (c := min (k - c) c) (by rw [zeros_len]; omega) ?_
    have et : (zeros c).take (min (k - c) c) = zeros (min (k - c) c) := by unfold zeros; rw [List.take_replicate]; congr 1; omega
    obtain ⟨h5, F5, e5, w5⟩ := WriteString_eq (n := m) (by omega) w4.1 (zeros (min (k - c) c)) (by rw [zeros_len, zeros_len]; omega)
    conv => whnf
    refine clI (by rw [et]; exact e5) ?_
    conv => whnf
    refine nxI (c + min (k - c) c, F5, h5) ⟨⟨by omega, by omega⟩, ?_⟩ (by simp only; omega) ⟨⟨rfl, rfl, rfl⟩, rfl, rfl⟩
    have := w5.1
    unfold zeros at this ⊢
    rwa [List.replicate_append_replicate] at this
  · have hc : c = k := by omega
    subst hc
    obtain ⟨h4, e4, w4⟩ := String_eq (n := m) (by omega) g3 (by intro e; have := congrArg List.length e; rw [zeros_len] at this; simp at this; omega) (by rw [zeros_len]; omega)
    conv => whnf
    refine cutI (by decide) rfl (t := ⟨[(9, .ptr 0 0 0)], hp, []⟩) ⟨rfl, rfl, rfl⟩ ?_
    conv => whnf
    refine clI e4 ?_
    conv => whnf
    exact retP rfl (frz_str rfl)
end
end Go.Proofs
