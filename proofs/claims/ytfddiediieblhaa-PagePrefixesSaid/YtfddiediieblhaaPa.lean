/- Contracts: shared prefixes and sizes. -/
import Derived.Test.YtfddiediieblhaaTe
set_option linter.unusedVariables false
set_option linter.unusedSimpArgs false
namespace Go.Proofs
open Go Go.Abs
/-- How long the common prefix is. -/
def cp : Str → Str → Nat
  | a :: x, b :: y => if a = b then cp x y + 1 else 0
  | _, _ => 0
theorem cp_le : ∀ (x y : Str), cp x y ≤ x.length ∧ cp x y ≤ y.length
  | [], _ => by simp [cp]
  | _ :: _, [] => by simp [cp]
  | a :: x, b :: y => by
    have := cp_le x y
    simp only [cp, List.length_cons]
    split <;> omega
theorem cp_next : ∀ (x y : Str) (n : Nat) (hx : n < x.length) (hy : n < y.length), x[n] = y[n] → cp x y = n + cp (x.drop n) (y.drop n) → cp x y = n + 1 + cp (x.drop (n + 1)) (y.drop (n + 1)) := fun x y n hx hy he h => by
  rw [h, List.drop_eq_getElem_cons hx, List.drop_eq_getElem_cons hy]
  simp [cp, he]
  omega
theorem cp_stop (x y : Str) (n : Nat) (hx : n < x.length) (hy : n < y.length) (he : x[n] ≠ y[n]) (h : cp x y = n + cp (x.drop n) (y.drop n)) : cp x y = n := by
  rw [h, List.drop_eq_getElem_cons hx, List.drop_eq_getElem_cons hy]
  simp [cp, he]
theorem cp_end (x y : Str) (n : Nat) (hn : x.length ≤ n ∨ y.length ≤ n) (h : cp x y = n + cp (x.drop n) (y.drop n)) : cp x y = n := by
  rw [h]
  rcases hn with hn | hn
  · rw [List.drop_of_length_le hn]; simp [cp]
  · rw [List.drop_of_length_le hn]
    cases x.drop n <;> simp [cp]
section
variable {n : Nat} {h : AHeap}
theorem u8_eq (a b : UInt8) : (((a.toNat : Int)) == ((b.toNat : Int))) = decide (a = b) := eq_u8 a b
theorem cprefix_eq (hn : 1 ≤ n) (x y : Str) (hx : x.length < 1099511627776) (hy : y.length < 1099511627776) : C n 64 [.str x, .str y] h = some (.ret (i64 (cp x y)), h) := by
  obtain ⟨m, rfl⟩ : ∃ m, n = m + 1 := ⟨n - 1, by omega⟩
  refine fun_pure F64 rfl rfl rfl rfl ?_
  conv => whnf
  refine loopI (by decide) rfl (α := Nat) (fun k => ⟨[(0, .str x), (1, .str y), (5, i64 k)], [], []⟩) (fun k => (k ≤ x.length ∧ k ≤ y.length) ∧ cp x y = k + cp (x.drop k) (y.drop k)) (fun k => x.length - k) 0 ⟨⟨rfl, rfl, rfl⟩, rfl, rfl⟩ (by simp) (by show x.length - 0 < KK; simp only [KK]; omega) ?_
  rintro k ⟨⟨k1, k2⟩, k3⟩
  have hmin : (if ((y.length : Nat) : Int) < ((x.length : Nat) : Int) then ((y.length : Nat) : Int) else ((x.length : Nat) : Int)) = ((min x.length y.length : Nat) : Int) := by
    split <;> omega
  conv => whnf
  refine rawI (h' := []) (v := i64 ((min x.length y.length : Nat) : Int)) (by rfl) ?_ ?_
  · rw [← hmin]; rfl
  conv => whnf
  refine brd (fun a => ?_) (fun a => ?_)
  · have hkx : k < x.length := by omega
    have hky : k < y.length := by omega
    conv => whnf
    refine strI (b := x[k]) (by omega) (by rw [Int.toNat_natCast]; exact List.getElem?_eq_getElem hkx) ?_
    conv => whnf
    refine strI (b := y[k]) (by omega) (by rw [Int.toNat_natCast]; exact List.getElem?_eq_getElem hky) ?_
    have e := u8_eq x[k] y[k]
    conv => whnf
    refine br (fun b => ?_) (fun b => ?_)
    · have b' : x[k] = y[k] := by simpa using e.symm.trans b
      conv => whnf
      refine zI (z := ((k + 1 : Nat) : Int)) (by rw [wrap_i64 (by omega) (by omega)]; rfl) ?_
      exact nxI (k + 1) ⟨⟨hkx, hky⟩, cp_next x y k hkx hky b' k3⟩ (by omega) ⟨⟨rfl, rfl, rfl⟩, rfl, rfl⟩
    · have b' : x[k] ≠ y[k] := by simpa using e.symm.trans b
      conv => whnf
      refine cutI (by decide) rfl (t := ⟨[(5, i64 k)], [], []⟩) ⟨rfl, rfl, rfl⟩ ?_
      conv => whnf
      exact retP rfl (frz_int (by rw [cp_stop x y k hkx hky b' k3]))
  · conv => whnf
    refine cutI (by decide) rfl (t := ⟨[(5, i64 k)], [], []⟩) ⟨rfl, rfl, rfl⟩ ?_
    conv => whnf
    exact retP rfl (frz_int (by rw [cp_end x y k (by omega) k3]))

/-- The shared prefix. -/
def pre2 (p k : Str) : Str := p.take (cp p k)
def tailE (l : List Entry) (lv : Int) : List Entry := if 0 < lv then l.drop 1 else l
def shared (l : List Entry) (lv : Int) : Str := ((tailE l lv).drop 1).foldl (fun p e => pre2 p e.key) ((tailE l lv).headD default).key

theorem shared_loop {m : Nat} (hm : 1 ≤ m) (l : List Entry) (hl : l.length < 1099511627776) (he : ∀ e ∈ l, e.Ok) (p0 : Str) (hp0 : p0.length < 1099511627776) (sz : Nat) (hz : l ≠ [] → sz = 22) (c : Bool) {Q : Ex → LS → Prop} {s : LS}
    (hs : LS.sub ⟨[(5, .str p0), (17, .lst sz (l.map Entry.av) c), (18, i64 l.length), (19, i64 0)], [], []⟩ s) (hE : ∀ L hp, lk L 5 = some (.str (l.foldl (fun p e => pre2 p e.key) p0)) → Q (.exit 0) ⟨L, hp, []⟩) :
    OkR Try.prog (C m) cfg0.inl KK 31 6 (.loop (c37.lp 0)) s Q := by
  refine loopI (by decide) rfl (α := Nat × Str × AHeap) (fun x => ⟨[(5, .str x.2.1), (17, .lst sz (l.map Entry.av) c), (18, i64 l.length), (19, i64 x.1)], x.2.2, []⟩)
    (fun x => x.1 ≤ l.length ∧ x.2.1 = (l.take x.1).foldl (fun p e => pre2 p e.key) p0 ∧ x.2.1.length < 1099511627776) (fun x => l.length - x.1) (0, p0, []) hs (by simpa using hp0) (by show l.length - 0 < KK; simp only [KK]; omega) ?_
  rintro ⟨j, p, hp⟩ ⟨g1, g2, g3⟩
  simp only at g1 g2 g3
  conv => whnf
  refine brd (fun b => ?_) (fun b => ?_)
  · simp only at b
    have hj : j < l.length := by omega
    have hst : pre2 p l[j].key = (l.take (j + 1)).foldl (fun p e => pre2 p e.key) p0 := by
      rw [List.take_succ_eq_append_getElem hj, List.foldl_append, ← g2]; rfl
    have hk := he _ (List.getElem_mem hj)
    have hle := (cp_le p l[j].key).1
    conv => whnf
    refine ixL entry_cells hj hz ?_
    conv => whnf
    refine stI (get_last _ _) (by rfl) (by rfl) (by rfl) (by rfl) ?_
    conv => whnf
    refine ldI (get_set_last _ _ _) ?_
    conv => whnf
    refine clI (cprefix_eq (by omega) p l[j].key g3 hk.1) ?_
    conv => whnf
    refine ⟨by simp, by simp, by simpa using hle, ?_⟩
    conv => whnf
    refine zI (z := ((j + 1 : Nat) : Int)) (by rw [wrap_i64 (by omega) (by omega)]; rfl) ?_
    refine nxI (j + 1, pre2 p l[j].key, _) ⟨hj, hst, by simp only [pre2, List.length_take]; omega⟩ (by simp only; omega) ⟨⟨?_, rfl, rfl, rfl⟩, rfl, rfl⟩
    show some (AV.str ((p.take (Int.toNat (cp p l[j].key))).drop (Int.toNat 0))) = some (AV.str (pre2 p l[j].key))
    simp [pre2]
  · simp only at b
    have : j = l.length := by omega
    subst this
    rw [List.take_length] at g2
    subst g2
    conv => whnf
    exact hE _ _ rfl

theorem head_at {l : List Entry} (h : 0 < l.length) : l[0] = l.headD default := by
  cases l with
  | nil => simp at h
  | cons a r => rfl
theorem shared_eq (hn : 2 ≤ n) (l : List Entry) (hl : l.length < 1099511627776) (he : ∀ e ∈ l, e.Ok) (lv : Int) (hne : 0 < (tailE l lv).length) (sz : Nat) (hz : l ≠ [] → sz = 22) (c : Bool) :
    C n 37 [.lst sz (l.map Entry.av) c, i64 lv] h = some (.ret (.str (shared l lv)), h) := by
  obtain ⟨m, rfl⟩ : ∃ m, n = m + 1 := ⟨n - 1, by omega⟩
  have go : ∀ (t : List Entry) (c' : Bool) (s' : LS), t = tailE l lv → LS.sub ⟨[(0, .lst 22 (t.map Entry.av) c')], [], []⟩ s' → OkR Try.prog (C m) cfg0.inl KK 31 6 (cutOf c37) s' (RetQ Try.prog [.tmp 4] fun v' h' => frz h' 64 v' = some (.str (shared l lv))) := fun t c' s' ht hs' => by
    have h0 : 0 < t.length := by rw [ht]; exact hne
    have het : ∀ e ∈ t, e.Ok := fun e h => he e (by
      subst ht
      unfold tailE at h
      split at h
      · exact List.mem_of_mem_drop h
      · exact h)
    have hlt : t.length ≤ l.length := by subst ht; unfold tailE; split <;> simp
    have hsh : ((t.drop 1).foldl (fun p e => pre2 p e.key) t[0].key) = shared l lv := by rw [head_at h0, ht]; rfl
    refine cutI (by decide) rfl hs' ?_
    conv => whnf
    refine ixL entry_cells (j := 0) h0 (fun _ => rfl) ?_
    conv => whnf
    refine slI (sl_lo _ t (fun _ => rfl) c' 1 h0) ?_
    conv => whnf
    refine shared_loop (by omega) (t.drop 1) (by simp; omega) (fun e h => het e (List.mem_of_mem_drop h)) t[0].key (het _ (List.getElem_mem h0)).1 22 (fun _ => rfl) _ ⟨⟨rfl, rfl, lenI _ _, rfl⟩, rfl, rfl⟩ (fun L hp hL => ?_)
    refine cutI (by decide) rfl (t := ⟨[(5, .str (shared l lv))], hp, []⟩) ⟨by rw [hsh] at hL; exact hL, rfl, rfl⟩ ?_
    conv => whnf
    exact retP rfl (frz_str rfl)
  refine fun_pure F37 rfl rfl rfl (pure_lst entry_pure l rfl) ?_
  conv => whnf
  refine brd (fun a => ?_) (fun a => ?_)
  · have ht : l.drop 1 = tailE l lv := by unfold tailE; rw [if_pos a]
    have hl1 : 1 ≤ l.length := by rw [← ht] at hne; simp at hne; omega
    conv => whnf
    refine slI (sl_lo _ l hz c 1 hl1) ?_
    exact go (l.drop 1) _ _ ht ⟨rfl, rfl, rfl⟩
  · have ht : l = tailE l lv := by unfold tailE; rw [if_neg a]
    have hsz : sz = 22 := hz (by intro e; subst e; rw [← ht] at hne; simp at hne)
    subst hsz
    exact go l c _ ht ⟨rfl, rfl, rfl⟩

theorem valid_tail {l : List Entry} {lv : Int} (hv : valid l lv = true) : 0 < (tailE l lv).length := by
  obtain ⟨h1, h2, h3, h4⟩ := valid_iff.1 hv
  unfold tailE
  split
  · simp; omega
  · cases l with
    | nil => exact (h2 rfl).elim
    | cons => simp
def sizeN (l : List Entry) (lv : Int) : Int := (weight l lv).getD 0 - (l.length - (if 0 < lv then 1 else 0)) * (shared l lv).length + (shared l lv).length
def sizeR (l : List Entry) (lv : Int) : AV := .tup [i64 (if valid l lv then sizeN l lv else 0), i64 (if valid l lv then 0 else 2)]
def prefR (l : List Entry) (lv : Int) : AV := .tup [.str (if valid l lv then shared l lv else []), i64 (if valid l lv then 0 else 2)]
theorem prefix_eq (hn : 6 ≤ n) (l : List Entry) (hl : l.length < 1099511627776) (he : ∀ e ∈ l, e.Ok) (lv : Int) (sz : Nat) (hz : l ≠ [] → sz = 22) (c : Bool) : C n 14 [.lst sz (l.map Entry.av) c, i64 lv] h = some (.ret (prefR l lv), h) := by
  obtain ⟨m, rfl⟩ : ∃ m, n = m + 1 := ⟨n - 1, by omega⟩
  refine fun_pure F14 rfl rfl rfl (pure_lst entry_pure l rfl) ?_
  conv => whnf
  refine clI (valid_eq (by omega) l hl lv sz hz c) ?_
  conv => whnf
  refine brn (fun a => ?_) (fun a => ?_)
  · conv => whnf
    exact retP rfl (frz_si (by simp [a]) (by simp [a]))
  · conv => whnf
    refine clI (shared_eq (by omega) l hl he lv (valid_tail a) sz hz c) ?_
    conv => whnf
    exact retP rfl (frz_si (by simp [a]) (by simp [a]))

theorem pre2_len (p k : Str) : (pre2 p k).length ≤ p.length := by simp [pre2]; omega
theorem fold_len : ∀ (l : List Entry) (p : Str), (l.foldl (fun p e => pre2 p e.key) p).length ≤ p.length
  | [], p => Nat.le_refl _
  | e :: r, p => Nat.le_trans (fold_len r _) (pre2_len p e.key)
end
end Go.Proofs
