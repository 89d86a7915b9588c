/- Texts put together: Ee, Ef, Eg, Nl, Nm, Es, Nn, No, Da, Db, Np, Tg, Dd, Sd. -/
import Derived.Test.YtfddiediieblhaaGreatCha12
import Derived.Test.YtfddiediieblhaaGreatCha8
import Derived.Test.YtfddiediieblhaaGreatCha7
import Derived.Test.YtfddiediieblhaaGreatCha11
import Derived.Test.YtfddiediieblhaaGreatCha10
import Derived.Test.YtfddiediieblhaaGreatCha6
/- Contracts: the reference's validity of entries, and their shared prefix. -/
set_option linter.unusedVariables false
set_option linter.unusedSimpArgs false
namespace Go.Proofs
open Go Go.Abs
section
variable {n : Nat} {h : AHeap}
theorem refValid_loop {m : Nat} (hn : 2 ≤ m) (l : List Entry) (hl : l.length < 1099511627776) (lv : Int) (sz : Nat) (hz : l ≠ [] → sz = 22) (c : Bool) (W : 0 ≤ lv) (hk0 : lv ≠ 0 → ∀ h0 : 0 < l.length, l[0].key = []) {Q : Ex → LS → Prop} {s : LS}
    (hs : LS.sub ⟨[(0, .lst sz (l.map Entry.av) c), (1, i64 lv), (5, i64 0)], [], []⟩ s)
    (hE : (∀ i, i < l.length → vAt lv l i = true) → ∀ L hp, Q (.exit 0) ⟨L, hp, []⟩) (hR : ∀ j, j < l.length → vAt lv l j = false → ∀ L hp, lk L 4 = some (.bool false) → Q .ret ⟨L, hp, []⟩) :
    OkR Tryz.prog (C m) cfg0.inl KK 105 7 (.loop (c106.lp 0)) s Q := by
  refine loopI (by decide) rfl (α := Nat × AHeap) (fun x => ⟨[(0, .lst sz (l.map Entry.av) c), (1, i64 lv), (5, i64 x.1)], x.2, []⟩)
    (fun x => x.1 ≤ l.length ∧ ∀ i, i < x.1 → vAt lv l i = true) (fun x => l.length - x.1) (0, []) hs ?_ ?_ ?_
  · exact ⟨Nat.zero_le _, fun i hi => absurd hi (Nat.not_lt_zero _)⟩
  · show l.length - 0 < KK; simp only [KK]; omega
  · rintro ⟨j, hp⟩ ⟨g1, g2⟩
    simp only at g1 g2
    conv => whnf
    refine brd (fun b => ?_) (fun b => ?_)
    · have hj : j < l.length := by simp only [List.length_map] at b; omega
      have ext : vAt lv l j = true → ∀ i, i < j + 1 → vAt lv l i = true := fun hv i hi => by
        by_cases e : i = j
        · rw [e]; exact hv
        · exact g2 i (by omega)
      conv => whnf
      refine bre (fun z => ?_) (fun z => ?_)
      · subst z
        conv => whnf
        refine ixL entry_cells hj hz ?_
        conv => whnf
        refine clI (leafEntry_eq (by omega) l[j]) ?_
        conv => whnf
        refine brn (fun c1 => ?_) (fun c1 => ?_)
        · exact hR j hj (by rw [vAt_unf hj]; simp [c1]) _ _ rfl
        · have hfst : (if (0 : Int) = 0 then formOf l[j] != 0 else branches l[j] && (decide (j = 0) || l[j].key != [])) = true := by rw [if_pos rfl]; exact c1
          conv => whnf
          refine brd (fun c2 => ?_) (fun c2 => ?_)
          · have hj1 : j - 1 < l.length := by omega
            have hj0 : j ≠ 0 := by omega
            conv => whnf
            refine ixL entry_cells hj hz ?_
            conv => whnf
            refine zI (z := ((j - 1 : Nat) : Int)) (by rw [wrap_i64 (by omega) (by omega)]; omega) ?_
            conv => whnf
            refine ixL entry_cells (l := l) (j := j - 1) hj1 hz ?_
            conv => whnf
            have tri := bytesLess_tri l[j].key (l[j - 1]'hj1).key
            refine br (fun d => ?_) (fun d => ?_)
            · have d' : Op.bytesLess (l[j - 1]'hj1).key l[j].key = false := by
                have := tri.symm.trans d
                simpa using this
              have hc : ¬ cmpS (l[j - 1]'hj1).key l[j].key < 0 := fun q => by rw [cmp_neg.1 q] at d'; cases d'
              refine hR j hj (by rw [vAt_unf hj]; simp [hj0, hc]) _ _ rfl
            · have d' : Op.bytesLess (l[j - 1]'hj1).key l[j].key = true := by
                have := tri.symm.trans d
                simpa using this
              have hc : cmpS (l[j - 1]'hj1).key l[j].key < 0 := cmp_neg.2 d'
              conv => whnf
              refine zI (z := ((j + 1 : Nat) : Int)) (by rw [wrap_i64 (by omega) (by omega)]; rfl) ?_
              refine nxI (j + 1, _) ⟨hj, ext (by rw [vAt_unf hj, hfst]; simp [hj0, hc])⟩ (by simp only; omega) ⟨⟨rfl, rfl, rfl⟩, rfl, rfl⟩
          · have hj0 : j = 0 := by omega
            conv => whnf
            refine zI (z := ((j + 1 : Nat) : Int)) (by rw [wrap_i64 (by omega) (by omega)]; rfl) ?_
            refine nxI (j + 1, _) ⟨hj, ext (by rw [vAt_unf hj, hfst]; simp [hj0])⟩ (by simp only; omega) ⟨⟨rfl, rfl, rfl⟩, rfl, rfl⟩
      · have zp : 0 < lv := by omega
        conv => whnf
        refine brd (fun _ => ?_) (fun q => absurd zp q)
        conv => whnf
        refine ixL entry_cells hj hz ?_
        conv => whnf
        refine clI (branchEntry_eq (by omega) l[j]) ?_
        conv => whnf
        refine brn (fun c1 => ?_) (fun c1 => ?_)
        · exact hR j hj (by rw [vAt_unf hj, branch_split]; simp [c1, z]) _ _ rfl
        · conv => whnf
          refine brd (fun _ => ?_) (fun q => absurd zp q)
          conv => whnf
          refine brd (fun jp => ?_) (fun jp => ?_)
          · have hj0 : j ≠ 0 := by omega
            conv => whnf
            refine ixL entry_cells hj hz ?_
            conv => whnf
            refine brd (fun k1 => ?_) (fun k1 => ?_)
            · have hk : l[j].key = [] := List.length_eq_zero_iff.1 (by omega)
              exact hR j hj (by rw [vAt_unf hj]; simp [hk, z, hj0]) _ _ rfl
            · conv => whnf
              refine ixL entry_cells hj hz ?_
              conv => whnf
              refine brd (fun k2 => ?_) (fun k2 => ?_)
              · exact hR j hj (by rw [vAt_unf hj, branch_split]; simp [z, show ¬ l[j].key.length ≤ 48 by omega]) _ _ rfl
              · have hk : l[j].key ≠ [] := by intro q; rw [q] at k1; simp at k1
                have hfst : (if lv = 0 then formOf l[j] != 0 else branches l[j] && (decide (j = 0) || l[j].key != [])) = true := by rw [if_neg z, branch_split]; simp [c1, hk, show l[j].key.length ≤ 48 by omega]
                conv => whnf
                refine brd (fun c2 => ?_) (fun c2 => ?_)
                · have hj1 : j - 1 < l.length := by omega
                  have hj0 : j ≠ 0 := by omega
                  conv => whnf
                  refine ixL entry_cells hj hz ?_
                  conv => whnf
                  refine zI (z := ((j - 1 : Nat) : Int)) (by rw [wrap_i64 (by omega) (by omega)]; omega) ?_
                  conv => whnf
                  refine ixL entry_cells (l := l) (j := j - 1) hj1 hz ?_
                  conv => whnf
                  have tri := bytesLess_tri l[j].key (l[j - 1]'hj1).key
                  refine br (fun d => ?_) (fun d => ?_)
                  · have d' : Op.bytesLess (l[j - 1]'hj1).key l[j].key = false := by
                      have := tri.symm.trans d
                      simpa using this
                    have hc : ¬ cmpS (l[j - 1]'hj1).key l[j].key < 0 := fun q => by rw [cmp_neg.1 q] at d'; cases d'
                    refine hR j hj (by rw [vAt_unf hj]; simp [hj0, hc]) _ _ rfl
                  · have d' : Op.bytesLess (l[j - 1]'hj1).key l[j].key = true := by
                      have := tri.symm.trans d
                      simpa using this
                    have hc : cmpS (l[j - 1]'hj1).key l[j].key < 0 := cmp_neg.2 d'
                    conv => whnf
                    refine zI (z := ((j + 1 : Nat) : Int)) (by rw [wrap_i64 (by omega) (by omega)]; rfl) ?_
                    refine nxI (j + 1, _) ⟨hj, ext (by rw [vAt_unf hj, hfst]; simp [hj0, hc])⟩ (by simp only; omega) ⟨⟨rfl, rfl, rfl⟩, rfl, rfl⟩
                · have hj0 : j = 0 := by omega
                  conv => whnf
                  refine zI (z := ((j + 1 : Nat) : Int)) (by rw [wrap_i64 (by omega) (by omega)]; rfl) ?_
                  refine nxI (j + 1, _) ⟨hj, ext (by rw [vAt_unf hj, hfst]; simp [hj0])⟩ (by simp only; omega) ⟨⟨rfl, rfl, rfl⟩, rfl, rfl⟩
          · have hj0 : j = 0 := by omega
            subst hj0
            have hk := hk0 z hj
            have hfst : (if lv = 0 then formOf l[0] != 0 else branches l[0] && (decide ((0 : Nat) = 0) || l[0].key != [])) = true := by rw [if_neg z, branch_split, hk]; simp [c1]
            conv => whnf
            refine zI (z := ((0 + 1 : Nat) : Int)) (by rw [wrap_i64 (by omega) (by omega)]; rfl) ?_
            refine nxI (0 + 1, _) ⟨hj, ext (by rw [vAt_unf hj, hfst]; simp)⟩ (by simp only; omega) ⟨⟨rfl, rfl, rfl⟩, rfl, rfl⟩
    · have hj : j = l.length := by simp only [List.length_map] at b; omega
      subst hj
      conv => whnf
      exact hE g2 _ _
theorem refValid_eq (hn : 3 ≤ n) (l : List Entry) (hl : l.length < 1099511627776) (lv : Int) (sz : Nat) (hz : l ≠ [] → sz = 22) (c : Bool) : C n 106 [.lst sz (l.map Entry.av) c, i64 lv] h = some (.ret (.bool (valid l lv)), h) := by
  obtain ⟨m, rfl⟩ : ∃ m, n = m + 1 := ⟨n - 1, by omega⟩
  refine fun_pure F106 rfl rfl rfl (pure_lst entry_pure l rfl) ?_
  conv => whnf
  refine brd (fun a => ?_) (fun a => ?_)
  · conv => whnf
    exact retP rfl (frz_bool (by simp [valid, within]; omega))
  conv => whnf
  refine brd (fun b => ?_) (fun b => ?_)
  · conv => whnf
    exact retP rfl (frz_bool (by simp [valid, within]; omega))
  have W : within lv 0 20 = true := within_iff.2 (by omega)
  conv => whnf
  refine bre (fun z => ?_) (fun z => ?_)
  · subst z
    conv => whnf
    refine brd (fun d => ?_) (fun d => ?_)
    · have : l = [] := List.length_eq_zero_iff.1 (by rw [List.length_map] at d; omega)
      conv => whnf
      exact retP rfl (frz_bool (by subst this; rfl))
    · have hne : l ≠ [] := by rintro rfl; simp at d
      conv => whnf
      refine refValid_loop (by omega) l hl 0 sz hz c (by omega) (fun q => (q rfl).elim) ⟨⟨rfl, rfl, rfl⟩, rfl, rfl⟩ (fun e L hp => ?_) (fun j hj e L hp hk => ?_)
      · refine cutI (by decide) rfl (t := ⟨[], hp, []⟩) ⟨trivial, rfl, rfl⟩ ?_
        conv => whnf
        exact retP rfl (frz_bool (valid_good W hne (.inl rfl) e).symm)
      · exact retK hk (frz_bool (valid_bad hj e).symm)
  · conv => whnf
    refine brd (fun zp => ?_) (fun q => absurd (by omega) q)
    conv => whnf
    refine brd (fun d => ?_) (fun d => ?_)
    · have : ¬ 2 ≤ l.length := by rw [List.length_map] at d; omega
      conv => whnf
      exact retP rfl (frz_bool (by simp [valid, *]))
    · have h2 : 2 ≤ l.length := by rw [List.length_map] at d; omega
      have h0 : 0 < l.length := by omega
      have hne : l ≠ [] := by rintro rfl; simp at h0
      have k0 : l[0].key = keyAt l 0 := by simp [keyAt, h0]
      conv => whnf
      refine ixL entry_cells (j := 0) h0 hz ?_
      conv => whnf
      refine brq (fun g => ?_) (fun g => ?_)
      · conv => whnf
        rw [k0] at g
        exact retP rfl (frz_bool (by simp [valid, *]))
      · conv => whnf
        refine refValid_loop (by omega) l hl lv sz hz c (by omega) (fun _ _ => g) ⟨⟨rfl, rfl, rfl⟩, rfl, rfl⟩ (fun e L hp => ?_) (fun j hj e L hp hk => ?_)
        · refine cutI (by decide) rfl (t := ⟨[], hp, []⟩) ⟨trivial, rfl, rfl⟩ ?_
          conv => whnf
          exact retP rfl (frz_bool (valid_good W hne (.inr ⟨h2, by rw [← k0]; exact g⟩) e).symm)
        · exact retK hk (frz_bool (valid_bad hj e).symm)
end
end Go.Proofs
/- Contracts: the reference's shared prefix and suffixes. -/
set_option linter.unusedVariables false
set_option linter.unusedSimpArgs false
namespace Go.Proofs
open Go Go.Abs
theorem tail_at {l : List Entry} {lv : Int} {k : Nat} (hk : k < (tailE l lv).length) (f : Nat) (hf : f = if 0 < lv then 1 else 0) : ∃ h : f + k < l.length, (tailE l lv)[k] = l[f + k] := by
  by_cases h : 0 < lv
  · have e : tailE l lv = l.drop 1 := by unfold tailE; rw [if_pos h]
    rw [if_pos h] at hf
    subst hf
    have hl : 1 + k < l.length := by rw [e, List.length_drop] at hk; omega
    refine ⟨hl, ?_⟩
    simp only [e, List.getElem_drop]
  · have e : tailE l lv = l := by unfold tailE; rw [if_neg h]
    rw [if_neg h] at hf
    subst hf
    have hl : 0 + k < l.length := by rw [e] at hk; omega
    refine ⟨hl, ?_⟩
    simp only [e, Nat.zero_add]
theorem tail_len (l : List Entry) (lv : Int) (f : Nat) (hf : f = if 0 < lv then 1 else 0) : (tailE l lv).length = l.length - f := by
  by_cases h : 0 < lv
  · unfold tailE; rw [if_pos h] at hf ⊢; simp [hf]
  · unfold tailE; rw [if_neg h] at hf ⊢; simp [hf]
section
variable {n : Nat} {h : AHeap}
theorem refPrefix_loop {m : Nat} (l : List Entry) (hl : l.length < 1099511627776) (he : ∀ e ∈ l, e.Ok) (lv : Int) (hne : 0 < (tailE l lv).length) (f : Nat) (hf : f = if 0 < lv then 1 else 0) (sz : Nat) (hz : l ≠ [] → sz = 22) (c : Bool) {Q : Ex → LS → Prop} {s : LS}
    (hs : LS.sub ⟨[(0, .lst sz (l.map Entry.av) c), (6, .str ((tailE l lv).headD default).key), (7, i64 ((f + 0 : Nat)))], [], []⟩ s) (hE : ∀ L, lk L 6 = some (.str (shared l lv)) → Q (.exit 0) ⟨L, [], []⟩) :
    OkR Tryz.prog (C m) cfg0.inl KK 56 6 (.loop (c114.lp 0)) s Q := by
  have hf1 : f ≤ 1 := by rw [hf]; split <;> omega
  have tl := tail_len l lv f hf
  have hh : (tailE l lv).headD default ∈ l := by
    obtain ⟨h1, h2⟩ := tail_at hne f hf
    rw [← head_at hne, h2]
    exact List.getElem_mem h1
  refine loopI (by decide) rfl (α := Nat × Str) (fun x => ⟨[(0, .lst sz (l.map Entry.av) c), (6, .str x.2), (7, i64 ((f + x.1 : Nat)))], [], []⟩)
    (fun x => x.1 ≤ (tailE l lv).length ∧ x.2 = ((tailE l lv).take x.1).foldl (fun p e => pre2 p e.key) ((tailE l lv).headD default).key ∧ x.2.length < 1099511627776) (fun x => (tailE l lv).length - x.1) (0, ((tailE l lv).headD default).key) hs ⟨Nat.zero_le _, rfl, (he _ hh).1⟩ (by show (tailE l lv).length - 0 < KK; simp only [KK]; omega) ?_
  rintro ⟨k, p⟩ ⟨g1, g2, g3⟩
  simp only at g1 g2 g3
  conv => whnf
  refine brd (fun b => ?_) (fun b => ?_)
  · have hk : k < (tailE l lv).length := by simp only [List.length_map] at b; omega
    obtain ⟨hj, hat⟩ := tail_at hk f hf
    have hst : pre2 p l[f + k].key = ((tailE l lv).take (k + 1)).foldl (fun p e => pre2 p e.key) ((tailE l lv).headD default).key := by
      rw [List.take_succ_eq_append_getElem hk, List.foldl_append, ← g2, hat]; rfl
    have hkey := he _ (List.getElem_mem hj)
    have hle := (cp_le p l[f + k].key).1
    conv => whnf
    refine loopI (by decide) rfl (α := Nat) (fun t => ⟨[(0, .lst sz (l.map Entry.av) c), (6, .str p), (7, i64 ((f + k : Nat))), (8, i64 t)], [], []⟩) (fun t => (t ≤ p.length ∧ t ≤ l[f + k].key.length) ∧ cp p l[f + k].key = t + cp (p.drop t) (l[f + k].key.drop t)) (fun t => p.length - t) 0 ⟨⟨rfl, rfl, rfl, rfl⟩, rfl, rfl⟩ (by simp) (by show p.length - 0 < KK; simp only [KK]; omega) ?_
    rintro t ⟨⟨t1, t2⟩, t3⟩
    conv => whnf
    refine brd (fun d => ?_) (fun d => ?_)
    · have ht : t < p.length := by omega
      conv => whnf
      refine ixL entry_cells hj hz ?_
      conv => whnf
      refine brd (fun d2 => ?_) (fun d2 => ?_)
      · have ht2 : t < l[f + k].key.length := by omega
        conv => whnf
        refine strI (b := p[t]) (by omega) (by rw [Int.toNat_natCast]; exact List.getElem?_eq_getElem ht) ?_
        conv => whnf
        refine ixL entry_cells hj hz ?_
        conv => whnf
        refine strI (b := l[f + k].key[t]) (by omega) (by rw [Int.toNat_natCast]; exact List.getElem?_eq_getElem ht2) ?_
        have e := u8_eq p[t] l[f + k].key[t]
        conv => whnf
        refine br (fun b => ?_) (fun b => ?_)
        · have b' : p[t] = l[f + k].key[t] := by simpa using e.symm.trans b
          conv => whnf
          refine zI (z := ((t + 1 : Nat) : Int)) (by rw [wrap_i64 (by omega) (by omega)]; rfl) ?_
          exact nxI (t + 1) ⟨⟨ht, ht2⟩, cp_next p _ t ht ht2 b' t3⟩ (by omega) ⟨⟨rfl, rfl, rfl, rfl⟩, rfl, rfl⟩
        · have b' : p[t] ≠ l[f + k].key[t] := by simpa using e.symm.trans b
          have ec := cp_stop p _ t ht ht2 b' t3
          conv => whnf
          refine cutI (by decide) rfl (t := ⟨[(0, .lst sz (l.map Entry.av) c), (6, .str p), (7, i64 ((f + k : Nat))), (8, i64 (cp p l[f + k].key))], [], []⟩) ⟨⟨rfl, rfl, rfl, by rw [ec]; rfl⟩, rfl, rfl⟩ ?_
          conv => whnf
          refine ss_hi hle ?_
          refine cutI (by decide) rfl (t := ⟨[(0, .lst sz (l.map Entry.av) c), (6, .str (pre2 p l[f + k].key)), (7, i64 ((f + k : Nat)))], [], []⟩) ⟨⟨rfl, rfl, rfl⟩, rfl, rfl⟩ ?_
          conv => whnf
          refine zI (z := ((f + (k + 1) : Nat) : Int)) (by rw [wrap_i64 (by omega) (by omega)]; omega) ?_
          refine nxI (k + 1, pre2 p l[f + k].key) ⟨by omega, hst, by simp only [pre2, List.length_take]; omega⟩ (by simp only; omega) ⟨⟨rfl, rfl, rfl⟩, rfl, rfl⟩
      · have ec := cp_end p l[f + k].key t (by omega) t3
        conv => whnf
        refine cutI (by decide) rfl (t := ⟨[(0, .lst sz (l.map Entry.av) c), (6, .str p), (7, i64 ((f + k : Nat))), (8, i64 (cp p l[f + k].key))], [], []⟩) ⟨⟨rfl, rfl, rfl, by rw [ec]; rfl⟩, rfl, rfl⟩ ?_
        conv => whnf
        refine ss_hi hle ?_
        refine cutI (by decide) rfl (t := ⟨[(0, .lst sz (l.map Entry.av) c), (6, .str (pre2 p l[f + k].key)), (7, i64 ((f + k : Nat)))], [], []⟩) ⟨⟨rfl, rfl, rfl⟩, rfl, rfl⟩ ?_
        conv => whnf
        refine zI (z := ((f + (k + 1) : Nat) : Int)) (by rw [wrap_i64 (by omega) (by omega)]; omega) ?_
        refine nxI (k + 1, pre2 p l[f + k].key) ⟨by omega, hst, by simp only [pre2, List.length_take]; omega⟩ (by simp only; omega) ⟨⟨rfl, rfl, rfl⟩, rfl, rfl⟩
    · have ec := cp_end p l[f + k].key t (by omega) t3
      conv => whnf
      refine cutI (by decide) rfl (t := ⟨[(0, .lst sz (l.map Entry.av) c), (6, .str p), (7, i64 ((f + k : Nat))), (8, i64 (cp p l[f + k].key))], [], []⟩) ⟨⟨rfl, rfl, rfl, by rw [ec]; rfl⟩, rfl, rfl⟩ ?_
      conv => whnf
      refine ss_hi hle ?_
      refine cutI (by decide) rfl (t := ⟨[(0, .lst sz (l.map Entry.av) c), (6, .str (pre2 p l[f + k].key)), (7, i64 ((f + k : Nat)))], [], []⟩) ⟨⟨rfl, rfl, rfl⟩, rfl, rfl⟩ ?_
      conv => whnf
      refine zI (z := ((f + (k + 1) : Nat) : Int)) (by rw [wrap_i64 (by omega) (by omega)]; omega) ?_
      refine nxI (k + 1, pre2 p l[f + k].key) ⟨by omega, hst, by simp only [pre2, List.length_take]; omega⟩ (by simp only; omega) ⟨⟨rfl, rfl, rfl⟩, rfl, rfl⟩
  · have hk : k = (tailE l lv).length := by simp only [List.length_map] at b; omega
    subst hk
    rw [List.take_length, shared_fold] at g2
    subst g2
    conv => whnf
    exact hE _ rfl
theorem refPrefix_eq (hn : 1 ≤ n) (l : List Entry) (hl : l.length < 1099511627776) (he : ∀ e ∈ l, e.Ok) (lv : Int) (hne : 0 < (tailE l lv).length) (sz : Nat) (hz : l ≠ [] → sz = 22) (c : Bool) : C n 114 [.lst sz (l.map Entry.av) c, i64 lv] h = some (.ret (.str (shared l lv)), h) := by
  obtain ⟨m, rfl⟩ : ∃ m, n = m + 1 := ⟨n - 1, by omega⟩
  have h0 : 0 < l.length := by
    have := tail_len l lv _ rfl
    omega
  refine fun_pure F114 rfl rfl rfl (pure_lst entry_pure l rfl) ?_
  conv => whnf
  refine brd (fun a => ?_) (fun a => ?_)
  · obtain ⟨hj, hat⟩ := tail_at hne 1 (by rw [if_pos a])
    conv => whnf
    refine ixL entry_cells (j := 1) hj hz ?_
    conv => whnf
    refine refPrefix_loop l hl he lv hne 1 (by rw [if_pos a]) sz hz c ⟨⟨rfl, ?_, rfl⟩, rfl, rfl⟩ (fun L hL => ?_)
    · rw [← head_at hne, hat]; rfl
    · refine cutI (by decide) rfl (t := ⟨[(6, .str (shared l lv))], [], []⟩) ⟨hL, rfl, rfl⟩ ?_
      conv => whnf
      exact retP rfl (frz_str rfl)
  · obtain ⟨hj, hat⟩ := tail_at hne 0 (by rw [if_neg a])
    conv => whnf
    refine ixL entry_cells (j := 0) h0 hz ?_
    conv => whnf
    refine refPrefix_loop l hl he lv hne 0 (by rw [if_neg a]) sz hz c ⟨⟨rfl, ?_, rfl⟩, rfl, rfl⟩ (fun L hL => ?_)
    · rw [← head_at hne, hat]; rfl
    · refine cutI (by decide) rfl (t := ⟨[(6, .str (shared l lv))], [], []⟩) ⟨hL, rfl, rfl⟩ ?_
      conv => whnf
      exact retP rfl (frz_str rfl)
theorem suffix_eq (hn : 2 ≤ n) (l : List Entry) (hl : l.length < 1099511627776) (he : ∀ e ∈ l, e.Ok) (lv : Int) (hne : 0 < (tailE l lv).length) (i : Nat) (hi : i < l.length) (sz : Nat) (hz : l ≠ [] → sz = 22) (c : Bool) : C n 150 [.lst sz (l.map Entry.av) c, i64 lv, i64 i] h = some (.ret (.str (if i = 0 ∧ 0 < lv then [] else l[i].key.drop (cutAt l lv i))), h) := by
  obtain ⟨m, rfl⟩ : ∃ m, n = m + 1 := ⟨n - 1, by omega⟩
  have cP := fun h => refPrefix_eq (n := m) (h := h) (by omega) l hl he lv hne sz hz c
  have tailw : ¬(i = 0 ∧ 0 < lv) → cutAt l lv i = (shared l lv).length := fun q => by unfold cutAt; rw [if_neg q]
  have hcut : cutAt l lv i ≤ l[i].key.length := cutAt_le hi
  refine fun_pure F150 rfl rfl rfl (pure_lst entry_pure l rfl) ?_
  conv => whnf
  refine brd (fun a => ?_) (fun a => ?_)
  · conv => whnf
    refine bre (fun b => ?_) (fun b => ?_)
    · conv => whnf
      refine retP rfl (frz_str ?_)
      rw [if_pos ⟨by omega, a⟩]
    · have q : ¬(i = 0 ∧ 0 < lv) := by omega
      rw [tailw q] at hcut
      conv => whnf
      refine ixL entry_cells hi hz ?_
      conv => whnf
      refine clI (cP _) ?_
      conv => whnf
      refine ss_lo hcut ?_
      conv => whnf
      refine retP rfl (frz_str ?_)
      rw [if_neg q, tailw q]
  · have q : ¬(i = 0 ∧ 0 < lv) := by omega
    rw [tailw q] at hcut
    conv => whnf
    refine ixL entry_cells hi hz ?_
    conv => whnf
    refine clI (cP _) ?_
    conv => whnf
    refine ss_lo hcut ?_
    conv => whnf
    refine retP rfl (frz_str ?_)
    rw [if_neg q, tailw q]
end
end Go.Proofs
/- Contracts: the reference's bytes of entries, weights. -/
set_option linter.unusedVariables false
set_option linter.unusedSimpArgs false
namespace Go.Proofs
open Go Go.Abs
theorem cell_res {L : LT} {h : AHeap} {k b t N f : Nat} {el : Option TypeId} {cs : List AV} (hk : lk L k = some (.ptr b 0 0)) (ht : (ti Tryz.prog t).map (fun d => (isAggD d.desc, d.size)) = some (true, N)) (hN : cs.length = N) (hb : h[b]? = some (.cells 0 el cs f)) : resAL Tryz.prog L h [.cell k t] = some [.agg cs] := by
  simp only [resAL, hk, load_agg ht hN hb]
theorem valid_suf {l : List Entry} {lv : Int} (hv : valid l lv = true) {i : Nat} (hi : i < l.length) : (if i = 0 ∧ 0 < lv then [] else l[i].key.drop (cutAt l lv i)) = l[i].key.drop (cutAt l lv i) := by
  split
  · rename_i q
    obtain ⟨rfl, q2⟩ := q
    obtain ⟨_, _, h3, _⟩ := valid_iff.1 hv
    rcases h3 with h3 | h3
    · omega
    · have : l[0].key = [] := by rw [← h3.2]; simp [keyAt, hi]
      rw [this]; simp
  · rfl
def weightA (l : List Entry) (lv : Int) : List AV := match weight l lv with
  | some n => [i64 n, i64 0]
  | none => [i64 0, i64 2]
section
variable {n : Nat} {h : AHeap}
theorem entries_bytes (hn : 3 ≤ n) (l : List Entry) (hl : l.length < 1099511627776) (lv : Int) (hv : valid l lv = true) (at' : Nat) (ha : at' < 1099511627776) (sz : Nat) (hz : l ≠ [] → sz = 22) (c : Bool) :
    C n 115 [.lst sz (l.map Entry.av) c, i64 lv, i64 at'] h = some (.ret (.str (shared l lv ++ (offsB l lv (at' + (shared l lv).length + 2 * l.length) l.length ++ entsB l lv l.length))), h) := by
  obtain ⟨m, rfl⟩ : ∃ m, n = m + 1 := ⟨n - 1, by omega⟩
  have hnn := valid_nn hv
  have he : ∀ e ∈ l, e.Ok := fun e h => by have := hnn e h; exact ⟨by omega, by omega⟩
  have hne := valid_tail hv
  have hsl := shared_len hv
  have hlv := (valid_iff.1 hv).1.1
  have cP := fun h => refPrefix_eq (n := m) (h := h) (by omega) l hl he lv hne sz hz c
  have cS := fun (i : Nat) (hi : i < l.length) h => (suffix_eq (n := m) (h := h) (by omega) l hl he lv hne i hi sz hz c).trans (by rw [valid_suf hv hi])
  have cN : ∀ (k w : Nat) (h : AHeap), k < 9223372036854775808 → w ≤ 8 → C m 64 [i64 k, i64 w] h = some (.ret (.str (num k w)), h) := fun k w h h2 h3 => refNumber_eq (by omega) k w h3 h2
  have cR := fun (i : Nat) (hi : i < l.length) h => rest_eq (n := m) (h := h) (by omega) l[i] lv hlv (valid_form hv hi).1
  refine fun_pure F115 rfl rfl rfl (pure_lst entry_pure l rfl) ?_
  conv => whnf
  refine clI (cP _) ?_
  conv => whnf
  refine zI (z := ((at' + (shared l lv).length : Nat) : Int)) (by rw [wrap_i64 (by omega) (by omega)]; rfl) ?_
  conv => whnf
  refine zI (z := ((2 * l.length : Nat) : Int)) (by rw [List.length_map, wrap_i64 (by omega) (by omega)]; rfl) ?_
  conv => whnf
  refine zI (z := ((at' + (shared l lv).length + 2 * l.length : Nat) : Int)) (by rw [wrap_i64 (by omega) (by omega)]; rfl) ?_
  conv => whnf
  refine loopI (by decide) rfl (α := Nat) (fun j => ⟨[(0, .lst sz (l.map Entry.av) c), (1, i64 lv), (2, i64 ((at' + (shared l lv).length + 2 * l.length : Nat))), (7, .str (shared l lv)), (8, .str (offsB l lv (at' + (shared l lv).length + 2 * l.length) j)), (9, .str (entsB l lv j)), (10, i64 j)], [], []⟩)
    (fun j => j ≤ l.length) (fun j => l.length - j) 0 ⟨⟨rfl, rfl, rfl, rfl, rfl, rfl, rfl⟩, rfl, rfl⟩ (Nat.zero_le _) (by show l.length - 0 < KK; simp only [KK]; omega) ?_
  intro j hj
  have hle := entsB_len hv j hj
  have hlo := offsB_len l lv (at' + (shared l lv).length + 2 * l.length) j
  conv => whnf
  refine brd (fun b => ?_) (fun b => ?_)
  · have hjl : j < l.length := by simp only [List.length_map] at b; omega
    have hb := restB_len l[j] lv
    have hnj := hnn _ (List.getElem_mem hjl)
    conv => whnf
    refine clI (cS j hjl _) ?_
    conv => whnf
    refine zI (z := ((at' + (shared l lv).length + 2 * l.length + (entsB l lv j).length : Nat) : Int)) (by rw [wrap_i64 (by omega) (by omega)]; rfl) ?_
    conv => whnf
    refine clI (cN _ 2 _ (by omega) (by omega)) ?_
    conv => whnf
    refine ⟨by rw [num_len]; omega, ?_⟩
    conv => whnf
    refine clI (cN (l[j].key.drop (cutAt l lv j)).length 1 _ (by rw [List.length_drop]; omega) (by omega)) ?_
    conv => whnf
    refine ⟨by rw [num_len]; omega, ?_⟩
    conv => whnf
    refine ⟨by simp only [List.length_append, num_len, List.length_drop]; omega, ?_⟩
    conv => whnf
    refine ixL entry_cells hjl hz ?_
    conv => whnf
    refine clI (cR j hjl _) ?_
    conv => whnf
    refine ⟨by simp only [List.length_append, num_len, List.length_drop]; omega, ?_⟩
    conv => whnf
    refine zI (z := ((j + 1 : Nat) : Int)) (by rw [wrap_i64 (by omega) (by omega)]; rfl) ?_
    refine nxI (j + 1) hjl (by omega) ⟨⟨rfl, rfl, rfl, rfl, ?_, ?_, rfl⟩, rfl, rfl⟩
    · rw [offsB_succ]; rfl
    · rw [entsB_succ l lv hjl]
      unfold entB
      rw [List.length_drop]
      simp only [List.append_assoc]
      rfl
  · have : j = l.length := by simp only [List.length_map] at b; omega
    subst this
    conv => whnf
    refine cutI (by decide) rfl (t := ⟨[(7, .str (shared l lv)), (8, .str (offsB l lv (at' + (shared l lv).length + 2 * l.length) l.length)), (9, .str (entsB l lv l.length))], [], []⟩) ⟨⟨rfl, rfl, rfl⟩, rfl, rfl⟩ ?_
    conv => whnf
    refine ⟨by omega, ?_⟩
    conv => whnf
    refine ⟨by rw [List.length_append]; omega, ?_⟩
    conv => whnf
    exact retP rfl (frz_str (by rw [List.append_assoc]))
end
end Go.Proofs
/- Contracts: the reference's pieces, its numbers of pages. -/
set_option linter.unusedVariables false
set_option linter.unusedSimpArgs false
namespace Go.Proofs
open Go Go.Abs
/-- A slice that grows, held by a variable, behind the first blocks of memory. -/
def WBuf (lo : Nat) (el : TypeId) (sz : Nat) (hp : AHeap) (L : AV) (rows : List (List AV)) : Prop := VBuf el sz hp L rows ∧ ∀ eb ver, L = .sl sz eb ver 0 rows.length → lo ≤ eb
theorem WBuf.nil {lo el sz : Nat} {hp : AHeap} : WBuf lo el sz hp (.lst 0 [] true) [] := ⟨VBuf.nil, fun _ _ e => by cases e⟩
theorem wbuf_app {lo el sz : Nat} {hp : AHeap} {L x : AV} {rows : List (List AV)} {row : List AV} (hB : WBuf lo el sz hp L rows) (hlo : lo ≤ hp.length) (h1 : lenA x = some 1) (h2 : firstA hp sz 1 x = some row) (hr : row.length = sz ∧ row.all AV.scal = true) (hl : rows.length + 1 ≤ 1073741824) :
    ∃ v hp', appR hp el sz L x = some (v, some hp') ∧ WBuf lo el sz hp' v (rows ++ [row]) ∧ (∀ k, k < lo → hp'[k]? = hp[k]?) ∧ hp.length ≤ hp'.length := by
  have hrows : ∀ r ∈ rows ++ [row], r.length = sz ∧ r.all AV.scal = true := by
    intro r hm
    simp at hm
    rcases hm with hm | rfl
    · exact hB.1.1 r hm
    · exact hr
  unfold appR
  rw [h1]
  simp only
  rw [h2]
  simp only [hr.2, Bool.not_true, Bool.false_eq_true, if_false]
  rcases hB with ⟨⟨hB1, ⟨rfl, rfl⟩ | ⟨bb, ver, frz, rfl, g1, g3⟩⟩, hlo2⟩
  · simp only
    rw [if_neg (by decide)]
    have h3 : firstA hp sz ([] : List AV).length (.lst 0 [] true) = some [] := by
      unfold firstA
      simp
    rw [h3]
    simp only [List.length_nil, Nat.zero_add]
    rw [if_pos ⟨by decide, rfl⟩]
    refine ⟨_, _, rfl, ⟨⟨hrows, .inr ⟨hp.length, 0, 0, rfl, by simp, Nat.zero_le _⟩⟩, fun eb ver e => ?_⟩, fun k hk => ?_, by simp⟩
    · cases e; exact hlo
    · rw [List.getElem?_append_left (by omega)]
  · have hf := flatten_len hB1
    simp only
    rw [g1]
    simp only
    rw [if_pos ⟨.inl trivial, trivial, trivial, trivial, hf.1.symm, hf.2, hl, g3⟩, if_neg (by decide)]
    have hb := hlo2 bb ver rfl
    refine ⟨_, _, rfl, ⟨⟨hrows, .inr ⟨bb, ver + 1, frz, by simp, ?_, by rw [List.flatten_append, List.length_append]; omega⟩⟩, fun eb ver e => ?_⟩, fun k hk => ?_, by simp⟩
    · rw [List.getElem?_set_self (lt_of_get g1)]; simp
    · have := (AV.sl.inj e).2.1; omega
    · rw [List.getElem?_set_ne (by omega)]
theorem WBuf.sl {lo el sz : Nat} {hp : AHeap} {L : AV} {rows : List (List AV)} (b : WBuf lo el sz hp L rows) (hne : rows ≠ []) : ∃ eb ver, L = .sl sz eb ver 0 rows.length := by
  rcases b.1.2 with ⟨_, h⟩ | ⟨eb, ver, frz, h1, _⟩
  · exact (hne h).elim
  · exact ⟨eb, ver, h1⟩
theorem WBuf.fresh {lo el sz : Nat} {hp : AHeap} {L : AV} {rows : List (List AV)} (b : WBuf lo el sz hp L rows) {k : Nat} (x : AB) (hk : hp.length ≤ k) (xs : AHeap) : WBuf lo el sz ((hp ++ xs).set k x) L rows := ⟨b.1.fresh x hk xs, b.2⟩
theorem WBuf.low {lo el sz : Nat} {hp : AHeap} {L : AV} {rows : List (List AV)} (b : WBuf lo el sz hp L rows) {k : Nat} (x : AB) (hk : k < lo) : WBuf lo el sz (hp.set k x) L rows := by
  refine ⟨⟨b.1.1, ?_⟩, b.2⟩
  rcases b.1.2 with h | ⟨eb, ver, frz, h1, h2, h3⟩
  · exact .inl h
  · refine .inr ⟨eb, ver, frz, h1, ?_, h3⟩
    have := b.2 eb ver h1
    rw [List.getElem?_set_ne (by omega)]; exact h2
theorem pieceN_big {s : Str} {j : Nat} (h1 : 490 * j < s.length) (h2 : s.length - 490 * j ≤ 490) : pieceN s = j + 1 := by
  unfold pieceN; omega
theorem drop_piece {s : Str} {j : Nat} (h2 : s.length - 490 * j ≤ 490) : s.drop (490 * j) = pieceAt s j := by
  unfold pieceAt
  rw [List.take_of_length_le (by rw [List.length_drop]; exact h2)]
theorem frz_agg2 {h : AHeap} {n : Nat} {a b a' b' : AV} (h1 : Abs.frz h n a = some a') (h2 : Abs.frz h n b = some b') : Abs.frz h (n + 1) (.agg [a, b]) = some (.agg [a', b']) := by
  have h3 : allM (Abs.frz h n) [a, b] = some [a', b'] := by
    unfold allM allM
    rw [h1, h2]
    rfl
  unfold Abs.frz
  simp only
  rw [h3]
  rfl
theorem vbuf_frzS' {el : TypeId} {hp : AHeap} {L : AV} {xs : List Str} {n : Nat} (hne : xs ≠ []) (b : VBuf el 1 hp L (rowS xs)) : Abs.frz hp (n + 2) L = some (.lst 1 (xs.map .str) false) := by
  rcases b.2 with ⟨rfl, h2⟩ | ⟨eb, ver, frz, rfl, h2, _⟩
  · exact (hne (by simpa [rowS] using h2)).elim
  · rw [vflatten_ones] at h2
    unfold Abs.frz
    simp only [h2, List.length_map]
    rw [if_pos ⟨trivial, by omega⟩]
    have h1 : ((xs.map AV.str).drop 0).take (xs.length * 1) = xs.map AV.str := by rw [List.drop_zero]; exact List.take_of_length_le (by simp)
    rw [h1, allM_id (fun x hm => by obtain ⟨k, _, rfl⟩ := List.mem_map.1 hm; rfl)]
    simp only
    rw [if_pos (by rw [List.all_eq_true]; intro x hm; obtain ⟨k, _, rfl⟩ := List.mem_map.1 hm; rfl)]
    rfl
section
variable {n : Nat} {h : AHeap}
theorem refNumbered_eq (hn : 2 ≤ n) (l : List Int) (hl : l.length < 1099511627776) (sz : Nat) (hz : l ≠ [] → sz = 1) (c : Bool) (v : Int) : C n 94 [.lst sz (l.map i64) c, i64 v] h = some (.ret (.bool (numsOk l v)), h) := by
  obtain ⟨m, rfl⟩ : ∃ m, n = m + 1 := ⟨n - 1, by omega⟩
  have cP : ∀ (k : Int) h, C m 50 [i64 k] h = some (.ret (.bool (numbered k)), h) := fun k h => isPage_eq (by omega) k
  refine fun_pure F94 rfl rfl rfl (ints_pure l rfl) ?_
  conv => whnf
  refine loopI (by decide) rfl (α := Nat) (fun x => ⟨[(0, .lst sz (l.map i64) c), (1, i64 v), (5, i64 x)], [], []⟩)
    (fun x => x ≤ l.length ∧ (∀ i (hi : i < l.length), i < x → numbered l[i] = true) ∧ ∀ i k (hi : i < l.length) (hk : k < i), i < x → l[k] ≠ l[i]) (fun x => l.length - x) 0 ⟨⟨rfl, rfl, rfl⟩, rfl, rfl⟩ ⟨Nat.zero_le _, fun i _ hi => absurd hi (Nat.not_lt_zero _), fun i _ _ _ hi => absurd hi (Nat.not_lt_zero _)⟩ (by show l.length - 0 < KK; simp only [KK]; omega) ?_
  rintro j ⟨g1, g2, g3⟩
  conv => whnf
  refine brd (fun a => ?_) (fun a => ?_)
  · have hj : j < l.length := by simp only [List.length_map] at a; omega
    have hne : l ≠ [] := by rintro rfl; simp at hj
    conv => whnf
    refine ⟨by omega, hz hne, i64 l[j], by simp [hj], [i64 l[j]], rfl, ?_⟩
    conv => whnf
    refine clI (cP l[j] _) ?_
    conv => whnf
    refine brn (fun d => ?_) (fun d => ?_)
    · conv => whnf
      refine retP rfl (frz_bool ?_)
      have h1 : l.all numbered = false := by
        rw [List.all_eq_false]
        exact ⟨l[j], List.getElem_mem hj, by simp [d]⟩
      simp [numsOk, h1]
    · conv => whnf
      refine loopI (by decide) rfl (α := Nat) (fun x => ⟨[(0, .lst sz (l.map i64) c), (1, i64 v), (5, i64 j), (6, i64 x)], [], []⟩)
        (fun x => x ≤ j ∧ ∀ k (hk : k < j), k < x → l[k] ≠ l[j]) (fun x => j - x) 0 ⟨⟨rfl, rfl, rfl, rfl⟩, rfl, rfl⟩ ⟨Nat.zero_le _, fun k _ hk => absurd hk (Nat.not_lt_zero _)⟩ (by show j - 0 < KK; simp only [KK]; omega) ?_
      rintro k ⟨f1, f2⟩
      conv => whnf
      refine brd (fun b => ?_) (fun b => ?_)
      · have hk : k < j := by omega
        have hk2 : k < l.length := by omega
        conv => whnf
        refine ⟨by omega, hz hne, i64 l[k], by simp [hk2], [i64 l[k]], rfl, ?_⟩
        conv => whnf
        refine ⟨by omega, hz hne, i64 l[j], by simp [hj], [i64 l[j]], rfl, ?_⟩
        conv => whnf
        refine bre (fun e => ?_) (fun e => ?_)
        · conv => whnf
          refine retP rfl (frz_bool ?_)
          have h1 : ¬ l.Nodup := fun q => (nodup_front l).1 q j k hj hk e
          simp [numsOk, h1]
        · conv => whnf
          refine zI (z := ((k + 1 : Nat) : Int)) (by rw [wrap_i64 (by omega) (by omega)]; rfl) ?_
          refine nxI (k + 1) ⟨hk, fun i hi hik => ?_⟩ (by omega) ⟨⟨rfl, rfl, rfl, rfl⟩, rfl, rfl⟩
          by_cases q : i = k
          · subst q; exact e
          · exact f2 i hi (by omega)
      · have hk : k = j := by omega
        subst hk
        conv => whnf
        refine cutI (by decide) rfl (t := ⟨[(0, .lst sz (l.map i64) c), (1, i64 v), (5, i64 k)], [], []⟩) ⟨⟨rfl, rfl, rfl⟩, rfl, rfl⟩ ?_
        conv => whnf
        refine zI (z := ((k + 1 : Nat) : Int)) (by rw [wrap_i64 (by omega) (by omega)]; rfl) ?_
        refine nxI (k + 1) ⟨hj, fun i hi hik => ?_, fun i k' hi hk' hik => ?_⟩ (by omega) ⟨⟨rfl, rfl, rfl⟩, rfl, rfl⟩
        · by_cases q : i = k
          · subst q; exact d
          · exact g2 i hi (by omega)
        · by_cases q : i = k
          · subst q; exact f2 k' hk' hk'
          · exact g3 i k' hi hk' (by omega)
  · have hj : j = l.length := by simp only [List.length_map] at a; omega
    subst hj
    have h1 : l.Nodup := (nodup_front l).2 fun i k hi hk => g3 i k hi hk hi
    have h2 : l.all numbered = true := by
      rw [List.all_eq_true]
      intro x hx
      obtain ⟨i, hi, rfl⟩ := List.mem_iff_getElem.1 hx
      exact g2 i hi hi
    conv => whnf
    refine cutI (by decide) rfl (t := ⟨[(1, i64 v)], [], []⟩) ⟨rfl, rfl, rfl⟩ ?_
    conv => whnf
    refine brd (fun b => ?_) (fun b => ?_)
    · conv => whnf
      refine retP rfl (frz_bool ?_)
      simp [numsOk, h1, h2, within, b]
    · conv => whnf
      refine retP rfl (frz_bool ?_)
      simp [numsOk, h1, h2, within, b]
theorem refPieces_eq (hn : 1 ≤ n) (s : Str) (hs : s.length < 1073741824) : C n 30 [.str s] h = some (.ret (.agg (if within s.length 65 4000 = true then [.lst 1 ((pieces s).map .str) false, i64 0] else [.lst 0 [] true, i64 1])), h) := by
  obtain ⟨m, rfl⟩ : ∃ m, n = m + 1 := ⟨n - 1, by omega⟩
  refine fun_pure F30 rfl rfl rfl rfl ?_
  conv => whnf
  refine brd (fun a => ?_) (fun a => ?_)
  · have hw : within s.length 65 4000 = false := by rw [Bool.eq_false_iff]; intro q; have := within_iff.1 q; omega
    rw [hw, if_neg (by decide)]
    conv => whnf
    refine stI (xs := [.lst 0 [] true, i64 1]) (by rfl) (by rfl) (by rfl) (by rfl) (by rfl) ?_
    exact ⟨rfl, _, cell_res (el := some 76) (f := 0) (cs := [.lst 0 [] true, i64 1]) (N := 2) (b := 0) rfl (by kernel_rfl) rfl rfl, rfl⟩
  conv => whnf
  refine brd (fun b => ?_) (fun b => ?_)
  · have hw : within s.length 65 4000 = false := by rw [Bool.eq_false_iff]; intro q; have := within_iff.1 q; omega
    rw [hw, if_neg (by decide)]
    conv => whnf
    refine stI (xs := [.lst 0 [] true, i64 1]) (by rfl) (by rfl) (by rfl) (by rfl) (by rfl) ?_
    exact ⟨rfl, _, cell_res (el := some 76) (f := 0) (cs := [.lst 0 [] true, i64 1]) (N := 2) (b := 0) rfl (by kernel_rfl) rfl rfl, rfl⟩
  have hw : within s.length 65 4000 = true := within_iff.2 (by omega)
  rw [hw, if_pos rfl]
  conv => whnf
  refine loopI (by decide) rfl (α := Nat × AV × AHeap) (fun x => ⟨[(0, .str (s.drop (490 * x.1))), (2, .ptr 0 0 0), (3, x.2.1)], x.2.2, []⟩)
    (fun x => 490 * x.1 < s.length ∧ WBuf 1 9 1 x.2.2 x.2.1 (rowS ((List.range x.1).map (pieceAt s))) ∧ x.2.2[0]? = some (.cells 0 (some 76) [.lst 0 [] true, i64 0] 0)) (fun x => s.length - 490 * x.1) (0, .lst 0 [] true, [.cells 0 (some 76) [.lst 0 [] true, i64 0] 0]) ⟨⟨rfl, rfl, rfl⟩, rfl, rfl⟩ ⟨by simp only; omega, WBuf.nil, rfl⟩ (by show s.length - 490 * 0 < KK; simp only [KK]; omega) ?_
  rintro ⟨j, L, hp⟩ ⟨g1, g2, g3⟩
  simp only at g1 g2 g3
  have hlo := lt_of_get g3
  have hsn : (490 * j : Nat) < s.length := g1
  conv => whnf
  refine brd (fun d => ?_) (fun d => ?_)
  · have hd : 490 < s.length - 490 * j := by simp only [List.length_drop] at d; omega
    obtain ⟨v, hp', ea, b', e0, _⟩ := wbuf_app (x := .lst 1 [.str ((s.drop (490 * j)).take 490)] true) g2 hlo rfl (vfirst_one hp rfl) ⟨rfl, rfl⟩ (by simp [rowS]; omega)
    conv => whnf
    refine ss_hi (c := 490) (by rw [List.length_drop]; omega) ?_
    conv => whnf
    refine ⟨rfl, ?_⟩
    conv => whnf
    refine apI ea ?_
    conv => whnf
    refine ss_lo (c := 490) (by rw [List.length_drop]; omega) ?_
    conv => whnf
    refine nxI (j + 1, v, hp') ⟨by simp only; omega, ?_, by rw [e0 0 (by decide)]; exact g3⟩ (by simp only; omega) ⟨⟨?_, rfl, rfl⟩, rfl, rfl⟩
    · simp only
      rw [List.range_succ, List.map_append, List.map_cons, List.map_nil, rowS_snoc]
      exact b'
    · show some (AV.str ((s.drop (490 * j)).drop 490)) = some (AV.str (s.drop (490 * (j + 1))))
      rw [List.drop_drop]
      rfl
  · have hd : s.length - 490 * j ≤ 490 := by simp only [List.length_drop] at d; omega
    have hN := pieceN_big g1 hd
    obtain ⟨v, hp', ea, b', e0, _⟩ := wbuf_app (x := .lst 1 [.str (s.drop (490 * j))] true) g2 hlo rfl (vfirst_one hp rfl) ⟨rfl, rfl⟩ (by simp [rowS]; omega)
    rw [drop_piece hd] at b'
    have e3 := (e0 0 (by decide)).trans g3
    have b3 : WBuf 1 9 1 hp' v (rowS (pieces s)) := by
      unfold pieces
      rw [hN, List.range_succ, List.map_append, List.map_cons, List.map_nil, rowS_snoc]
      exact b'
    have b4 := b3.low (k := 0) (.cells 0 (some 76) (putAt [.lst 0 [] true, i64 0] 0 [v, i64 0]) 0) (by decide)
    have hne : pieces s ≠ [] := by
      intro e
      have := congrArg List.length e
      simp [pieces, hN] at this
    obtain ⟨eb, ver, rfl⟩ := b3.sl (by simpa [rowS] using hne)
    have e4 : (hp'.set 0 (.cells 0 (some 76) (putAt [.lst 0 [] true, i64 0] 0 [.sl 1 eb ver 0 (rowS (pieces s)).length, i64 0]) 0))[0]? = some (.cells 0 (some 76) [.sl 1 eb ver 0 (rowS (pieces s)).length, i64 0] 0) := by
      rw [List.getElem?_set_self (lt_of_get e3)]; rfl
    conv => whnf
    refine cutI (by decide) rfl (t := ⟨[(0, .str (s.drop (490 * j))), (2, .ptr 0 0 0), (3, L)], hp, []⟩) ⟨⟨rfl, rfl, rfl⟩, rfl, rfl⟩ ?_
    conv => whnf
    refine ⟨rfl, ?_⟩
    conv => whnf
    refine apI ea ?_
    conv => whnf
    refine stI (xs := [.sl 1 eb ver 0 (rowS (pieces s)).length, i64 0]) e3 (by rfl) (by rfl) (by rfl) (by rfl) ?_
    refine ⟨rfl, _, cell_res (el := some 76) (f := 0) (cs := [.sl 1 eb ver 0 (rowS (pieces s)).length, i64 0]) (N := 2) (b := 0) rfl (by kernel_rfl) rfl e4, ?_⟩
    exact frz_agg2 (n := 63) (vbuf_frzS' (n := 61) hne b4.1) rfl
end
end Go.Proofs
/- Contracts: the reference's chain. -/
set_option linter.unusedVariables false
set_option linter.unusedSimpArgs false
namespace Go.Proofs
open Go Go.Abs
abbrev rowP (l : List Page) : List (List AV) := l.map Page.cells
theorem vbuf_frzP {el : TypeId} {hp : AHeap} {L : AV} {l : List Page} {n : Nat} (hne : l ≠ []) (hf : ∀ p ∈ l, ∀ x ∈ p.cells, Abs.frz hp n x = some x) (b : VBuf el 10 hp L (rowP l)) : Abs.frz hp (n + 1) L = some (.lst 10 (l.map Page.av) false) := by
  have hlen : ∀ r ∈ rowP l, r.length = 10 ∧ r.all AV.scal = true := b.1
  rcases b.2 with ⟨rfl, h2⟩ | ⟨eb, ver, frz, rfl, h2, _⟩
  · exact (hne (by simpa [rowP] using h2)).elim
  · rw [frz_sl (by decide) h2 (fun r hm => (hlen r hm).1) (allM_id fun x hx => ?_) hlen rfl]
    · unfold rowP
      rw [List.map_map]; rfl
    · obtain ⟨r, hm, hx⟩ := List.mem_flatten.1 hx
      obtain ⟨p, hp, rfl⟩ := List.mem_map.1 hm
      exact hf p hp x hx
theorem chainPg_frz {h : AHeap} {ps : List Str} {no : List Int} {v : Int} {n : Nat} : ∀ p ∈ chainPs ps no v, ∀ x ∈ p.cells, Abs.frz h (n + 1) x = some x := fun p hp x hx => by
  obtain ⟨k, _, rfl⟩ := List.mem_map.1 hp
  simp only [chainPg, Page.cells, List.mem_cons, List.not_mem_nil, or_false] at hx
  rcases hx with rfl | rfl | rfl | rfl | rfl | rfl | rfl | rfl | rfl | rfl <;> rfl
section
variable {n : Nat} {h : AHeap}
set_option maxRecDepth 10000 in
theorem refChain_eq (hn : 3 ≤ n) (s : Str) (hs : s.length < 1073741824) (no : List Int) (hno : no.length < 1048576) (sz : Nat) (hz : no ≠ [] → sz = 1) (c : Bool) (v : Int) : C n 32 [.str s, .lst sz (no.map i64) c, i64 v] h = some (.ret (.agg (if chainOk s no v = true then [.lst 10 ((chainPs (pieces s) no v).map Page.av) false, i64 0] else [.lst 0 [] true, i64 1])), h) := by
  obtain ⟨m, rfl⟩ : ∃ m, n = m + 1 := ⟨n - 1, by omega⟩
  have cP := fun h => refPieces_eq (n := m) (h := h) (by omega) s hs
  have cN : ∀ h, C m 94 [.lst sz (no.map i64) c, i64 v] h = some (.ret (.bool (numsOk no v)), h) := fun h => refNumbered_eq (by omega) no (by omega) sz hz c v
  refine fun_pure F32 rfl rfl rfl (show pureBs [.str s, .lst sz (no.map i64) c, i64 v] = true by
    show (AV.pureB (.str s) && pureBs [.lst sz (no.map i64) c, i64 v]) = true
    rw [ints_pure no rfl]; rfl) ?_
  cases hw : within s.length 65 4000 with
  | false =>
    rw [hw, if_neg (by decide)] at cP
    have hc : chainOk s no v = false := by unfold chainOk; rw [hw]; rfl
    rw [hc, if_neg (by decide)]
    conv => whnf
    refine clI (cP _) ?_
    conv => whnf
    refine stI (xs := [.lst 0 [] true, i64 1]) (by rfl) (by rfl) (by rfl) (by rfl) (by rfl) ?_
    conv => whnf
    refine ldI (by rfl) ?_
    conv => whnf
    refine ldI (by rfl) ?_
    conv => whnf
    refine stI (xs := [.lst 0 [] true, i64 1]) (by rfl) (by rfl) (by rfl) (by rfl) (by rfl) ?_
    exact ⟨rfl, _, cell_res (el := some 81) (f := 0) (cs := [.lst 0 [] true, i64 1]) (N := 2) (b := 0) rfl (by kernel_rfl) rfl rfl, rfl⟩
  | true =>
    rw [hw, if_pos rfl] at cP
    have hN : (pieces s).length = pieceN s := by simp [pieces]
    have hN2 : pieceN s < 1048576 := by have := within_iff.1 hw; unfold pieceN; omega
    conv => whnf
    refine clI (cP _) ?_
    conv => whnf
    refine stI (xs := [.lst 1 ((pieces s).map .str) false, i64 0]) (by rfl) (by rfl) (by rfl) (by rfl) (by rfl) ?_
    conv => whnf
    refine ldI (by rfl) ?_
    conv => whnf
    refine ldI (by rfl) ?_
    conv => whnf
    refine brq (fun a => ?_) (fun a => ?_)
    · have hc : chainOk s no v = false := by
        have : no.length ≠ (pieces s).length := fun e => a (by simp [e])
        unfold chainOk; simp [this]
      rw [hc, if_neg (by decide)]
      conv => whnf
      refine stI (xs := [.lst 0 [] true, i64 1]) (by rfl) (by rfl) (by rfl) (by rfl) (by rfl) ?_
      exact ⟨rfl, _, cell_res (el := some 81) (f := 0) (cs := [.lst 0 [] true, i64 1]) (N := 2) (b := 0) rfl (by kernel_rfl) rfl rfl, rfl⟩
    have hle : no.length = (pieces s).length := by simp at a; omega
    have hne : no ≠ [] := by
      rintro rfl
      have h1 := within_iff.1 hw
      simp [hN, pieceN] at hle
      omega
    conv => whnf
    refine clI (cN _) ?_
    conv => whnf
    refine brn (fun q => ?_) (fun q => ?_)
    · have hc : chainOk s no v = false := by unfold chainOk; rw [q]; simp
      rw [hc, if_neg (by decide)]
      conv => whnf
      refine stI (xs := [.lst 0 [] true, i64 1]) (by rfl) (by rfl) (by rfl) (by rfl) (by rfl) ?_
      exact ⟨rfl, _, cell_res (el := some 81) (f := 0) (cs := [.lst 0 [] true, i64 1]) (N := 2) (b := 0) rfl (by kernel_rfl) rfl rfl, rfl⟩
    have hc : chainOk s no v = true := by unfold chainOk; rw [hw, q]; simp [hle]
    rw [hc, if_pos rfl]
    conv => whnf
    refine loopI (by decide) rfl (α := Nat × AV × AHeap) (fun x => ⟨[(1, .lst sz (no.map i64) c), (2, i64 v), (6, .ptr 0 0 0), (7, .ptr 1 0 0), (8, x.2.1), (9, i64 x.1)], x.2.2, []⟩)
      (fun x => x.1 ≤ no.length ∧ WBuf 2 tPage 10 x.2.2 x.2.1 (rowP ((List.range x.1).map (chainPg (pieces s) no v))) ∧ x.2.2[0]? = some (.cells 0 (some 81) [.lst 0 [] true, i64 0] 0) ∧ x.2.2[1]? = some (.cells 0 (some 76) [.lst 1 ((pieces s).map .str) false, i64 0] 0)) (fun x => no.length - x.1) (0, .lst 0 [] true, [.cells 0 (some 81) [.lst 0 [] true, i64 0] 0, .cells 0 (some 76) [.lst 1 ((pieces s).map .str) false, i64 0] 0]) ⟨⟨rfl, rfl, rfl, rfl, rfl, rfl⟩, rfl, rfl⟩ ⟨Nat.zero_le _, WBuf.nil, rfl, rfl⟩ (by show no.length - 0 < KK; simp only [KK]; omega) ?_
    rintro ⟨j, L, hp⟩ ⟨g1, g2, g3, g4⟩
    simp only at g1 g2 g3 g4
    have hlo := lt_of_get g4
    conv => whnf
    refine brd (fun a => ?_) (fun a => ?_)
    · have hj : j < no.length := by simp only [List.length_map] at a; omega
      have hj2 : j < (pieces s).length := by omega
      conv => whnf
      refine ⟨by omega, hz hne, i64 no[j], by simp [hj], [i64 no[j]], rfl, ?_⟩
      conv => whnf
      refine ldI g4 ?_
      conv => whnf
      refine ⟨by omega, rfl, .str (pieces s)[j], by simp [hj2], [.str (pieces s)[j]], rfl, ?_⟩
      have f1 : ∀ z : AB, (hp ++ [z])[1]? = some (.cells 0 (some 76) [.lst 1 ((pieces s).map .str) false, i64 0] 0) := fun z => by rw [List.getElem?_append_left hlo]; exact g4
      have f2 : ∀ z x : AB, ((hp ++ [z]).set hp.length x)[1]? = some (.cells 0 (some 76) [.lst 1 ((pieces s).map .str) false, i64 0] 0) := fun z x => by rw [List.getElem?_set_ne (by omega)]; exact f1 z
      conv => whnf
      refine ⟨?_, ?_⟩
      · repeat' first | ((conv => whnf) <;> done) | ((conv => whnf) <;> (first | exact ldI (f1 _) rfl | refine ⟨?_, ?_⟩))
      conv => whnf
      refine stI (get_last _ _) (xs := [i64 3, i64 no[j], i64 v, i64 0, i64 0, .bool false, .lst 0 [] true, i64 0, .str (pieces s)[j], .lst 0 [] true]) (by rfl) (by rfl) (by rfl) (by rfl) ?_
      conv => whnf
      refine zI (z := ((j + 1 : Nat) : Int)) (by rw [wrap_i64 (by simp only; omega) (by simp only; omega)]; rfl) ?_
      conv => whnf
      refine brd (fun a2 => ?_) (fun a2 => ?_)
      · have hj3 : j + 1 < no.length := by simp only [List.length_map] at a2; omega
        have hcell : (chainPg (pieces s) no v j).cells = [i64 3, i64 no[j], i64 v, i64 0, i64 0, .bool false, .lst 0 [] true, i64 no[j + 1], .str (pieces s)[j], .lst 0 [] true] := by
          have h1 : nextOf no j = no[j + 1] := by unfold nextOf; rw [if_pos hj3]; simp [hj3]
          have h2 : no.getD j 0 = no[j] := by simp [hj]
          have h3 : (pieces s).getD j [] = (pieces s)[j] := by simp [hj2]
          unfold Page.cells chainPg
          simp only [h1, h2, h3]
          rfl
        have b1 : WBuf 2 tPage 10 (((hp ++ [AB.cells 0 (some tPage) [i64 0, i64 0, i64 0, i64 0, i64 0, .bool false, .lst 0 [] true, i64 0, .str [], .lst 0 [] true] 0]).set hp.length (.cells 0 (some tPage) (putAt [i64 0, i64 0, i64 0, i64 0, i64 0, .bool false, .lst 0 [] true, i64 0, .str [], .lst 0 [] true] 0 [i64 3, i64 no[j], i64 v, i64 0, i64 0, .bool false, .lst 0 [] true, i64 0, .str (pieces s)[j], .lst 0 [] true]) 0)).set hp.length (.cells 0 (some tPage) (putAt (putAt [i64 0, i64 0, i64 0, i64 0, i64 0, .bool false, .lst 0 [] true, i64 0, .str [], .lst 0 [] true] 0 [i64 3, i64 no[j], i64 v, i64 0, i64 0, .bool false, .lst 0 [] true, i64 0, .str (pieces s)[j], .lst 0 [] true]) 7 [i64 no[j + 1]]) 0)) L (rowP ((List.range j).map (chainPg (pieces s) no v))) := by
          rw [List.set_set]; exact g2.fresh _ (Nat.le_refl _) _
        obtain ⟨w, hp', ea, b', e0, _⟩ := wbuf_app (x := .lst 10 [.agg [i64 3, i64 no[j], i64 v, i64 0, i64 0, .bool false, .lst 0 [] true, i64 no[j + 1], .str (pieces s)[j], .lst 0 [] true]] true) b1 (by simp; omega) rfl (first_agg _ rfl rfl) ⟨rfl, rfl⟩ (by simp; omega)
        rw [← hcell] at b'
        have eg : ∀ k, k < 2 → hp'[k]? = hp[k]? := fun k hk => by
          rw [e0 k hk, List.set_set, List.getElem?_set_ne (by omega), List.getElem?_append_left (by omega)]
        conv => whnf
        refine zI (z := ((j + 1 : Nat) : Int)) (by rw [wrap_i64 (by simp only; omega) (by simp only; omega)]; rfl) ?_
        conv => whnf
        refine ⟨by omega, hz hne, i64 no[j + 1], by simp [hj3], [i64 no[j + 1]], rfl, ?_⟩
        conv => whnf
        refine stI (get_set_last _ _ _) (xs := [i64 no[j + 1]]) (by rfl) (by rfl) (by rfl) (by rfl) ?_
        conv => whnf
        refine ldI (List.getElem?_set_self (by simp)) ?_
        conv => whnf
        refine ⟨rfl, ?_⟩
        conv => whnf
        refine apI ea ?_
        conv => whnf
        refine zI (z := ((j + 1 : Nat) : Int)) (by rw [wrap_i64 (by simp only; omega) (by simp only; omega)]; rfl) ?_
        refine nxI (j + 1, w, hp') ⟨hj, ?_, by rw [eg 0 (by decide)]; exact g3, by rw [eg 1 (by decide)]; exact g4⟩ (by simp only; omega) ⟨⟨rfl, rfl, rfl, rfl, rfl, rfl⟩, rfl, rfl⟩
        simp only
        rw [List.range_succ, List.map_append, List.map_cons, List.map_nil, rowP, List.map_append]
        exact b'
      · have hj3 : ¬ j + 1 < no.length := by simp only [List.length_map] at a2; omega
        have hcell : (chainPg (pieces s) no v j).cells = [i64 3, i64 no[j], i64 v, i64 0, i64 0, .bool false, .lst 0 [] true, i64 0, .str (pieces s)[j], .lst 0 [] true] := by
          have h1 : nextOf no j = 0 := by unfold nextOf; rw [if_neg hj3]
          have h2 : no.getD j 0 = no[j] := by simp [hj]
          have h3 : (pieces s).getD j [] = (pieces s)[j] := by simp [hj2]
          unfold Page.cells chainPg
          simp only [h1, h2, h3]
          rfl
        have b1 : WBuf 2 tPage 10 ((hp ++ [AB.cells 0 (some tPage) [i64 0, i64 0, i64 0, i64 0, i64 0, .bool false, .lst 0 [] true, i64 0, .str [], .lst 0 [] true] 0]).set hp.length (.cells 0 (some tPage) (putAt [i64 0, i64 0, i64 0, i64 0, i64 0, .bool false, .lst 0 [] true, i64 0, .str [], .lst 0 [] true] 0 [i64 3, i64 no[j], i64 v, i64 0, i64 0, .bool false, .lst 0 [] true, i64 0, .str (pieces s)[j], .lst 0 [] true]) 0)) L (rowP ((List.range j).map (chainPg (pieces s) no v))) := g2.fresh _ (Nat.le_refl _) _
        obtain ⟨w, hp', ea, b', e0, _⟩ := wbuf_app (x := .lst 10 [.agg [i64 3, i64 no[j], i64 v, i64 0, i64 0, .bool false, .lst 0 [] true, i64 0, .str (pieces s)[j], .lst 0 [] true]] true) b1 (by simp; omega) rfl (first_agg _ rfl rfl) ⟨rfl, rfl⟩ (by simp; omega)
        rw [← hcell] at b'
        have eg : ∀ k, k < 2 → hp'[k]? = hp[k]? := fun k hk => by
          rw [e0 k hk, List.getElem?_set_ne (by omega), List.getElem?_append_left (by omega)]
        conv => whnf
        refine ldI (get_set_last _ _ _) ?_
        conv => whnf
        refine ⟨rfl, ?_⟩
        conv => whnf
        refine apI ea ?_
        conv => whnf
        refine zI (z := ((j + 1 : Nat) : Int)) (by rw [wrap_i64 (by simp only; omega) (by simp only; omega)]; rfl) ?_
        refine nxI (j + 1, w, hp') ⟨hj, ?_, by rw [eg 0 (by decide)]; exact g3, by rw [eg 1 (by decide)]; exact g4⟩ (by simp only; omega) ⟨⟨rfl, rfl, rfl, rfl, rfl, rfl⟩, rfl, rfl⟩
        simp only
        rw [List.range_succ, List.map_append, List.map_cons, List.map_nil, rowP, List.map_append]
        exact b'
    · have hj : j = no.length := by simp only [List.length_map] at a; omega
      subst hj
      change WBuf 2 tPage 10 hp L (rowP (chainPs (pieces s) no v)) at g2
      have hpn : chainPs (pieces s) no v ≠ [] := by
        intro e
        have := congrArg List.length e
        rw [chainPs_len, List.length_nil] at this
        exact hne (List.length_eq_zero_iff.1 this)
      obtain ⟨eb, ver, rfl⟩ := g2.sl (by simpa [rowP] using hpn)
      have b4 := g2.low (k := 0) (.cells 0 (some 81) (putAt [.lst 0 [] true, i64 0] 0 [.sl 10 eb ver 0 (rowP (chainPs (pieces s) no v)).length, i64 0]) 0) (by decide)
      have e4 : (hp.set 0 (.cells 0 (some 81) (putAt [.lst 0 [] true, i64 0] 0 [.sl 10 eb ver 0 (rowP (chainPs (pieces s) no v)).length, i64 0]) 0))[0]? = some (.cells 0 (some 81) [.sl 10 eb ver 0 (rowP (chainPs (pieces s) no v)).length, i64 0] 0) := by
        rw [List.getElem?_set_self (lt_of_get g3)]; rfl
      conv => whnf
      refine cutI (by decide) rfl (t := ⟨[(6, .ptr 0 0 0), (8, .sl 10 eb ver 0 (rowP (chainPs (pieces s) no v)).length)], hp, []⟩) ⟨⟨rfl, rfl⟩, rfl, rfl⟩ ?_
      conv => whnf
      refine stI (xs := [.sl 10 eb ver 0 (rowP (chainPs (pieces s) no v)).length, i64 0]) g3 (by rfl) (by rfl) (by rfl) (by rfl) ?_
      refine ⟨rfl, _, cell_res (el := some 81) (f := 0) (cs := [.sl 10 eb ver 0 (rowP (chainPs (pieces s) no v)).length, i64 0]) (N := 2) (b := 0) rfl (by kernel_rfl) rfl e4, ?_⟩
      exact frz_agg2 (n := 63) (vbuf_frzP (n := 62) hpn (fun p hp => chainPg_frz (n := 61) p hp) b4.1) rfl
end
end Go.Proofs
/- Contracts: the reference's equality of pages. -/
set_option linter.unusedVariables false
set_option linter.unusedSimpArgs false
namespace Go.Proofs
open Go Go.Abs
section
variable {n : Nat} {h : AHeap}
theorem sameEnts_eq (hn : 1 ≤ n) (l : List Entry) (hl : l.length < 1099511627776) (sz sz' : Nat) (hz : l ≠ [] → sz = 22) (hz' : l ≠ [] → sz' = 22) (c c' : Bool) : C n 77 [.lst sz (l.map Entry.av) c, .lst sz' (l.map Entry.av) c'] h = some (.ret (.bool true), h) := by
  obtain ⟨m, rfl⟩ : ∃ m, n = m + 1 := ⟨n - 1, by omega⟩
  refine fun_pure F77 rfl rfl rfl (pure_lst entry_pure l (pure_lst entry_pure l rfl)) ?_
  conv => whnf
  refine brq (fun a => absurd rfl a) (fun _ => ?_)
  conv => whnf
  refine loopI (by decide) rfl (α := Nat) (fun x => ⟨[(0, .lst sz (l.map Entry.av) c), (1, .lst sz' (l.map Entry.av) c'), (5, i64 x)], [], []⟩) (fun x => x ≤ l.length) (fun x => l.length - x) 0 ⟨⟨rfl, rfl, rfl⟩, rfl, rfl⟩ (Nat.zero_le _) (by show l.length - 0 < KK; simp only [KK]; omega) ?_
  intro j g1
  conv => whnf
  refine brd (fun a => ?_) (fun a => ?_)
  · have hj : j < l.length := by simp only [List.length_map] at a; omega
    conv => whnf
    refine ixL entry_cells hj hz ?_
    conv => whnf
    refine ixL entry_cells hj hz' ?_
    conv => whnf
    refine eqI (eq_ent l[j]) ?_
    conv => whnf
    refine zI (z := ((j + 1 : Nat) : Int)) (by rw [wrap_i64 (by omega) (by omega)]; rfl) ?_
    exact nxI (j + 1) hj (by omega) ⟨⟨rfl, rfl, rfl⟩, rfl, rfl⟩
  · conv => whnf
    refine cutI (by decide) rfl (t := ⟨[], [], []⟩) ⟨trivial, rfl, rfl⟩ ?_
    conv => whnf
    exact retP rfl (frz_bool rfl)
theorem sameInts_eq (hn : 1 ≤ n) (l : List Int) (hl : l.length < 9223372036854775808) (sz sz' : Nat) (hz : l ≠ [] → sz = 1) (hz' : l ≠ [] → sz' = 1) (c c' : Bool) : C n 103 [.lst sz (l.map i64) c, .lst sz' (l.map i64) c'] h = some (.ret (.bool true), h) := by
  obtain ⟨m, rfl⟩ : ∃ m, n = m + 1 := ⟨n - 1, by omega⟩
  have hp : ∀ k : Int, (i64 k).pureB = true := fun _ => rfl
  refine fun_pure F103 rfl rfl rfl (pure_lst hp l (pure_lst hp l rfl)) ?_
  conv => whnf
  refine brq (fun a => absurd rfl a) (fun _ => ?_)
  conv => whnf
  refine loopI (by decide) rfl (α := Nat) (fun x => ⟨[(0, .lst sz (l.map i64) c), (1, .lst sz' (l.map i64) c'), (5, i64 x)], [], []⟩) (fun x => x ≤ l.length) (fun x => l.length - x) 0 ⟨⟨rfl, rfl, rfl⟩, rfl, rfl⟩ (Nat.zero_le _) (by show l.length - 0 < KK; simp only [KK]; omega) ?_
  intro j g1
  conv => whnf
  refine brd (fun a => ?_) (fun a => ?_)
  · have hj : j < l.length := by simp only [List.length_map] at a; omega
    have hne : l ≠ [] := by rintro rfl; simp at hj
    conv => whnf
    refine ⟨by omega, hz hne, i64 l[j], by simp [hj], [i64 l[j]], rfl, ?_⟩
    conv => whnf
    refine ⟨by omega, hz' hne, i64 l[j], by simp [hj], [i64 l[j]], rfl, ?_⟩
    conv => whnf
    refine brq (fun a => absurd rfl a) (fun _ => ?_)
    conv => whnf
    refine zI (z := ((j + 1 : Nat) : Int)) (by rw [wrap_i64 (by omega) (by omega)]; rfl) ?_
    exact nxI (j + 1) hj (by omega) ⟨⟨rfl, rfl, rfl⟩, rfl, rfl⟩
  · conv => whnf
    refine cutI (by decide) rfl (t := ⟨[], [], []⟩) ⟨trivial, rfl, rfl⟩ ?_
    conv => whnf
    exact retP rfl (frz_bool rfl)
theorem core_get {a b : List Freed} (h : a.map Freed.core = b.map Freed.core) {j : Nat} (ha : j < a.length) (hb : j < b.length) : a[j].ver = b[j].ver ∧ a[j].pages = b[j].pages := by
  have := core_at h j
  have e1 : a.getD j default = a[j] := by simp [ha]
  have e2 : b.getD j default = b[j] := by simp [hb]
  rw [e1, e2] at this
  exact this
theorem sameFreed_eq (hn : 2 ≤ n) (a b : List Freed) (hc : a.map Freed.core = b.map Freed.core) (hl : a.length < 1099511627776) (ha : ∀ f ∈ a, f.Ok ∧ f.pages.length < 9223372036854775808) (hb : ∀ f ∈ b, f.Ok ∧ f.pages.length < 9223372036854775808) (sz sz' : Nat) (hz : a ≠ [] → sz = 2) (hz' : b ≠ [] → sz' = 2) (c c' : Bool) : C n 44 [.lst sz (a.map Freed.av) c, .lst sz' (b.map Freed.av) c'] h = some (.ret (.bool true), h) := by
  obtain ⟨m, rfl⟩ : ∃ m, n = m + 1 := ⟨n - 1, by omega⟩
  have hlen := core_len hc
  refine fun_pure F44 rfl rfl rfl (pure_lst freed_pure a (pure_lst freed_pure b rfl)) ?_
  conv => whnf
  refine brq (fun q => absurd (by rw [List.length_map, List.length_map, hlen]) q) (fun _ => ?_)
  conv => whnf
  refine loopI (by decide) rfl (α := Nat) (fun x => ⟨[(0, .lst sz (a.map Freed.av) c), (1, .lst sz' (b.map Freed.av) c'), (5, i64 x)], [], []⟩) (fun x => x ≤ a.length) (fun x => a.length - x) 0 ⟨⟨rfl, rfl, rfl⟩, rfl, rfl⟩ (Nat.zero_le _) (by show a.length - 0 < KK; simp only [KK]; omega) ?_
  intro j g1
  conv => whnf
  refine brd (fun q => ?_) (fun q => ?_)
  · have hj : j < a.length := by simp only [List.length_map] at q; omega
    have hj' : j < b.length := by omega
    obtain ⟨e1, e2⟩ := core_get hc hj hj'
    obtain ⟨a1, a2⟩ := ha _ (List.getElem_mem hj)
    obtain ⟨b1, _⟩ := hb _ (List.getElem_mem hj')
    have cI : ∀ h, C m 103 [.lst a[j].sh.sz (a[j].pages.map i64) a[j].sh.c, .lst b[j].sh.sz (b[j].pages.map i64) b[j].sh.c] h = some (.ret (.bool true), h) := fun h => by
      rw [← e2]
      exact sameInts_eq (by omega) a[j].pages a2 _ _ a1 (by rw [e2]; exact b1) _ _
    conv => whnf
    refine ixL freed_cells hj hz ?_
    conv => whnf
    refine ixL freed_cells hj' hz' ?_
    conv => whnf
    refine brq (fun q => absurd e1 q) (fun _ => ?_)
    conv => whnf
    refine ixL freed_cells hj hz ?_
    conv => whnf
    refine ixL freed_cells hj' hz' ?_
    conv => whnf
    refine clI (cI _) ?_
    conv => whnf
    refine zI (z := ((j + 1 : Nat) : Int)) (by rw [wrap_i64 (by omega) (by omega)]; rfl) ?_
    exact nxI (j + 1) hj (by omega) ⟨⟨rfl, rfl, rfl⟩, rfl, rfl⟩
  · conv => whnf
    refine cutI (by decide) rfl (t := ⟨[], [], []⟩) ⟨trivial, rfl, rfl⟩ ?_
    conv => whnf
    exact retP rfl (frz_bool rfl)
theorem refSame_eq (hn : 3 ≤ n) {p q : Page} (hs : Same p q) (op : p.Ok) (oq : q.Ok) : C n 17 [p.av, q.av] h = some (.ret (.bool true), h) := by
  obtain ⟨m, rfl⟩ : ∃ m, n = m + 1 := ⟨n - 1, by omega⟩
  have cE : ∀ h, C m 77 [.lst p.esh.sz (p.entries.map Entry.av) p.esh.c, .lst q.esh.sz (q.entries.map Entry.av) q.esh.c] h = some (.ret (.bool true), h) := fun h => by
    rw [hs.entries]
    exact sameEnts_eq (by omega) p.entries op.elen _ _ op.esz (by rw [← hs.entries]; exact oq.esz) _ _
  have cF : ∀ h, C m 44 [.lst p.fsh.sz (p.freed.map Freed.av) p.fsh.c, .lst q.fsh.sz (q.freed.map Freed.av) q.fsh.c] h = some (.ret (.bool true), h) := fun h =>
    sameFreed_eq (by omega) p.freed q.freed hs.freed.symm (by have := op.flen; omega) op.fr oq.fr _ _ op.fsz oq.fsz _ _
  have hpure : pureBs [p.av, q.av] = true := by simp [pureBs, page_pure]
  refine fun_pure F17 rfl rfl rfl hpure ?_
  conv => whnf
  refine ldI (by rfl) ?_
  conv => whnf
  refine ldI (by rfl) ?_
  conv => whnf
  refine brq (fun a => absurd hs.kind.symm a) (fun _ => ?_)
  conv => whnf
  refine ldI (by rfl) ?_
  conv => whnf
  refine ldI (by rfl) ?_
  conv => whnf
  refine brq (fun a => absurd hs.no.symm a) (fun _ => ?_)
  conv => whnf
  refine ldI (by rfl) ?_
  conv => whnf
  refine ldI (by rfl) ?_
  conv => whnf
  refine brq (fun a => absurd hs.ver.symm a) (fun _ => ?_)
  conv => whnf
  refine ldI (by rfl) ?_
  conv => whnf
  refine ldI (by rfl) ?_
  conv => whnf
  refine brq (fun a => absurd hs.tree.symm a) (fun _ => ?_)
  conv => whnf
  refine ldI (by rfl) ?_
  conv => whnf
  refine ldI (by rfl) ?_
  conv => whnf
  refine brq (fun a => absurd hs.level.symm a) (fun _ => ?_)
  conv => whnf
  refine ldI (by rfl) ?_
  conv => whnf
  refine ldI (by rfl) ?_
  conv => whnf
  refine eqI (r := true) (by rw [eq_bool, hs.top]; simp) ?_
  conv => whnf
  refine ldI (by rfl) ?_
  conv => whnf
  refine ldI (by rfl) ?_
  conv => whnf
  refine brq (fun a => absurd hs.next.symm a) (fun _ => ?_)
  conv => whnf
  refine ldI (by rfl) ?_
  conv => whnf
  refine ldI (by rfl) ?_
  conv => whnf
  refine brq (fun a => absurd hs.data.symm a) (fun _ => ?_)
  conv => whnf
  refine ldI (by rfl) ?_
  conv => whnf
  refine ldI (by rfl) ?_
  conv => whnf
  refine clI (cE _) ?_
  conv => whnf
  refine ldI (by rfl) ?_
  conv => whnf
  refine ldI (by rfl) ?_
  conv => whnf
  refine clI (cF _) ?_
  conv => whnf
  exact retP rfl (frz_bool rfl)
end
end Go.Proofs
/- Contracts: the reference's equality of pages without entries. -/
set_option linter.unusedVariables false
set_option linter.unusedSimpArgs false
namespace Go.Proofs
open Go Go.Abs
section
variable {n : Nat} {h : AHeap}
theorem refNumbers_eq (hn : 1 ≤ n) (l : List Page) (hl : l.length ≤ 1048576) (sz : Nat) (hz : l ≠ [] → sz = 10) (c : Bool) (hne : l ≠ []) : C n 99 [.lst sz (l.map Page.av) c] h = some (.ret (.lst 1 ((l.map Page.no).map i64) false), h) := by
  obtain ⟨m, rfl⟩ : ∃ m, n = m + 1 := ⟨n - 1, by omega⟩
  refine fun_pure F99 rfl rfl rfl (pure_lst page_pure l rfl) ?_
  conv => whnf
  refine loopI (by decide) rfl (α := Nat × AV × AHeap) (fun x => ⟨[(0, .lst sz (l.map Page.av) c), (3, x.2.1), (4, i64 x.1)], x.2.2, []⟩)
    (fun x => x.1 ≤ l.length ∧ VBuf 3 1 x.2.2 x.2.1 ((((l.take x.1).map Page.no).map i64).map fun x => [x])) (fun x => l.length - x.1) (0, .lst 0 [] true, []) ⟨⟨rfl, rfl, rfl⟩, rfl, rfl⟩ ⟨Nat.zero_le _, VBuf.nil⟩ (by show l.length - 0 < KK; simp only [KK]; omega) ?_
  rintro ⟨j, L, hp⟩ ⟨g1, g2⟩
  simp only at g1 g2
  conv => whnf
  refine brd (fun a => ?_) (fun a => ?_)
  · have hj : j < l.length := by simp only [List.length_map] at a; omega
    obtain ⟨v, hp', ea, b', _⟩ := vbuf_app (x := .lst 1 [i64 l[j].no] true) g2 rfl (vfirst_one _ rfl) ⟨rfl, rfl⟩ (by simp; omega)
    conv => whnf
    refine ixL page_cells hj hz ?_
    conv => whnf
    refine ⟨rfl, ?_⟩
    conv => whnf
    refine apI ea ?_
    conv => whnf
    refine zI (z := ((j + 1 : Nat) : Int)) (by rw [wrap_i64 (by simp only; omega) (by simp only; omega)]; rfl) ?_
    refine nxI (j + 1, v, hp') ⟨hj, ?_⟩ (by simp only; omega) ⟨⟨rfl, rfl, rfl⟩, rfl, rfl⟩
    simp only
    rw [List.take_succ_eq_append_getElem hj]
    simp only [List.map_append, List.map_cons, List.map_nil]
    exact b'
  · have hj : j = l.length := by simp only [List.length_map] at a; omega
    subst hj
    rw [List.take_length] at g2
    conv => whnf
    refine cutI (by decide) rfl (t := ⟨[(3, L)], hp, []⟩) ⟨rfl, rfl, rfl⟩ ?_
    conv => whnf
    refine retP rfl ?_
    exact vbuf_frzN (by simpa using hne) g2 (fun x hx => by obtain ⟨k, _, rfl⟩ := List.mem_map.1 hx; rfl)
theorem refInts_eq (hn : 1 ≤ n) (a b : List Int) (hl : a.length < 9223372036854775808) (sz sz' : Nat) (hz : a ≠ [] → sz = 1) (hz' : b ≠ [] → sz' = 1) (c c' : Bool) : C n 103 [.lst sz (a.map i64) c, .lst sz' (b.map i64) c'] h = some (.ret (.bool (decide (a = b))), h) := by
  obtain ⟨m, rfl⟩ : ∃ m, n = m + 1 := ⟨n - 1, by omega⟩
  refine fun_pure F103 rfl rfl rfl (ints_pure a (ints_pure b rfl)) ?_
  conv => whnf
  refine brq (fun q => ?_) (fun q => ?_)
  · conv => whnf
    refine retP rfl (frz_bool ?_)
    have : a ≠ b := by rintro rfl; exact q rfl
    simp [this]
  have hlen : a.length = b.length := by simp at q; omega
  conv => whnf
  refine loopI (by decide) rfl (α := Nat) (fun x => ⟨[(0, .lst sz (a.map i64) c), (1, .lst sz' (b.map i64) c'), (5, i64 x)], [], []⟩) (fun x => x ≤ a.length ∧ a.take x = b.take x) (fun x => a.length - x) 0 ⟨⟨rfl, rfl, rfl⟩, rfl, rfl⟩ ⟨Nat.zero_le _, rfl⟩ (by show a.length - 0 < KK; simp only [KK]; omega) ?_
  rintro j ⟨g1, g2⟩
  conv => whnf
  refine brd (fun d => ?_) (fun d => ?_)
  · have hj : j < a.length := by simp only [List.length_map] at d; omega
    have hj' : j < b.length := by omega
    have hne : a ≠ [] := by rintro rfl; simp at hj
    have hne' : b ≠ [] := by rintro rfl; simp at hj'
    conv => whnf
    refine ⟨by omega, hz hne, i64 a[j], by simp [hj], [i64 a[j]], rfl, ?_⟩
    conv => whnf
    refine ⟨by omega, hz' hne', i64 b[j], by simp [hj'], [i64 b[j]], rfl, ?_⟩
    conv => whnf
    refine brq (fun e => ?_) (fun e => ?_)
    · conv => whnf
      refine retP rfl (frz_bool ?_)
      have : a ≠ b := by rintro rfl; exact e rfl
      simp [this]
    · conv => whnf
      refine zI (z := ((j + 1 : Nat) : Int)) (by rw [wrap_i64 (by omega) (by omega)]; rfl) ?_
      exact nxI (j + 1) ⟨hj, take_eq_step hj hj' g2 e⟩ (by omega) ⟨⟨rfl, rfl, rfl⟩, rfl, rfl⟩
  · have hj : j = a.length := by simp only [List.length_map] at d; omega
    subst hj
    have e : a = b := by
      rw [List.take_length] at g2
      rw [g2, hlen, List.take_length]
    conv => whnf
    refine cutI (by decide) rfl (t := ⟨[], [], []⟩) ⟨trivial, rfl, rfl⟩ ?_
    conv => whnf
    exact retP rfl (frz_bool (by simp [e]))
theorem refFreeds_eq (hn : 2 ≤ n) (a b : List Freed) (hl : a.length < 1099511627776) (ha : ∀ f ∈ a, f.Ok ∧ f.pages.length < 9223372036854775808) (hb : ∀ f ∈ b, f.Ok) (sz sz' : Nat) (hz : a ≠ [] → sz = 2) (hz' : b ≠ [] → sz' = 2) (c c' : Bool) : C n 44 [.lst sz (a.map Freed.av) c, .lst sz' (b.map Freed.av) c'] h = some (.ret (.bool (decide (a.map Freed.core = b.map Freed.core))), h) := by
  obtain ⟨m, rfl⟩ : ∃ m, n = m + 1 := ⟨n - 1, by omega⟩
  refine fun_pure F44 rfl rfl rfl (pure_lst freed_pure a (pure_lst freed_pure b rfl)) ?_
  conv => whnf
  refine brq (fun q => ?_) (fun q => ?_)
  · conv => whnf
    refine retP rfl (frz_bool ?_)
    have : a.map Freed.core ≠ b.map Freed.core := fun e => q (by have := congrArg List.length e; simp at this; simp [this])
    simp [this]
  have hlen : a.length = b.length := by simp at q; omega
  conv => whnf
  refine loopI (by decide) rfl (α := Nat) (fun x => ⟨[(0, .lst sz (a.map Freed.av) c), (1, .lst sz' (b.map Freed.av) c'), (5, i64 x)], [], []⟩) (fun x => x ≤ a.length ∧ (a.take x).map Freed.core = (b.take x).map Freed.core) (fun x => a.length - x) 0 ⟨⟨rfl, rfl, rfl⟩, rfl, rfl⟩ ⟨Nat.zero_le _, rfl⟩ (by show a.length - 0 < KK; simp only [KK]; omega) ?_
  rintro j ⟨g1, g2⟩
  conv => whnf
  refine brd (fun q => ?_) (fun q => ?_)
  · have hj : j < a.length := by simp only [List.length_map] at q; omega
    have hj' : j < b.length := by omega
    obtain ⟨a1, a2⟩ := ha _ (List.getElem_mem hj)
    have b1 := hb _ (List.getElem_mem hj')
    have cI : ∀ h, C m 103 [.lst a[j].sh.sz (a[j].pages.map i64) a[j].sh.c, .lst b[j].sh.sz (b[j].pages.map i64) b[j].sh.c] h = some (.ret (.bool (decide (a[j].pages = b[j].pages))), h) := fun h => refInts_eq (by omega) a[j].pages b[j].pages a2 _ _ a1 b1 _ _
    conv => whnf
    refine ixL freed_cells hj hz ?_
    conv => whnf
    refine ixL freed_cells hj' hz' ?_
    conv => whnf
    refine brq (fun e => ?_) (fun e => ?_)
    · conv => whnf
      refine retP rfl (frz_bool ?_)
      have := core_ne hj hj' (fun q => e (by unfold Freed.core at q; exact (Prod.mk.inj q).1))
      simp [this]
    conv => whnf
    refine ixL freed_cells hj hz ?_
    conv => whnf
    refine ixL freed_cells hj' hz' ?_
    conv => whnf
    refine clI (cI _) ?_
    conv => whnf
    refine brn (fun e2 => ?_) (fun e2 => ?_)
    · conv => whnf
      refine retP rfl (frz_bool ?_)
      have := core_ne hj hj' (fun q => of_decide_eq_false e2 (by unfold Freed.core at q; exact (Prod.mk.inj q).2))
      simp [this]
    conv => whnf
    refine zI (z := ((j + 1 : Nat) : Int)) (by rw [wrap_i64 (by omega) (by omega)]; rfl) ?_
    exact nxI (j + 1) ⟨hj, core_step hj hj' g2 (by unfold Freed.core; rw [e, of_decide_eq_true e2])⟩ (by omega) ⟨⟨rfl, rfl, rfl⟩, rfl, rfl⟩
  · have hj : j = a.length := by simp only [List.length_map] at q; omega
    subst hj
    have e : a.map Freed.core = b.map Freed.core := by
      rw [List.take_length] at g2
      rw [g2, hlen, List.take_length]
    conv => whnf
    refine cutI (by decide) rfl (t := ⟨[], [], []⟩) ⟨trivial, rfl, rfl⟩ ?_
    conv => whnf
    exact retP rfl (frz_bool (by simp [e]))
theorem refNoEnts_eq (hn : 1 ≤ n) (l : List Entry) (sz sz' : Nat) (c c' : Bool) : C n 77 [.lst sz [] c, .lst sz' (l.map Entry.av) c'] h = some (.ret (.bool (decide (l = []))), h) := by
  obtain ⟨m, rfl⟩ : ∃ m, n = m + 1 := ⟨n - 1, by omega⟩
  refine fun_pure F77 rfl rfl rfl (pure_lst entry_pure [] (pure_lst entry_pure l rfl)) ?_
  cases l with
  | nil =>
    conv => whnf
    refine loopI (by decide) rfl (α := Unit) (fun _ => ⟨[(0, .lst sz [] c), (1, .lst sz' [] c'), (5, i64 0)], [], []⟩) (fun _ => True) (fun _ => 0) () ⟨⟨rfl, rfl, rfl⟩, rfl, rfl⟩ trivial (by decide) ?_
    intro _ _
    conv => whnf
    refine cutI (by decide) rfl (t := ⟨[], [], []⟩) ⟨trivial, rfl, rfl⟩ ?_
    conv => whnf
    exact retP rfl (frz_bool rfl)
  | cons e r =>
    conv => whnf
    exact retP rfl (frz_bool rfl)
/-- Pages that read alike, the first without entries. -/
def sameR (p q : Page) : Bool := p.kind == q.kind && (p.no == q.no && (p.ver == q.ver && (p.tree == q.tree && (p.level == q.level && (p.top == q.top && (p.next == q.next && (p.data == q.data && (decide (q.entries = []) && decide (p.freed.map Freed.core = q.freed.map Freed.core)))))))))
theorem refSameR_eq (hn : 3 ≤ n) (p q : Page) (hp : p.entries = []) (op : p.Ok) (oq : q.Ok) : C n 17 [p.av, q.av] h = some (.ret (.bool (sameR p q)), h) := by
  obtain ⟨m, rfl⟩ : ∃ m, n = m + 1 := ⟨n - 1, by omega⟩
  have cE : ∀ h, C m 77 [.lst p.esh.sz (p.entries.map Entry.av) p.esh.c, .lst q.esh.sz (q.entries.map Entry.av) q.esh.c] h = some (.ret (.bool (decide (q.entries = []))), h) := fun h => by
    rw [hp]
    exact refNoEnts_eq (by omega) q.entries _ _ _ _
  have cF := fun h => refFreeds_eq (n := m) (h := h) (by omega) p.freed q.freed (by have := op.flen; omega) op.fr (fun f hf => (oq.fr f hf).1) p.fsh.sz q.fsh.sz op.fsz oq.fsz p.fsh.c q.fsh.c
  have hpure : pureBs [p.av, q.av] = true := by simp [pureBs, page_pure]
  refine fun_pure F17 rfl rfl rfl hpure ?_
  conv => whnf
  refine ldI (by rfl) ?_
  conv => whnf
  refine ldI (by rfl) ?_
  conv => whnf
  refine brq (fun a => ?_) (fun a1 => ?_)
  · conv => whnf
    exact retP rfl (frz_bool (by simp [sameR, a]))
  conv => whnf
  refine ldI (by rfl) ?_
  conv => whnf
  refine ldI (by rfl) ?_
  conv => whnf
  refine brq (fun a => ?_) (fun a2 => ?_)
  · conv => whnf
    exact retP rfl (frz_bool (by simp [sameR, a]))
  conv => whnf
  refine ldI (by rfl) ?_
  conv => whnf
  refine ldI (by rfl) ?_
  conv => whnf
  refine brq (fun a => ?_) (fun a3 => ?_)
  · conv => whnf
    exact retP rfl (frz_bool (by simp [sameR, a]))
  conv => whnf
  refine ldI (by rfl) ?_
  conv => whnf
  refine ldI (by rfl) ?_
  conv => whnf
  refine brq (fun a => ?_) (fun a4 => ?_)
  · conv => whnf
    exact retP rfl (frz_bool (by simp [sameR, a]))
  conv => whnf
  refine ldI (by rfl) ?_
  conv => whnf
  refine ldI (by rfl) ?_
  conv => whnf
  refine brq (fun a => ?_) (fun a5 => ?_)
  · conv => whnf
    exact retP rfl (frz_bool (by simp [sameR, a]))
  conv => whnf
  refine ldI (by rfl) ?_
  conv => whnf
  refine ldI (by rfl) ?_
  conv => whnf
  refine eqI (eq_bool _ _) ?_
  conv => whnf
  refine brn (fun a => ?_) (fun a6 => ?_)
  · conv => whnf
    exact retP rfl (frz_bool (by simp [sameR, a]))
  conv => whnf
  refine ldI (by rfl) ?_
  conv => whnf
  refine ldI (by rfl) ?_
  conv => whnf
  refine brq (fun a => ?_) (fun a7 => ?_)
  · conv => whnf
    exact retP rfl (frz_bool (by simp [sameR, a]))
  conv => whnf
  refine ldI (by rfl) ?_
  conv => whnf
  refine ldI (by rfl) ?_
  conv => whnf
  refine brq (fun a => ?_) (fun a8 => ?_)
  · conv => whnf
    exact retP rfl (frz_bool (by simp [sameR, a]))
  conv => whnf
  refine ldI (by rfl) ?_
  conv => whnf
  refine ldI (by rfl) ?_
  conv => whnf
  refine clI (cE _) ?_
  conv => whnf
  refine brd (fun a9 => ?_) (fun a => ?_)
  · conv => whnf
    refine ldI (by rfl) ?_
    conv => whnf
    refine ldI (by rfl) ?_
    conv => whnf
    refine clI (cF _) ?_
    conv => whnf
    exact retP rfl (frz_bool (by simp [sameR, a1, a2, a3, a4, a5, a6, a7, a8, a9]))
  · conv => whnf
    exact retP rfl (frz_bool (by simp [sameR, a]))
end
end Go.Proofs
/- Contracts: the reference's joined value. -/
set_option linter.unusedVariables false
set_option linter.unusedSimpArgs false
namespace Go.Proofs
open Go Go.Abs
def samePsR (a b : List Page) : Bool := decide (a.length = b.length) && (List.zipWith sameR a b).all id
theorem samePsR_len {a b : List Page} (h : a.length ≠ b.length) : samePsR a b = false := by unfold samePsR; simp [h]
theorem samePsR_ne {a b : List Page} {j : Nat} (ha : j < a.length) (hb : j < b.length) (e : sameR a[j] b[j] = false) : samePsR a b = false := by
  have : (List.zipWith sameR a b).all id = false := by
    rw [List.all_eq_false]
    exact ⟨sameR a[j] b[j], List.mem_iff_getElem.2 ⟨j, by simp; omega, by simp⟩, by simp [e]⟩
  unfold samePsR; rw [this]; simp
theorem samePsR_yes {a b : List Page} (h : a.length = b.length) (e : ∀ j (ha : j < a.length) (hb : j < b.length), sameR a[j] b[j] = true) : samePsR a b = true := by
  unfold samePsR
  rw [Bool.and_eq_true, decide_eq_true_eq, List.all_eq_true]
  refine ⟨h, fun x hx => ?_⟩
  obtain ⟨j, hj, rfl⟩ := List.mem_iff_getElem.1 hx
  have hj2 := hj
  simp only [List.length_zipWith] at hj2
  simp [e j (by omega) (by omega)]
/-- A page without entries, as its kind asks. -/
structure Bare (q : Page) : Prop where
  tree : q.tree = 0
  level : q.level = 0
  top : q.top = false
  entries : q.entries = []
theorem same_both {p q : Page} (b : Bare q) : sameR q p = sameP p q := by
  obtain ⟨b1, b2, b3, b4⟩ := b
  unfold sameR sameP Page.plain
  rw [b1, b2, b3, b4, Bool.eq_iff_iff]
  simp only [Bool.and_eq_true, beq_iff_eq, decide_eq_true_eq, Bool.not_eq_true', List.length_nil]
  constructor
  · rintro ⟨h1, h2, h3, h4, h5, h6, h7, h8, h9, h10⟩
    exact ⟨h1.symm, h2.symm, h3.symm, h7.symm, h8.symm, ⟨h4.symm, h5.symm, h6.symm, by rw [h9]; rfl⟩, (by simp), h10.symm⟩
  · rintro ⟨h1, h2, h3, h7, h8, ⟨h4, h5, h6, h9⟩, _, h10⟩
    exact ⟨h1.symm, h2.symm, h3.symm, h4.symm, h5.symm, h6.symm, h7.symm, h8.symm, List.length_eq_zero_iff.1 (by omega), h10.symm⟩
theorem sames_both : ∀ {a b : List Page}, (∀ q ∈ b, Bare q) → samePsR b a = samePs a b := fun {a b} hb => by
  by_cases hl : a.length = b.length
  · have h1 : List.zipWith sameR b a = List.zipWith sameP a b := by
      apply List.ext_getElem
      · simp [hl]
      · intro i h1 h2
        simp only [List.getElem_zipWith]
        exact same_both (hb _ (List.getElem_mem _))
    unfold samePsR samePs
    rw [h1]
    simp [hl]
  · rw [samePs_len hl, samePsR_len (Ne.symm hl)]
theorem chain_bare {ps : List Str} {no : List Int} {v : Int} : ∀ q ∈ chainPs ps no v, Bare q := fun q hq => by
  obtain ⟨k, _, rfl⟩ := List.mem_map.1 hq
  exact ⟨rfl, rfl, rfl, rfl⟩
section
variable {n : Nat} {h : AHeap}
theorem refSamePs_eq (hn : 4 ≤ n) (a b : List Page) (hl : a.length < 1099511627776) (hb : ∀ p ∈ a, p.entries = []) (oa : ∀ p ∈ a, p.Ok) (ob : ∀ p ∈ b, p.Ok) (sz sz' : Nat) (hz : a ≠ [] → sz = 10) (hz' : b ≠ [] → sz' = 10) (c c' : Bool) : C n 36 [.lst sz (a.map Page.av) c, .lst sz' (b.map Page.av) c'] h = some (.ret (.bool (samePsR a b)), h) := by
  obtain ⟨m, rfl⟩ : ∃ m, n = m + 1 := ⟨n - 1, by omega⟩
  refine fun_pure F36 rfl rfl rfl (pure_lst page_pure a (pure_lst page_pure b rfl)) ?_
  conv => whnf
  refine brq (fun q => ?_) (fun q => ?_)
  · conv => whnf
    refine retP rfl (frz_bool ?_)
    rw [samePsR_len fun e => q (by simp [e])]
  have hlen : a.length = b.length := by simp at q; omega
  conv => whnf
  refine loopI (by decide) rfl (α := Nat) (fun x => ⟨[(0, .lst sz (a.map Page.av) c), (1, .lst sz' (b.map Page.av) c'), (5, i64 x)], [], []⟩)
    (fun x => x ≤ a.length ∧ ∀ j (hj : j < a.length) (hj' : j < b.length), j < x → sameR a[j] b[j] = true) (fun x => a.length - x) 0 ⟨⟨rfl, rfl, rfl⟩, rfl, rfl⟩ ⟨Nat.zero_le _, fun j _ _ q => absurd q (Nat.not_lt_zero _)⟩ (by show a.length - 0 < KK; simp only [KK]; omega) ?_
  rintro j ⟨g1, g2⟩
  conv => whnf
  refine brd (fun d => ?_) (fun d => ?_)
  · have hj : j < a.length := by simp only [List.length_map] at d; omega
    have hj' : j < b.length := by omega
    have cS : ∀ h, C m 17 [.agg a[j].cells, .agg b[j].cells] h = some (.ret (.bool (sameR a[j] b[j])), h) := fun h => refSameR_eq (by omega) a[j] b[j] (hb _ (List.getElem_mem hj)) (oa _ (List.getElem_mem hj)) (ob _ (List.getElem_mem hj'))
    conv => whnf
    refine ixL page_cells hj hz ?_
    conv => whnf
    refine ixL page_cells hj' hz' ?_
    conv => whnf
    refine clI (cS _) ?_
    conv => whnf
    refine brn (fun e => ?_) (fun e => ?_)
    · conv => whnf
      exact retP rfl (frz_bool (samePsR_ne hj hj' e).symm)
    · conv => whnf
      refine zI (z := ((j + 1 : Nat) : Int)) (by rw [wrap_i64 (by omega) (by omega)]; rfl) ?_
      refine nxI (j + 1) ⟨hj, fun i hi hi' hij => ?_⟩ (by omega) ⟨⟨rfl, rfl, rfl⟩, rfl, rfl⟩
      by_cases q : i = j
      · subst q; exact e
      · exact g2 i hi hi' (by omega)
  · have hj : j = a.length := by simp only [List.length_map] at d; omega
    subst hj
    conv => whnf
    refine cutI (by decide) rfl (t := ⟨[], [], []⟩) ⟨trivial, rfl, rfl⟩ ?_
    conv => whnf
    exact retP rfl (frz_bool (samePsR_yes hlen fun i hi hi' => g2 i hi hi' hi).symm)
theorem textOf_le (l : List Page) (j : Nat) : (textOf (l.take j)).length ≤ (textOf l).length := by
  have : textOf l = textOf (l.take j) ++ textOf (l.drop j) := by
    unfold textOf
    rw [← List.flatMap_append, List.take_append_drop]
  rw [this, List.length_append]; omega
theorem chainOk_long {s : Str} {no : List Int} {v : Int} (h : 4000 < s.length) : chainOk s no v = false := by
  have : within s.length 65 4000 = false := by rw [Bool.eq_false_iff]; intro q; have := within_iff.1 q; omega
  unfold chainOk; rw [this]; rfl
set_option maxRecDepth 10000 in
theorem refJoined_eq (hn : 5 ≤ n) (l : List Page) (hl : l.length ≤ 1000) (hd : ∀ p ∈ l, p.data.length ≤ 1000) (ho : ∀ p ∈ l, p.Ok) (sz : Nat) (hz : l ≠ [] → sz = 10) (c : Bool) : C n 34 [.lst sz (l.map Page.av) c] h = some (.ret (.agg (if joinOk l = true then [.str (textOf l), i64 0] else [.str [], i64 2])), h) := by
  obtain ⟨m, rfl⟩ : ∃ m, n = m + 1 := ⟨n - 1, by omega⟩
  have htl : (textOf l).length ≤ 1000000 := by
    have := textOf_len hd
    have : l.length * 1000 ≤ 1000 * 1000 := Nat.mul_le_mul hl (Nat.le_refl _)
    omega
  refine fun_pure F34 rfl rfl rfl (pure_lst page_pure l rfl) ?_
  by_cases hne : l = []
  · subst hne
    conv => whnf
    refine stI (xs := [.str [], i64 2]) (by rfl) (by rfl) (by rfl) (by rfl) (by rfl) ?_
    exact ⟨rfl, _, cell_res (el := some 33) (f := 0) (cs := [.str [], i64 2]) (N := 2) (b := 0) rfl (by kernel_rfl) rfl rfl, rfl⟩
  have h0 : 0 < l.length := by cases l with | nil => exact (hne rfl).elim | cons => simp
  have hhd : l[0].ver = headV l := by cases l with | nil => exact (hne rfl).elim | cons => rfl
  have cN := fun h => refNumbers_eq (n := m) (h := h) (by omega) l (by omega) sz hz c hne
  have cC := fun (s : Str) (hs : s.length < 1073741824) h => refChain_eq (n := m) (h := h) (by omega) s hs (l.map Page.no) (by rw [List.length_map]; omega) 1 (fun _ => rfl) false (headV l)
  have cE := fun h => refSamePs_eq (n := m) (h := h) (by omega) (chainPs (pieces (textOf l)) (l.map Page.no) (headV l)) l (by rw [chainPs_len, List.length_map]; omega) (fun q hq => (chain_bare q hq).entries) (fun q hq => chainPs_ok hq) ho 10 sz (fun _ => rfl) hz false c
  rw [sames_both chain_bare] at cE
  conv => whnf
  refine bre (fun a => ?_) (fun _ => ?_)
  · exfalso; rw [List.length_map] at a; omega
  conv => whnf
  refine brd (fun a => ?_) (fun _ => ?_)
  · exfalso; simp only [List.length_map] at a; omega
  conv => whnf
  refine loopI (by decide) rfl (α := Nat) (fun x => ⟨[(0, .lst sz (l.map Page.av) c), (2, .ptr 0 0 0), (3, .str (textOf (l.take x))), (4, i64 x)], [.cells 0 (some 33) [.str [], i64 0] 0], []⟩)
    (fun x => x ≤ l.length) (fun x => l.length - x) 0 ⟨⟨rfl, rfl, rfl, rfl⟩, rfl, rfl⟩ (Nat.zero_le _) (by show l.length - 0 < KK; simp only [KK]; omega) ?_
  intro j g1
  have tle := textOf_le l j
  conv => whnf
  refine brd (fun a => ?_) (fun a => ?_)
  · have hj : j < l.length := by simp only [List.length_map] at a; omega
    have hdj := hd l[j] (List.getElem_mem hj)
    conv => whnf
    refine brd (fun b => ?_) (fun b => ?_)
    · conv => whnf
      refine ixL page_cells hj hz ?_
      conv => whnf
      refine ⟨by omega, ?_⟩
      conv => whnf
      refine zI (z := ((j + 1 : Nat) : Int)) (by rw [wrap_i64 (by omega) (by omega)]; rfl) ?_
      refine nxI (j + 1) hj (by omega) ⟨⟨rfl, rfl, ?_, rfl⟩, rfl, rfl⟩
      rw [textOf_take hj]; rfl
    · have hlong : 4000 < (textOf (l.take j)).length := by omega
      have hq : joinOk l = false := by
        unfold joinOk
        rw [chainOk_long (s := textOf l) (by omega)]
        simp
      have cC1 := cC (textOf (l.take j)) (by omega)
      rw [chainOk_long hlong, if_neg (by decide), ← hhd] at cC1
      rw [hq, if_neg (by decide)]
      conv => whnf
      refine cutI (by decide) rfl (t := ⟨[(0, .lst sz (l.map Page.av) c), (2, .ptr 0 0 0), (3, .str (textOf (l.take j)))], [.cells 0 (some 33) [.str [], i64 0] 0], []⟩) ⟨⟨rfl, rfl, rfl⟩, rfl, rfl⟩ ?_
      conv => whnf
      refine clI (cN _) ?_
      conv => whnf
      refine ixL page_cells h0 hz ?_
      conv => whnf
      refine clI (cC1 _) ?_
      conv => whnf
      refine ⟨?_, ?_⟩
      · repeat' first | ((conv => whnf) <;> done) | ((conv => whnf) <;> (first | exact ldI (rfl) rfl | refine ⟨?_, ?_⟩))
      conv => whnf
      refine stI (xs := [.lst 0 [] true, i64 1]) (by rfl) (by rfl) (by rfl) (by rfl) (by rfl) ?_
      conv => whnf
      refine ldI (by rfl) ?_
      conv => whnf
      refine stI (xs := [.str [], i64 2]) (by rfl) (by rfl) (by rfl) (by rfl) (by rfl) ?_
      exact ⟨rfl, _, cell_res (el := some 33) (f := 0) (cs := [.str [], i64 2]) (N := 2) (b := 0) rfl (by kernel_rfl) rfl rfl, rfl⟩
  · have hj : j = l.length := by simp only [List.length_map] at a; omega
    subst hj
    have cC1 := cC (textOf l) (by omega)
    have hj : joinOk l = (chainOk (textOf l) (l.map Page.no) (headV l) && samePs l (chainPs (pieces (textOf l)) (l.map Page.no) (headV l))) := by unfold joinOk; simp [hne]
    have hl0 : textOf (l.take l.length) = textOf l := by rw [List.take_length]
    rw [hj]
    rw [← hhd] at cC1 cE ⊢
    conv => whnf
    refine cutI (by decide) rfl (t := ⟨[(0, .lst sz (l.map Page.av) c), (2, .ptr 0 0 0), (3, .str (textOf l))], [.cells 0 (some 33) [.str [], i64 0] 0], []⟩) ⟨⟨rfl, rfl, by rw [← hl0]; rfl⟩, rfl, rfl⟩ ?_
    conv => whnf
    refine clI (cN _) ?_
    conv => whnf
    refine ixL page_cells h0 hz ?_
    conv => whnf
    refine clI (cC1 _) ?_
    cases hc : chainOk (textOf l) (l.map Page.no) l[0].ver with
    | false =>
      rw [Bool.false_and, if_neg (by decide), if_neg (by decide)]
      conv => whnf
      refine ⟨?_, ?_⟩
      · repeat' first | ((conv => whnf) <;> done) | ((conv => whnf) <;> (first | exact ldI (rfl) rfl | refine ⟨?_, ?_⟩))
      conv => whnf
      refine stI (xs := [.lst 0 [] true, i64 1]) (by rfl) (by rfl) (by rfl) (by rfl) (by rfl) ?_
      conv => whnf
      refine ldI (by rfl) ?_
      conv => whnf
      refine stI (xs := [.str [], i64 2]) (by rfl) (by rfl) (by rfl) (by rfl) (by rfl) ?_
      exact ⟨rfl, _, cell_res (el := some 33) (f := 0) (cs := [.str [], i64 2]) (N := 2) (b := 0) rfl (by kernel_rfl) rfl rfl, rfl⟩
    | true =>
      rw [Bool.true_and, if_pos rfl]
      conv => whnf
      refine ⟨?_, ?_⟩
      · repeat' first | ((conv => whnf) <;> done) | ((conv => whnf) <;> (first | exact ldI (rfl) rfl | refine ⟨?_, ?_⟩))
      conv => whnf
      refine stI (xs := [.lst 10 ((chainPs (pieces (textOf l)) (l.map Page.no) l[0].ver).map Page.av) false, i64 0]) (by rfl) (by rfl) (by rfl) (by rfl) (by rfl) ?_
      conv => whnf
      refine ldI (by rfl) ?_
      conv => whnf
      refine ldI (by rfl) ?_
      conv => whnf
      refine clI (cE _) ?_
      conv => whnf
      refine brn (fun e => ?_) (fun e => ?_)
      · rw [e, if_neg (by decide)]
        conv => whnf
        refine stI (xs := [.str [], i64 2]) (by rfl) (by rfl) (by rfl) (by rfl) (by rfl) ?_
        exact ⟨rfl, _, cell_res (el := some 33) (f := 0) (cs := [.str [], i64 2]) (N := 2) (b := 0) rfl (by kernel_rfl) rfl rfl, rfl⟩
      · rw [e, if_pos rfl]
        conv => whnf
        refine stI (xs := [.str (textOf l), i64 0]) (by rfl) (by rfl) (by rfl) (by rfl) (by rfl) ?_
        exact ⟨rfl, _, cell_res (el := some 33) (f := 0) (cs := [.str (textOf l), i64 0]) (N := 2) (b := 0) rfl (by kernel_rfl) rfl rfl, rfl⟩
end
end Go.Proofs
/- The looked-up text of the functions. -/
namespace Go.Proofs
open Go Go.Abs
/- f10 understory/understorylaw04.small: 42 temporaries, depth 6, 1 parameters, results [t2] -/
def c10 : RC :=
 (.seq (.ops [(oP 2 (.mv (.c (.bool false))))])
 (.seq (.seq (.ops [(oP 3 (.mv (.c (.int .i64 0))))])
 (.block 0
 (.loop
 (.seq (.seq (.ops [(mV 4 3),
 (mV 5 0),
 (oP 6 (.lenL (.t 5))),
 (oP 7 (.bin .lss (.t 4) (.t 6))),
 (mV 8 7),
 (oG 9 8 true (.mv (.t 3))),
 (oG 10 8 true (.bin .leq (.t 9) (.c (.int .i64 30)))),
 (oP 11 (.pick (.t 8) (.t 10) (.c (.bool false))))])
 (.cond (.t 11)
 .skip
 (.exit 0)))
 (.seq (.block 1
 (.seq (.ops [(mV 14 0),
 (mV 15 3),
 (oP 16 (.indexAddrL 10 (.t 14) (.t 15))),
 (oP 17 (.fieldAddr 6 (.t 16))),
 (oP 18 (.load false 1 (.t 17))),
 (oP 19 (.callF 24 [(.t 18)])),
 (oP 20 (.un .not (.t 19))),
 (mV 21 20),
 (oG 22 21 false (.mv (.t 0))),
 (oG 23 21 false (.mv (.t 3))),
 (oG 24 21 false (.indexAddrL 10 (.t 22) (.t 23))),
 (oG 25 21 false (.fieldAddr 9 (.t 24))),
 (oG 26 21 false (.load false 1 (.t 25))),
 (oG 27 21 false (.callF 37 [(.t 26)])),
 (oG 28 21 false (.un .not (.t 27))),
 (oP 29 (.pick (.t 21) (.c (.bool true)) (.t 28))),
 (mV 30 29),
 (oG 31 30 false (.mv (.t 0))),
 (oG 32 30 false (.mv (.t 3))),
 (oG 33 30 false (.indexAddrL 10 (.t 31) (.t 32))),
 (oG 34 30 false (.fieldAddr 8 (.t 33))),
 (oG 35 30 false (.load false 1 (.t 34))),
 (oG 36 30 false (.lenS (.t 35))),
 (oG 37 30 false (.bin .gtr (.t 36) (.c (.int .i64 1000)))),
 (oP 38 (.pick (.t 30) (.c (.bool true)) (.t 37)))])
 (.cond (.t 38)
 (.seq (.ops [(oP 2 (.mv (.c (.bool false))))])
 .ret)
 .skip)))
 (.ops [(mV 12 3),
 (oP 13 (.bin .add (.t 12) (.c (.int .i64 1)))),
 (mV 3 13)]))))))
 (.cut (.seq (.ops [(mV 39 0),
 (oP 40 (.lenL (.t 39))),
 (oP 41 (.bin .leq (.t 40) (.c (.int .i64 30)))),
 (mV 2 41)])
 .ret))))
theorem F10 : FI 10 1 42 6 [.tmp 2] c10 := ⟨⟨Tryz.f10, Tryz.func10, by kernel_rfl, by kernel_rfl, by kernel_rfl⟩, by kernel_rfl, by decide, by kernel_rfl⟩
/- f37 understory/understorylaw04.short: 28 temporaries, depth 5, 1 parameters, results [t2] -/
def c37 : RC :=
 (.seq (.ops [(oP 2 (.mv (.c (.bool false))))])
 (.seq (.ops [(oP 3 (.mv (.c (.int .i64 0))))])
 (.seq (.seq (.ops [(oP 4 (.mv (.c (.int .i64 0))))])
 (.block 0
 (.loop
 (.seq (.seq (.ops [(mV 5 4),
 (mV 6 0),
 (oP 7 (.lenL (.t 6))),
 (oP 8 (.bin .lss (.t 5) (.t 7))),
 (mV 9 8),
 (oG 10 9 true (.mv (.t 4))),
 (oG 11 9 true (.bin .leq (.t 10) (.c (.int .i64 300)))),
 (oP 12 (.pick (.t 9) (.t 11) (.c (.bool false))))])
 (.cond (.t 12)
 .skip
 (.exit 0)))
 (.seq (.block 1
 (.seq (.ops [(mV 15 3),
 (mV 16 0),
 (mV 17 4),
 (oP 18 (.indexAddrL 2 (.t 16) (.t 17))),
 (oP 19 (.fieldAddr 1 (.t 18))),
 (oP 20 (.load false 1 (.t 19))),
 (oP 21 (.lenL (.t 20))),
 (oP 22 (.bin .add (.t 15) (.t 21))),
 (mV 3 22)])
 (.seq (.ops [(mV 23 3),
 (oP 24 (.bin .gtr (.t 23) (.c (.int .i64 900))))])
 (.cond (.t 24)
 (.seq (.ops [(oP 2 (.mv (.c (.bool false))))])
 .ret)
 .skip))))
 (.ops [(mV 13 4),
 (oP 14 (.bin .add (.t 13) (.c (.int .i64 1)))),
 (mV 4 14)]))))))
 (.cut (.seq (.ops [(mV 25 0),
 (oP 26 (.lenL (.t 25))),
 (oP 27 (.bin .leq (.t 26) (.c (.int .i64 300)))),
 (mV 2 27)])
 .ret)))))
theorem F37 : FI 37 1 28 5 [.tmp 2] c37 := ⟨⟨Tryz.f37, Tryz.func37, by kernel_rfl, by kernel_rfl, by kernel_rfl⟩, by kernel_rfl, by decide, by kernel_rfl⟩
end Go.Proofs
/- The law PageDamage: small pages. -/
set_option linter.unusedVariables false
set_option linter.unusedSimpArgs false
namespace Go.Proofs
open Go Go.Abs
/-- Lists that are short, as a machine counts. -/
def shortG : List Freed → Int → Bool
  | [], _ => true
  | f :: r, n => if 900 < IntKind.i64.wrap (n + (f.pages.length : Int)) then false else shortG r (IntKind.i64.wrap (n + (f.pages.length : Int)))
def shortB (l : List Freed) : Bool := shortG (l.take 301) 0 && decide (l.length ≤ 300)
def smallB (p : Page) : Bool := few p.entries && (shortB p.freed && decide (p.data.length ≤ 1000))
section
variable {n : Nat} {h : AHeap}
theorem short_eq (hn : 1 ≤ n) (l : List Freed) (sz : Nat) (hz : l ≠ [] → sz = 2) (c : Bool) : C n 37 [.lst sz (l.map Freed.av) c] h = some (.ret (.bool (shortB l)), h) := by
  obtain ⟨m, rfl⟩ : ∃ m, n = m + 1 := ⟨n - 1, by omega⟩
  refine fun_pure F37 rfl rfl rfl (pure_lst freed_pure l rfl) ?_
  conv => whnf
  refine loopI (by decide) rfl (α := Nat × Int) (fun x => ⟨[(0, .lst sz (l.map Freed.av) c), (3, i64 x.2), (4, i64 x.1)], [], []⟩)
    (fun x => (x.1 ≤ l.length ∧ x.1 ≤ 301) ∧ shortG (l.take 301) 0 = shortG ((l.take 301).drop x.1) x.2) (fun x => 301 - x.1) (0, 0) ⟨⟨rfl, rfl, rfl⟩, rfl, rfl⟩ ⟨⟨Nat.zero_le _, by decide⟩, rfl⟩ (by show 301 - 0 < KK; simp only [KK]; omega) ?_
  rintro ⟨j, k⟩ ⟨⟨g1, g0⟩, g2⟩
  simp only at g1 g0 g2
  have stop : ∀ (b : Bool), b = shortB l → frz [] 64 (.bool b) = some (.bool (shortB l)) := fun b e => by rw [e]; rfl
  conv => whnf
  refine brd (fun a => ?_) (fun a => ?_)
  · have hj : j < l.length := by simp at a; omega
    conv => whnf
    refine brd (fun d => ?_) (fun d => ?_)
    · have hj2 : j ≤ 300 := by simp only at d; omega
      have e : (l.take 301).drop j = l[j] :: (l.take 301).drop (j + 1) := by
        have hlt : j < (l.take 301).length := by rw [List.length_take]; omega
        rw [List.drop_eq_getElem_cons hlt, List.getElem_take]
      rw [e] at g2
      simp only [shortG] at g2
      have el : ((l[j].pages.map i64).length : Int) = (l[j].pages.length : Int) := by rw [List.length_map]
      conv => whnf
      refine ixL freed_cells hj hz ?_
      conv => whnf
      refine zI (z := IntKind.i64.wrap (k + (l[j].pages.length : Int))) (by rw [el]) ?_
      conv => whnf
      refine brd (fun q => ?_) (fun q => ?_)
      · conv => whnf
        rw [if_pos q] at g2
        exact retP rfl (frz_bool (by unfold shortB; rw [g2]; rfl))
      · rw [if_neg q] at g2
        conv => whnf
        refine zI (z := ((j + 1 : Nat) : Int)) (by rw [wrap_i64 (by omega) (by omega)]; rfl) ?_
        exact nxI (j + 1, _) ⟨⟨hj, by omega⟩, g2⟩ (by simp only; omega) ⟨⟨rfl, rfl, rfl⟩, rfl, rfl⟩
    · have hj2 : j = 301 := by simp only at d; omega
      conv => whnf
      refine cutI (by decide) rfl (t := ⟨[(0, .lst sz (l.map Freed.av) c)], [], []⟩) ⟨rfl, rfl, rfl⟩ ?_
      conv => whnf
      refine retP rfl (frz_bool ?_)
      unfold shortB
      rw [List.length_map, show decide (l.length ≤ 300) = false by rw [decide_eq_false_iff_not]; omega, Bool.and_false]
      simp; omega
  · have hj : j = l.length := by simp at a; omega
    conv => whnf
    refine cutI (by decide) rfl (t := ⟨[(0, .lst sz (l.map Freed.av) c)], [], []⟩) ⟨rfl, rfl, rfl⟩ ?_
    conv => whnf
    refine retP rfl (frz_bool ?_)
    unfold shortB
    rw [g2, List.drop_of_length_le (by rw [List.length_take]; omega)]
    simp [shortG]; omega
theorem small_eq (hn : 2 ≤ n) (p : Page) (o1 : p.entries ≠ [] → p.esh.sz = 22) (o2 : p.freed ≠ [] → p.fsh.sz = 2) : C n 10 [.lst 10 [p.av] true] h = some (.ret (.bool (smallB p)), h) := by
  obtain ⟨m, rfl⟩ : ∃ m, n = m + 1 := ⟨n - 1, by omega⟩
  have cf : ∀ h, C m 24 [.lst p.esh.sz (p.entries.map Entry.av) p.esh.c] h = some (.ret (.bool (few p.entries)), h) := fun h => few_eq (by omega) _ _ o1 _
  have cs : ∀ h, C m 37 [.lst p.fsh.sz (p.freed.map Freed.av) p.fsh.c] h = some (.ret (.bool (shortB p.freed)), h) := fun h => short_eq (by omega) _ _ o2 _
  have hix : ∀ {q : List AV → Prop}, q p.cells → ∃ y, ([p.av] : List AV)[(0 : Int).toNat]? = some y ∧ ∃ cs, y.cells? = some cs ∧ q cs := fun hq => ⟨p.av, rfl, p.cells, rfl, hq⟩
  refine fun_pure F10 rfl rfl rfl (by simp [pureBs, AV.pureB, page_pure]) ?_
  conv => whnf
  refine loopI (by decide) rfl (α := Nat) (fun x => ⟨[(0, .lst 10 [p.av] true), (3, i64 x)], [], []⟩) (fun x => x ≤ 1 ∧ (x = 1 → smallB p = true)) (fun x => 1 - x) 0 ⟨⟨rfl, rfl⟩, rfl, rfl⟩ ⟨by decide, by simp⟩ (by show 1 - 0 < KK; simp only [KK]; omega) ?_
  rintro j ⟨g1, g2⟩
  obtain rfl | rfl : j = 0 ∨ j = 1 := by omega
  · repeat' (conv => whnf); first
      | refine ⟨by decide, rfl, p.av, rfl, p.cells, rfl, ?_⟩
      | refine clI (cf _) ?_
      | refine clI (cs _) ?_
      | refine zI (z := ((1 : Nat) : Int)) rfl ?_
      | refine retP rfl (frz_bool ?_)
      | refine nxI 1 ⟨by decide, fun _ => ?_⟩ (by decide) ⟨⟨rfl, rfl⟩, rfl, rfl⟩
      | refine brd (fun _ => ?_) (fun _ => ?_)
      | refine bre (fun _ => ?_) (fun _ => ?_)
      | refine brq (fun _ => ?_) (fun _ => ?_)
      | refine brn (fun _ => ?_) (fun _ => ?_)
      | refine br (fun _ => ?_) (fun _ => ?_)
      | refine ldI (by rfl) ?_
      | refine ldI (get_set_last _ _ _) ?_
      | refine ldI (get_last _ _) ?_
      | refine stI (by rfl) (by rfl) (by rfl) (by rfl) (by rfl) ?_
      | refine stI (get_last _ _) (by rfl) (by rfl) (by rfl) (by rfl) ?_
      | refine cutS (by decide) rfl ?_
    all_goals clear cf cs hix
    all_goals unfold smallB
    all_goals simp_all
    all_goals omega
  · conv => whnf
    refine cutI (by decide) rfl (t := ⟨[(0, .lst 10 [p.av] true)], [], []⟩) ⟨rfl, rfl, rfl⟩ ?_
    conv => whnf
    exact retP rfl (frz_bool (by rw [g2 rfl]; rfl))
end
end Go.Proofs
/- The law PageChains: small pages, equal texts. -/
set_option linter.unusedVariables false
set_option linter.unusedSimpArgs false
namespace Go.Proofs
open Go Go.Abs
def smallsB (l : List Page) : Bool := (l.take 31).all smallB && decide (l.length ≤ 30)
theorem smalls_iff {l : List Page} : smallsB l = true ↔ l.length ≤ 30 ∧ ∀ p ∈ l, smallB p = true := by
  unfold smallsB
  rw [Bool.and_eq_true, decide_eq_true_eq, List.all_eq_true]
  constructor
  · rintro ⟨h1, h2⟩
    rw [List.take_of_length_le (by omega)] at h1
    exact ⟨h2, h1⟩
  · rintro ⟨h1, h2⟩
    exact ⟨fun p hp => h2 p (List.mem_of_mem_take hp), h1⟩
/-- What is known of a page that came in as an argument. -/
structure PgIn (p : Page) : Prop where
  o1 : p.entries ≠ [] → p.esh.sz = 22
  o2 : p.freed ≠ [] → p.fsh.sz = 2
  o3 : ∀ f ∈ p.freed, f.Ok ∧ f.pages.length < 9223372036854775808
section
variable {n : Nat} {h : AHeap}
theorem smalls_eq (hn : 2 ≤ n) (l : List Page) (hi : ∀ p ∈ l, PgIn p) (sz : Nat) (hz : l ≠ [] → sz = 10) (c : Bool) : C n 10 [.lst sz (l.map Page.av) c] h = some (.ret (.bool (smallsB l)), h) := by
  obtain ⟨m, rfl⟩ : ∃ m, n = m + 1 := ⟨n - 1, by omega⟩
  refine fun_pure F10 rfl rfl rfl (pure_lst page_pure l rfl) ?_
  conv => whnf
  refine loopI (by decide) rfl (α := Nat) (fun x => ⟨[(0, .lst sz (l.map Page.av) c), (3, i64 x)], [], []⟩) (fun x => x ≤ l.length ∧ x ≤ 31 ∧ ∀ i (hi : i < l.length), i < x → smallB l[i] = true) (fun x => 31 - x) 0 ⟨⟨rfl, rfl⟩, rfl, rfl⟩ ⟨Nat.zero_le _, by decide, fun i _ q => absurd q (Nat.not_lt_zero _)⟩ (by show 31 - 0 < KK; simp only [KK]; omega) ?_
  rintro j ⟨g1, g0, g2⟩
  conv => whnf
  refine brd (fun a => ?_) (fun a => ?_)
  · have hj : j < l.length := by simp only [List.length_map] at a; omega
    have hin := hi _ (List.getElem_mem hj)
    conv => whnf
    refine brd (fun d => ?_) (fun d => ?_)
    · have hj2 : j ≤ 30 := by omega
      have cf : ∀ h, C m 24 [.lst l[j].esh.sz (l[j].entries.map Entry.av) l[j].esh.c] h = some (.ret (.bool (few l[j].entries)), h) := fun h => few_eq (by omega) _ _ hin.o1 _
      have cs : ∀ h, C m 37 [.lst l[j].fsh.sz (l[j].freed.map Freed.av) l[j].fsh.c] h = some (.ret (.bool (shortB l[j].freed)), h) := fun h => short_eq (by omega) _ _ hin.o2 _
      have bad : smallB l[j] = false → smallsB l = false := fun q => by
        unfold smallsB
        have : (l.take 31).all smallB = false := by
          rw [List.all_eq_false]
          refine ⟨l[j], ?_, by simp [q]⟩
          rw [List.mem_iff_getElem]
          exact ⟨j, by rw [List.length_take]; omega, by rw [List.getElem_take]⟩
        rw [this, Bool.false_and]
      conv => whnf
      refine ixL page_cells hj hz ?_
      conv => whnf
      refine clI (cf _) ?_
      conv => whnf
      refine brn (fun e => ?_) (fun e1 => ?_)
      · conv => whnf
        exact retP rfl (frz_bool (bad (by unfold smallB; simp [e])).symm)
      conv => whnf
      refine ixL page_cells hj hz ?_
      conv => whnf
      refine clI (cs _) ?_
      conv => whnf
      refine brn (fun e => ?_) (fun e2 => ?_)
      · conv => whnf
        exact retP rfl (frz_bool (bad (by unfold smallB; simp [e])).symm)
      conv => whnf
      refine ixL page_cells hj hz ?_
      conv => whnf
      refine brd (fun e => ?_) (fun e3 => ?_)
      · conv => whnf
        exact retP rfl (frz_bool (bad (by unfold smallB; simp; omega)).symm)
      conv => whnf
      refine zI (z := ((j + 1 : Nat) : Int)) (by rw [wrap_i64 (by omega) (by omega)]; rfl) ?_
      refine nxI (j + 1) ⟨hj, by omega, fun i hi hij => ?_⟩ (by omega) ⟨⟨rfl, rfl⟩, rfl, rfl⟩
      by_cases q : i = j
      · subst q
        unfold smallB; simp [e1, e2]; omega
      · exact g2 i hi (by omega)
    · have hj2 : j = 31 := by omega
      conv => whnf
      refine cutI (by decide) rfl (t := ⟨[(0, .lst sz (l.map Page.av) c)], [], []⟩) ⟨rfl, rfl, rfl⟩ ?_
      conv => whnf
      refine retP rfl (frz_bool ?_)
      unfold smallsB
      rw [List.length_map, show decide (l.length ≤ 30) = false by rw [decide_eq_false_iff_not]; omega, Bool.and_false]
      simp; omega
  · have hj : j = l.length := by simp only [List.length_map] at a; omega
    subst hj
    conv => whnf
    refine cutI (by decide) rfl (t := ⟨[(0, .lst sz (l.map Page.av) c)], [], []⟩) ⟨rfl, rfl, rfl⟩ ?_
    conv => whnf
    refine retP rfl (frz_bool ?_)
    have h1 : (l.take 31).all smallB = true := by
      rw [List.all_eq_true]
      intro p hp
      obtain ⟨i, hi, rfl⟩ := List.mem_iff_getElem.1 (List.mem_of_mem_take hp)
      exact g2 i hi hi
    unfold smallsB
    rw [h1, List.length_map]
    simp
    omega
theorem texts_eq (hn : 1 ≤ n) (l : List Str) (hl : l.length < 1099511627776) (sz sz' : Nat) (hz : l ≠ [] → sz = 1) (hz' : l ≠ [] → sz' = 1) (c c' : Bool) : C n 35 [.lst sz (l.map .str) c, .lst sz' (l.map .str) c'] h = some (.ret (.bool true), h) := by
  obtain ⟨m, rfl⟩ : ∃ m, n = m + 1 := ⟨n - 1, by omega⟩
  have hp : ∀ k : Str, (AV.str k).pureB = true := fun _ => rfl
  refine fun_pure F35 rfl rfl rfl (pure_lst hp l (pure_lst hp l rfl)) ?_
  conv => whnf
  refine brq (fun a => absurd rfl a) (fun _ => ?_)
  conv => whnf
  refine loopI (by decide) rfl (α := Nat) (fun x => ⟨[(0, .lst sz (l.map .str) c), (1, .lst sz' (l.map .str) c'), (5, i64 x)], [], []⟩) (fun x => x ≤ l.length) (fun x => l.length - x) 0 ⟨⟨rfl, rfl, rfl⟩, rfl, rfl⟩ (Nat.zero_le _) (by show l.length - 0 < KK; simp only [KK]; omega) ?_
  intro j g1
  conv => whnf
  refine brd (fun a => ?_) (fun a => ?_)
  · have hj : j < l.length := by simp only [List.length_map] at a; omega
    have hne : l ≠ [] := by rintro rfl; simp at hj
    conv => whnf
    refine ⟨by omega, hz hne, .str l[j], by simp [hj], [.str l[j]], rfl, ?_⟩
    conv => whnf
    refine ⟨by omega, hz' hne, .str l[j], by simp [hj], [.str l[j]], rfl, ?_⟩
    conv => whnf
    refine brq (fun a => absurd rfl a) (fun _ => ?_)
    conv => whnf
    refine zI (z := ((j + 1 : Nat) : Int)) (by rw [wrap_i64 (by omega) (by omega)]; rfl) ?_
    exact nxI (j + 1) hj (by omega) ⟨⟨rfl, rfl, rfl⟩, rfl, rfl⟩
  · conv => whnf
    refine cutI (by decide) rfl (t := ⟨[], [], []⟩) ⟨trivial, rfl, rfl⟩ ?_
    conv => whnf
    exact retP rfl (frz_bool rfl)
theorem samePsR_self {l : List Page} (h : ∀ q ∈ l, q.entries = []) : samePsR l l = true := by
  refine samePsR_yes rfl fun j ha hb => ?_
  unfold sameR
  simp [h _ (List.getElem_mem ha)]
end
end Go.Proofs
/- Arguments as they are read: entries. -/
set_option linter.unusedVariables false
set_option linter.unusedSimpArgs false
namespace Go.Proofs
open Go Go.Abs Go.ChangeShapes Go.WideShapes Go.ChangeAt Go.RowKit

theorem ty3 : Tryz.prog.underlying 3 = some (.int .i64) := by kernel_rfl
theorem ty5 : Tryz.prog.underlying 5 = some (.int .u8) := by kernel_rfl
theorem ty9 : Tryz.prog.underlying 9 = some .string := by kernel_rfl
theorem ty4 : Tryz.prog.underlying 4 = some .bool := by kernel_rfl
theorem ty22 : Tryz.prog.underlying 22 = some (.slice 56) := by kernel_rfl
theorem ty49 : Tryz.prog.underlying 54 = some (.array 16 5) := by kernel_rfl
theorem sz51 : Tryz.prog.cellsOf 56 = 22 := by kernel_rfl
theorem sz49 : Tryz.prog.cellsOf 54 = 16 := by kernel_rfl
theorem sz5 : Tryz.prog.cellsOf 5 = 1 := by kernel_rfl
theorem own : ownKnob Tryz.prog.godebug = none := by kernel_rfl
theorem laid : laidOutB Tryz.prog = true := by kernel_rfl

section
variable {H : Type} {enc : TypeId × Value → H} {W : World} {base : Nat} {sp : Nat → Bool} {held : Bool} {fuel : Nat} {cs : List Value} {x : DataW H × List MemPlace}
theorem take_one {i : Nat} {v : Value} (h : (cs.drop i).take 1 = [v]) : cs[i]? = some v := by
  have : ((cs.drop i).take 1)[0]? = some v := by rw [h]; rfl
  simpa using this
theorem rd_dg (h : DataW.trod enc Tryz.prog W base sp held fuel 54 cs = some x) : ∃ d : Dg, VRs (cellsW W) noBM d.cells cs := by
  obtain ⟨xs, m, _, _, hl, hx, hi⟩ := DataW.trod_array ty49 h
  rw [sz49] at hl
  rw [sz5] at hi
  have hb : ∀ i, i < 16 → ∃ b : UInt8, cs[i]? = some (.int .u8 b.toNat) := fun i hi' => by
    have h1 := hi i hi'
    rw [List.getElem?_eq_getElem (by omega)] at h1
    obtain ⟨b, h2⟩ := rd_u8 ty5 h1
    rw [Nat.mul_one] at h2
    exact ⟨b, take_one h2⟩
  obtain ⟨b0, g0⟩ := hb 0 (by omega)
  obtain ⟨b1, g1⟩ := hb 1 (by omega)
  obtain ⟨b2, g2⟩ := hb 2 (by omega)
  obtain ⟨b3, g3⟩ := hb 3 (by omega)
  obtain ⟨b4, g4⟩ := hb 4 (by omega)
  obtain ⟨b5, g5⟩ := hb 5 (by omega)
  obtain ⟨b6, g6⟩ := hb 6 (by omega)
  obtain ⟨b7, g7⟩ := hb 7 (by omega)
  obtain ⟨b8, g8⟩ := hb 8 (by omega)
  obtain ⟨b9, g9⟩ := hb 9 (by omega)
  obtain ⟨b10, g10⟩ := hb 10 (by omega)
  obtain ⟨b11, g11⟩ := hb 11 (by omega)
  obtain ⟨b12, g12⟩ := hb 12 (by omega)
  obtain ⟨b13, g13⟩ := hb 13 (by omega)
  obtain ⟨b14, g14⟩ := hb 14 (by omega)
  obtain ⟨b15, g15⟩ := hb 15 (by omega)
  refine ⟨⟨b0, b1, b2, b3, b4, b5, b6, b7, b8, b9, b10, b11, b12, b13, b14, b15⟩, VRs_get (by rw [hl]; rfl) fun i a v ha hv => ?_⟩
  have hi16 : i < 16 := by
    rcases Nat.lt_or_ge i 16 with h | h
    · exact h
    · rw [List.getElem?_eq_none (by omega)] at hv; cases hv
  have : i = 0 ∨ i = 1 ∨ i = 2 ∨ i = 3 ∨ i = 4 ∨ i = 5 ∨ i = 6 ∨ i = 7 ∨ i = 8 ∨ i = 9 ∨ i = 10 ∨ i = 11 ∨ i = 12 ∨ i = 13 ∨ i = 14 ∨ i = 15 := by omega
  rcases this with rfl | rfl | rfl | rfl | rfl | rfl | rfl | rfl | rfl | rfl | rfl | rfl | rfl | rfl | rfl | rfl
  all_goals
    first
      | rw [g0] at hv | rw [g1] at hv | rw [g2] at hv | rw [g3] at hv | rw [g4] at hv | rw [g5] at hv | rw [g6] at hv | rw [g7] at hv | rw [g8] at hv | rw [g9] at hv | rw [g10] at hv | rw [g11] at hv | rw [g12] at hv | rw [g13] at hv | rw [g14] at hv | rw [g15] at hv
    cases hv
    cases ha
    unfold VR; rfl

theorem rd_entry (h : DataW.trod enc Tryz.prog W base sp held fuel 56 cs = some x) : ∃ e : Entry, VRs (cellsW W) noBM e.cells cs ∧ True := by
  obtain ⟨fs, hfs, f0, f1, f2, f3, f4, f5, f6, h0, h1, h2, h3, h4, h5, h6, t0, t1, t2, t3, t4, t5, t6, o0, o1, o2, o3, o4, o5, o6⟩ :
      ∃ fs : Array Field, Tryz.prog.underlying 56 = some (.struct fs) ∧ ∃ (f0 f1 f2 f3 f4 f5 f6 : Field), fs[0]? = some f0 ∧ fs[1]? = some f1 ∧ fs[2]? = some f2 ∧ fs[3]? = some f3 ∧ fs[4]? = some f4 ∧ fs[5]? = some f5 ∧ fs[6]? = some f6 ∧
        f0.type = 9 ∧ f1.type = 9 ∧ f2.type = 3 ∧ f3.type = 3 ∧ f4.type = 3 ∧ f5.type = 3 ∧ f6.type = 54 ∧ f0.offset = 0 ∧ f1.offset = 1 ∧ f2.offset = 2 ∧ f3.offset = 3 ∧ f4.offset = 4 ∧ f5.offset = 5 ∧ f6.offset = 6 := by
    refine ⟨_, Tryz.underlying56, _, _, _, _, _, _, _, rfl, rfl, rfl, rfl, rfl, rfl, rfl, rfl, rfl, rfl, rfl, rfl, rfl, rfl, rfl, rfl, rfl, rfl, rfl, rfl, rfl⟩
  obtain ⟨xs, n, _, _, hl, hx, hi⟩ := DataW.trod_struct hfs h
  rw [sz51] at hl
  have hsz : 7 ≤ fs.size := (Array.getElem?_eq_some_iff.1 h6).1
  have get : ∀ (i : Nat) (f : Field), fs[i]? = some f → ∃ y, DataW.trod enc Tryz.prog W base sp held n f.type ((cs.drop f.offset).take (Tryz.prog.cellsOf f.type)) = some y := fun i f hf => by
    have h := hi i f hf
    have : i < fs.size := (Array.getElem?_eq_some_iff.1 hf).1
    rw [List.getElem?_eq_getElem (by omega)] at h
    exact ⟨_, h⟩
  have s9 : Tryz.prog.cellsOf 9 = 1 := by kernel_rfl
  have s3 : Tryz.prog.cellsOf 3 = 1 := by kernel_rfl
  obtain ⟨_, y0⟩ := get 0 f0 h0
  obtain ⟨_, y1⟩ := get 1 f1 h1
  obtain ⟨_, y2⟩ := get 2 f2 h2
  obtain ⟨_, y3⟩ := get 3 f3 h3
  obtain ⟨_, y4⟩ := get 4 f4 h4
  obtain ⟨_, y5⟩ := get 5 f5 h5
  obtain ⟨_, y6⟩ := get 6 f6 h6
  rw [t0, o0, s9] at y0
  rw [t1, o1, s9] at y1
  rw [t2, o2, s3] at y2
  rw [t3, o3, s3] at y3
  rw [t4, o4, s3] at y4
  rw [t5, o5, s3] at y5
  rw [t6, o6, sz49] at y6
  obtain ⟨k, e0⟩ := rd_str ty9 y0
  obtain ⟨v, e1⟩ := rd_str ty9 y1
  obtain ⟨n2, e2, _⟩ := rd_int ty3 y2
  obtain ⟨n3, e3, _⟩ := rd_int ty3 y3
  obtain ⟨n4, e4, _⟩ := rd_int ty3 y4
  obtain ⟨n5, e5, _⟩ := rd_int ty3 y5
  obtain ⟨d, e6⟩ := rd_dg y6
  have hcs : cs = [.string ⟨k.toArray⟩, .string ⟨v.toArray⟩, .int .i64 n2, .int .i64 n3, .int .i64 n4, .int .i64 n5] ++ (cs.drop 6).take 16 := by
    have g0 := take_one e0
    have g1 := take_one e1
    have g2 := take_one e2
    have g3 := take_one e3
    have g4 := take_one e4
    have g5 := take_one e5
    apply List.ext_getElem?
    intro i
    have : i = 0 ∨ i = 1 ∨ i = 2 ∨ i = 3 ∨ i = 4 ∨ i = 5 ∨ 6 ≤ i := by omega
    rcases this with rfl | rfl | rfl | rfl | rfl | rfl | h
    · exact g0
    · exact g1
    · exact g2
    · exact g3
    · exact g4
    · exact g5
    · rw [List.getElem?_append_right (by simpa using h)]
      simp only [List.length_cons, List.length_nil]
      rw [List.getElem?_take]
      by_cases h' : i - 6 < 16
      · rw [if_pos h', List.getElem?_drop]
        show cs[i]? = cs[6 + (i - 6)]?
        rw [show 6 + (i - 6) = i by omega]
      · rw [if_neg h', List.getElem?_eq_none (by omega)]
  refine ⟨⟨k, v, n2, n3, n4, n5, d⟩, ?_, trivial⟩
  rw [hcs]
  show VRs (cellsW W) noBM ([.str k, .str v, i64 n2, i64 n3, i64 n4, i64 n5] ++ d.cells) _
  refine VRs_app ?_ e6
  repeat' (first | exact VRs_one (by unfold VR; rfl) | (refine @VRs_app _ _ [_] _ [_] _ (VRs_one (by unfold VR; rfl)) ?_))

/-- A slice of entries. -/
theorem rd_entries (h : DataW.trod enc Tryz.prog W base sp held fuel 22 cs = some x) : ∃ (l : List Entry) (v : Value), cs = [v] ∧ VR (cellsW W) noBM (.lst 22 (l.map Entry.av) false) v := by
  obtain ⟨l, v, h1, h2, _⟩ := rd_slice (g := Entry.cells) (ok := fun _ => True) ty22 sz51 (by decide) (fun fuel cs x h => rd_entry h) h
  exact ⟨l, v, h1, h2⟩
end
end Go.Proofs
/- Arguments as they are read: pages. -/
set_option linter.unusedVariables false
set_option linter.unusedSimpArgs false
namespace Go.Proofs
open Go Go.Abs Go.ChangeShapes Go.WideShapes Go.ChangeAt Go.RowKit
theorem tyPage : ∃ fs : Array Field, Tryz.prog.underlying 25 = some (.struct fs) ∧ ∃ (f0 f1 f2 f3 f4 f5 f6 f7 f8 f9 : Field), fs[0]? = some f0 ∧ fs[1]? = some f1 ∧ fs[2]? = some f2 ∧ fs[3]? = some f3 ∧ fs[4]? = some f4 ∧ fs[5]? = some f5 ∧ fs[6]? = some f6 ∧ fs[7]? = some f7 ∧ fs[8]? = some f8 ∧ fs[9]? = some f9 ∧
    f0.type = 3 ∧ f1.type = 3 ∧ f2.type = 3 ∧ f3.type = 3 ∧ f4.type = 3 ∧ f5.type = 4 ∧ f6.type = 22 ∧ f7.type = 3 ∧ f8.type = 9 ∧ f9.type = 23 ∧ f0.offset = 0 ∧ f1.offset = 1 ∧ f2.offset = 2 ∧ f3.offset = 3 ∧ f4.offset = 4 ∧ f5.offset = 5 ∧ f6.offset = 6 ∧ f7.offset = 7 ∧ f8.offset = 8 ∧ f9.offset = 9 :=
  ⟨_, Tryz.underlying25, _, _, _, _, _, _, _, _, _, _, rfl, rfl, rfl, rfl, rfl, rfl, rfl, rfl, rfl, rfl, rfl, rfl, rfl, rfl, rfl, rfl, rfl, rfl, rfl, rfl, rfl, rfl, rfl, rfl, rfl, rfl, rfl, rfl, rfl, rfl⟩
theorem tyFreed : ∃ fs : Array Field, Tryz.prog.underlying 165 = some (.struct fs) ∧ ∃ (f0 f1 : Field), fs[0]? = some f0 ∧ fs[1]? = some f1 ∧ f0.type = 3 ∧ f1.type = 70 ∧ f0.offset = 0 ∧ f1.offset = 1 :=
  ⟨_, Tryz.underlying165, _, _, rfl, rfl, rfl, rfl, rfl, rfl⟩
theorem tyInts : Tryz.prog.underlying 70 = some (.slice 3) := by kernel_rfl
theorem tyFreeds : Tryz.prog.underlying 23 = some (.slice 165) := by kernel_rfl
theorem szPage : Tryz.prog.cellsOf 25 = 10 := by kernel_rfl
theorem szFreed : Tryz.prog.cellsOf 165 = 2 := by kernel_rfl
theorem s3 : Tryz.prog.cellsOf 3 = 1 := by kernel_rfl
theorem s4 : Tryz.prog.cellsOf 4 = 1 := by kernel_rfl
theorem s9 : Tryz.prog.cellsOf 9 = 1 := by kernel_rfl
theorem sEs : Tryz.prog.cellsOf 22 = 1 := by kernel_rfl
theorem sFs : Tryz.prog.cellsOf 23 = 1 := by kernel_rfl
theorem sIs : Tryz.prog.cellsOf 70 = 1 := by kernel_rfl
theorem ER_ints {S : SM} {m : BM} {sz : Nat} : ∀ {l : List Int} {B q : Nat}, (∀ i k, l[i]? = some k → S B (q + i * sz) = some (.int .i64 k)) → ER S m sz (l.map i64) B q
  | [], _, _, _ => by unfold ER; trivial
  | k :: l, B, q, h => by
    show ER S m sz (i64 k :: l.map i64) B q
    unfold ER
    refine ⟨⟨_, by simpa using h 0 k rfl, by unfold VR; rfl⟩, ER_ints fun i k' he => ?_⟩
    have := h (i + 1) k' (by simpa using he)
    rwa [show q + (i + 1) * sz = q + sz + i * sz by rw [Nat.add_mul]; omega] at this
section
variable {H : Type} {enc : TypeId × Value → H} {W : World} {base : Nat} {sp : Nat → Bool} {held : Bool} {fuel : Nat} {cs : List Value} {x : DataW H × List MemPlace}
theorem rd_ints (h : DataW.trod enc Tryz.prog W base sp held fuel 70 cs = some x) : ∃ (l : List Int) (v : Value), cs = [v] ∧ VR (cellsW W) noBM (.lst 1 (l.map i64) false) v ∧ l.length < 9223372036854775808 := by
  rcases DataW.trod_slice tyInts h with ⟨rfl, _⟩ | ⟨a, len, cap, elems, rest, n, _, rfl, _, hb, hlc, hcm, hel, hi, _, _⟩
  · exact ⟨[], _, rfl, by unfold VR; exact ⟨none, 0, rfl, Nat.le_refl _, (fun h => by cases h), fun h => (h rfl).elim⟩, by decide⟩
  · rw [s3] at hi
    obtain ⟨l, hl, hg⟩ := list_of (p := fun i (k : Int) => W.cells? base (a.add (i * 1)) 1 = some [.int .i64 k]) len fun i hil => by
      have h1 := hi i hil
      have h2 : elems[i]? = some (elems[i]'(by omega)) := List.getElem?_eq_getElem (by omega)
      rw [h2] at h1
      obtain ⟨cs', h3, h4⟩ := Option.bind_eq_some_iff.1 h1
      obtain ⟨k, rfl, _⟩ := rd_int ty3 h4
      exact ⟨k, h3⟩
    refine ⟨l, _, rfl, ?_, by rw [hl]; unfold maxLen at hcm; omega⟩
    unfold VR
    refine ⟨some a, cap, by simp [hl], by simpa [hl] using hlc, (fun h => by cases h), fun hne => ?_⟩
    have hpos : 0 < len := by
      rcases Nat.eq_zero_or_pos len with h | h
      · subst h
        have : l = [] := List.length_eq_zero_iff.1 hl
        subst this
        exact (hne rfl).elim
      · exact h
    have hspot : a.spot = none := by
      have h1 := hg 0 l[0] (List.getElem?_eq_getElem (by omega))
      obtain ⟨_, h3, h4⟩ := World.cells?_some h1
      have h5 := h4 0 (by decide)
      have := World.cell?_spot h5
      simpa [Addr.add] using this
    obtain ⟨B, q, spot⟩ := a
    simp only at hspot
    subst hspot
    refine ⟨B, q, rfl, ER_ints fun i k hk => ?_⟩
    have h1 := hg i k hk
    obtain ⟨_, h3, h4⟩ := World.cells?_some h1
    have h6 := h4 0 (by decide)
    have e7 : ((⟨B, q, none⟩ : Addr).add (i * 1)).add 0 = ⟨B, q + i * 1, none⟩ := by
      unfold Addr.add
      by_cases e1 : i = 0 <;> simp [e1]
    rw [e7] at h6
    exact h6
theorem two_of {v0 v1 : Value} (hl : cs.length = 2) (g0 : cs[0]? = some v0) (g1 : cs[1]? = some v1) : cs = [v0, v1] := by
  match cs, hl with
  | [a, b], _ => simp at g0 g1; rw [g0, g1]
theorem rd_freed (h : DataW.trod enc Tryz.prog W base sp held fuel 165 cs = some x) : ∃ f : Freed, VRs (cellsW W) noBM f.cells cs ∧ (f.Ok ∧ f.pages.length < 9223372036854775808) := by
  obtain ⟨fs, hfs, f0, f1, h0, h1, t0, t1, o0, o1⟩ := tyFreed
  obtain ⟨xs, n, _, _, hl, hx, hi⟩ := DataW.trod_struct hfs h
  rw [szFreed] at hl
  have get : ∀ (i : Nat) (f : Field), fs[i]? = some f → ∃ y, DataW.trod enc Tryz.prog W base sp held n f.type ((cs.drop f.offset).take (Tryz.prog.cellsOf f.type)) = some y := fun i f hf => by
    have h := hi i f hf
    have : i < fs.size := (Array.getElem?_eq_some_iff.1 hf).1
    rw [List.getElem?_eq_getElem (by omega)] at h
    exact ⟨_, h⟩
  obtain ⟨_, y0⟩ := get 0 f0 h0
  obtain ⟨_, y1⟩ := get 1 f1 h1
  rw [t0, o0, s3] at y0
  rw [t1, o1, sIs] at y1
  obtain ⟨k, e0, _⟩ := rd_int ty3 y0
  obtain ⟨l, v, e1, g1, gl⟩ := rd_ints y1
  have hcs := two_of hl (take_one e0) (take_one e1)
  refine ⟨⟨k, ⟨1, false⟩, l⟩, ?_, fun _ => rfl, gl⟩
  rw [hcs]
  exact @VRs_app _ _ [_] _ [_] _ (VRs_one (a := i64 k) (by unfold VR; rfl)) (VRs_one g1)
theorem rd_freeds (h : DataW.trod enc Tryz.prog W base sp held fuel 23 cs = some x) : ∃ (l : List Freed) (v : Value), cs = [v] ∧ VR (cellsW W) noBM (.lst 2 (l.map Freed.av) false) v ∧ ∀ f ∈ l, f.Ok ∧ f.pages.length < 9223372036854775808 := by
  obtain ⟨l, v, h1, h2, h3⟩ := rd_slice (g := Freed.cells) (ok := fun f => f.Ok ∧ f.pages.length < 9223372036854775808) tyFreeds szFreed (by decide) (fun fuel cs x h => rd_freed h) h
  exact ⟨l, v, h1, h2, h3⟩
theorem ten_of {v0 v1 v2 v3 v4 v5 v6 v7 v8 v9 : Value} (hl : cs.length = 10) (g0 : cs[0]? = some v0) (g1 : cs[1]? = some v1) (g2 : cs[2]? = some v2) (g3 : cs[3]? = some v3) (g4 : cs[4]? = some v4) (g5 : cs[5]? = some v5) (g6 : cs[6]? = some v6) (g7 : cs[7]? = some v7) (g8 : cs[8]? = some v8) (g9 : cs[9]? = some v9) : cs = [v0, v1, v2, v3, v4, v5, v6, v7, v8, v9] := by
  match cs, hl with
  | [a, b, c, d, e, f, g, h, i, j], _ => simp at g0 g1 g2 g3 g4 g5 g6 g7 g8 g9; rw [g0, g1, g2, g3, g4, g5, g6, g7, g8, g9]
/-- A page. -/
theorem rd_page (h : DataW.trod enc Tryz.prog W base sp held fuel 25 cs = some x) : ∃ p : Page, VRs (cellsW W) noBM p.cells cs ∧ (p.entries ≠ [] → p.esh.sz = 22) ∧ (p.freed ≠ [] → p.fsh.sz = 2) ∧ ∀ f ∈ p.freed, f.Ok ∧ f.pages.length < 9223372036854775808 := by
  obtain ⟨fs, hfs, f0, f1, f2, f3, f4, f5, f6, f7, f8, f9, h0, h1, h2, h3, h4, h5, h6, h7, h8, h9, t0, t1, t2, t3, t4, t5, t6, t7, t8, t9, o0, o1, o2, o3, o4, o5, o6, o7, o8, o9⟩ := tyPage
  obtain ⟨xs, n, _, _, hl, hx, hi⟩ := DataW.trod_struct hfs h
  rw [szPage] at hl
  have get : ∀ (i : Nat) (f : Field), fs[i]? = some f → ∃ y, DataW.trod enc Tryz.prog W base sp held n f.type ((cs.drop f.offset).take (Tryz.prog.cellsOf f.type)) = some y := fun i f hf => by
    have h := hi i f hf
    have : i < fs.size := (Array.getElem?_eq_some_iff.1 hf).1
    rw [List.getElem?_eq_getElem (by omega)] at h
    exact ⟨_, h⟩
  obtain ⟨_, y0⟩ := get 0 f0 h0
  obtain ⟨_, y1⟩ := get 1 f1 h1
  obtain ⟨_, y2⟩ := get 2 f2 h2
  obtain ⟨_, y3⟩ := get 3 f3 h3
  obtain ⟨_, y4⟩ := get 4 f4 h4
  obtain ⟨_, y5⟩ := get 5 f5 h5
  obtain ⟨_, y6⟩ := get 6 f6 h6
  obtain ⟨_, y7⟩ := get 7 f7 h7
  obtain ⟨_, y8⟩ := get 8 f8 h8
  obtain ⟨_, y9⟩ := get 9 f9 h9
  rw [t0, o0, s3] at y0
  rw [t1, o1, s3] at y1
  rw [t2, o2, s3] at y2
  rw [t3, o3, s3] at y3
  rw [t4, o4, s3] at y4
  rw [t5, o5, s4] at y5
  rw [t6, o6, sEs] at y6
  rw [t7, o7, s3] at y7
  rw [t8, o8, s9] at y8
  rw [t9, o9, sFs] at y9
  obtain ⟨n0, e0, _⟩ := rd_int ty3 y0
  obtain ⟨n1, e1, _⟩ := rd_int ty3 y1
  obtain ⟨n2, e2, _⟩ := rd_int ty3 y2
  obtain ⟨n3, e3, _⟩ := rd_int ty3 y3
  obtain ⟨n4, e4, _⟩ := rd_int ty3 y4
  obtain ⟨b5, e5⟩ := rd_bool ty4 y5
  obtain ⟨es, v6, e6, g6⟩ := rd_entries y6
  obtain ⟨n7, e7, _⟩ := rd_int ty3 y7
  obtain ⟨s8, e8⟩ := rd_str ty9 y8
  obtain ⟨fr, v9, e9, g9, ok9⟩ := rd_freeds y9
  have hcs := ten_of hl (take_one e0) (take_one e1) (take_one e2) (take_one e3) (take_one e4) (take_one e5) (take_one e6) (take_one e7) (take_one e8) (take_one e9)
  refine ⟨⟨n0, n1, n2, n3, n4, b5, ⟨22, false⟩, es, n7, s8, ⟨2, false⟩, fr⟩, ?_, fun _ => rfl, fun _ => rfl, ok9⟩
  rw [hcs]
  show VRs (cellsW W) noBM [i64 n0, i64 n1, i64 n2, i64 n3, i64 n4, .bool b5, .lst 22 (es.map Entry.av) false, i64 n7, .str s8, .lst 2 (fr.map Freed.av) false] _
  have fi : ∀ k : Int, VR (cellsW W) noBM (i64 k) (.int .i64 k) := fun k => by unfold VR; rfl
  have fb : VR (cellsW W) noBM (.bool b5) (.bool b5) := by unfold VR; rfl
  have fs : VR (cellsW W) noBM (.str s8) (.string ⟨s8.toArray⟩) := by unfold VR; rfl
  exact @VRs_app _ _ [_] _ [_] _ (VRs_one (fi n0)) (@VRs_app _ _ [_] _ [_] _ (VRs_one (fi n1)) (@VRs_app _ _ [_] _ [_] _ (VRs_one (fi n2)) (@VRs_app _ _ [_] _ [_] _ (VRs_one (fi n3)) (@VRs_app _ _ [_] _ [_] _ (VRs_one (fi n4)) (@VRs_app _ _ [_] _ [_] _ (VRs_one fb) (@VRs_app _ _ [_] _ [_] _ (VRs_one g6) (@VRs_app _ _ [_] _ [_] _ (VRs_one (fi n7)) (@VRs_app _ _ [_] _ [_] _ (VRs_one fs) (VRs_one g9)))))))))
end
end Go.Proofs
/- The chapter's examples hold: by runs of the small machine. -/
set_option linter.unusedVariables false
set_option linter.unusedSimpArgs false
namespace Go.Proofs
open Go Go.Abs
def ex : AV := .agg [.int .i64 (1), .int .i64 (2), .int .i64 (1), .int .i64 (0), .int .i64 (0), .bool true, .lst 22 [.agg [.str [97, 98], .str [120], .int .i64 (0), .int .i64 (0), .int .i64 (0), .int .i64 (0), .int .u8 (0), .int .u8 (0), .int .u8 (0), .int .u8 (0), .int .u8 (0), .int .u8 (0), .int .u8 (0), .int .u8 (0), .int .u8 (0), .int .u8 (0), .int .u8 (0), .int .u8 (0), .int .u8 (0), .int .u8 (0), .int .u8 (0), .int .u8 (0)], .agg [.str [97, 99], .str [121, 122], .int .i64 (0), .int .i64 (0), .int .i64 (0), .int .i64 (0), .int .u8 (0), .int .u8 (0), .int .u8 (0), .int .u8 (0), .int .u8 (0), .int .u8 (0), .int .u8 (0), .int .u8 (0), .int .u8 (0), .int .u8 (0), .int .u8 (0), .int .u8 (0), .int .u8 (0), .int .u8 (0), .int .u8 (0), .int .u8 (0)]] true, .int .i64 (0), .str [], .lst 0 [] true]
def st : AV := .str [85, 1, 0, 0, 0, 2, 0, 0, 0, 0, 0, 1, 0, 0, 1, 1, 0, 2, 97, 0, 23, 0, 28, 1, 98, 0, 1, 120, 1, 99, 0, 2, 121, 122, 0, 0, 0, 0, 0, 0, 0, 0, 0, 0, 0, 0, 0, 0, 0, 0, 0, 0, 0, 0, 0, 0, 0, 0, 0, 0, 0, 0, 0, 0, 0, 0, 0, 0, 0, 0, 0, 0, 0, 0, 0, 0, 0, 0, 0, 0, 0, 0, 0, 0, 0, 0, 0, 0, 0, 0, 0, 0, 0, 0, 0, 0, 0, 0, 0, 0, 0, 0, 0, 0, 0, 0, 0, 0, 0, 0, 0, 0, 0, 0, 0, 0, 0, 0, 0, 0, 0, 0, 0, 0, 0, 0, 0, 0, 0, 0, 0, 0, 0, 0, 0, 0, 0, 0, 0, 0, 0, 0, 0, 0, 0, 0, 0, 0, 0, 0, 0, 0, 0, 0, 0, 0, 0, 0, 0, 0, 0, 0, 0, 0, 0, 0, 0, 0, 0, 0, 0, 0, 0, 0, 0, 0, 0, 0, 0, 0, 0, 0, 0, 0, 0, 0, 0, 0, 0, 0, 0, 0, 0, 0, 0, 0, 0, 0, 0, 0, 0, 0, 0, 0, 0, 0, 0, 0, 0, 0, 0, 0, 0, 0, 0, 0, 0, 0, 0, 0, 0, 0, 0, 0, 0, 0, 0, 0, 0, 0, 0, 0, 0, 0, 0, 0, 0, 0, 0, 0, 0, 0, 0, 0, 0, 0, 0, 0, 0, 0, 0, 0, 0, 0, 0, 0, 0, 0, 0, 0, 0, 0, 0, 0, 0, 0, 0, 0, 0, 0, 0, 0, 0, 0, 0, 0, 0, 0, 0, 0, 0, 0, 0, 0, 0, 0, 0, 0, 0, 0, 0, 0, 0, 0, 0, 0, 0, 0, 0, 0, 0, 0, 0, 0, 0, 0, 0, 0, 0, 0, 0, 0, 0, 0, 0, 0, 0, 0, 0, 0, 0, 0, 0, 0, 0, 0, 0, 0, 0, 0, 0, 0, 0, 0, 0, 0, 0, 0, 0, 0, 0, 0, 0, 0, 0, 0, 0, 0, 0, 0, 0, 0, 0, 0, 0, 0, 0, 0, 0, 0, 0, 0, 0, 0, 0, 0, 0, 0, 0, 0, 0, 0, 0, 0, 0, 0, 0, 0, 0, 0, 0, 0, 0, 0, 0, 0, 0, 0, 0, 0, 0, 0, 0, 0, 0, 0, 0, 0, 0, 0, 0, 0, 0, 0, 0, 0, 0, 0, 0, 0, 0, 0, 0, 0, 0, 0, 0, 0, 0, 0, 0, 0, 0, 0, 0, 0, 0, 0, 0, 0, 0, 0, 0, 0, 0, 0, 0, 0, 0, 0, 0, 0, 0, 0, 0, 0, 0, 0, 0, 0, 0, 0, 0, 0, 0, 0, 0, 0, 0, 0, 0, 0, 0, 0, 0, 0, 0, 0, 0, 0, 0, 0, 0, 0, 0, 0, 0, 0, 0, 0, 0, 0, 0, 0, 0, 0, 0, 0, 0, 0, 0, 0, 0, 0, 0, 0, 0, 0, 0, 0, 0, 0, 0, 0, 0, 0, 0, 0, 53, 146, 233, 230]

theorem enc_run : CN Tryz.prog cfg1 20 12 [ex] [] = some (.ret (.tup [st, .int .i64 0]), []) := by kernel_rfl
def sum2 : FuncId → List AV → Option AV := fun f args => cond (Nat.beq f 12) (cond (beqVs args [ex]) (some (.tup [st, .int .i64 0])) none) (sum1 f args)
def cfg2 : Cfg := ⟨inl0, sum2, fun _ _ _ => none⟩
theorem enc_pure : PureCalls Tryz.prog 12 [ex] (.ret (.tup [st, .int .i64 0])) := pure_of_CN sum1_ok rfl enc_run
theorem sum2_sound : ∀ f args v, cfg2.sum f args = some v → PureCalls Tryz.prog f args (.ret v) := fun f args v h => by
  change sum2 f args = some v at h
  unfold sum2 at h
  cases hf : Nat.beq f 12 with
  | false => rw [hf] at h; exact sum1_sound f args v h
  | true =>
    rw [hf] at h
    have : f = 12 := Nat.eq_of_beq_eq_true hf
    subst this
    simp only [cond] at h
    cases hb : beqVs args [ex] with
    | false => rw [hb] at h; cases h
    | true =>
      rw [hb] at h
      have := beqVs_eq args hb
      subst this
      cases h
      exact enc_pure
theorem sum2_ok : SumOk Tryz.prog cfg2 := ⟨sum2_sound, noMem _⟩
theorem sane_run : CN Tryz.prog cfg2 20 9 [] [] = some (.ret (.bool true), []) := by kernel_rfl
theorem sane_pure : PureCalls Tryz.prog 9 [] (.ret (.bool true)) := pure_of_CN sum2_ok rfl sane_run
end Go.Proofs
