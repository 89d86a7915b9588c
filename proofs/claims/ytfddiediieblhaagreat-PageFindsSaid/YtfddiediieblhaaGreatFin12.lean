/- Texts put together: Ec, Ed, Fz, Ee, Ef, Eg, Eh, Ei, Ej, Ek, El, Em. -/
import Derived.Test.YtfddiediieblhaaGreatFin11
import Derived.Test.YtfddiediieblhaaGreatFin9
import Derived.Test.YtfddiediieblhaaGreatFin8
/- Contracts: the reference's numbers, checksum, entries. -/
set_option linter.unusedVariables false
set_option linter.unusedSimpArgs false
namespace Go.Proofs
open Go Go.Abs
theorem mod_u32 (c : UInt32) : ((c.toNat : Int)).tmod ((2 : UInt32).toNat : Int) = ((c &&& 1).toNat : Int) := by
  have h1 : (c &&& 1).toNat = c.toNat % 2 := by
    rw [UInt32.toNat_and]; exact Nat.and_one_is_mod _
  rw [h1]
  rfl
theorem wrap_u8u32 (b : UInt8) : IntKind.u32.wrap ((b.toNat : Nat) : Int) = ((b.toUInt32).toNat : Int) := by
  have h := b.toNat_lt
  rw [UInt8.toNat_toUInt32]
  show (if (IntKind.u32.signed && decide ((b.toNat : Int) % (2 ^ 32 : Int) ≥ (2 ^ (32 - 1) : Int))) = true then (b.toNat : Int) % (2 ^ 32 : Int) - 2 ^ 32 else (b.toNat : Int) % (2 ^ 32 : Int)) = _
  rw [if_neg (by simp [IntKind.signed])]
  omega
section
variable {n : Nat} {h : AHeap}
theorem step_eq (hn : 1 ≤ n) (c : UInt32) : C n 169 [u32 c] h = some (.ret (u32 (bit c)), h) := by
  obtain ⟨m, rfl⟩ : ∃ m, n = m + 1 := ⟨n - 1, by omega⟩
  refine fun_pure F169 rfl rfl rfl rfl ?_
  conv => whnf
  refine remI (by decide) (mod_u32 c) ?_
  have e1 := @u32_eq (c &&& 1) 1
  conv => whnf
  refine br (fun a => ?_) (fun a => ?_)
  · have a' : c &&& 1 = 1 := by simpa [e1] using e1.symm.trans a
    conv => whnf
    refine ⟨by decide, _, shr_u32 c 1 (by decide), ?_⟩
    conv => whnf
    refine zI (xor_u32 _ 3988292384) ?_
    conv => whnf
    exact retP rfl (frz_int (by simp [bit, a']))
  · have a' : ¬ c &&& 1 = 1 := by simpa [e1] using e1.symm.trans a
    conv => whnf
    refine ⟨by decide, _, shr_u32 c 1 (by decide), ?_⟩
    conv => whnf
    exact retP rfl (frz_int (by simp [bit, a']))
theorem rext_eq (hn : 2 ≤ n) (s : Str) (hs : s.length < 1099511627776) (c : UInt32) : C n 151 [u32 c, .str s] h = some (.ret (u32 (~~~(ext s (~~~c)))), h) := by
  obtain ⟨m, rfl⟩ : ∃ m, n = m + 1 := ⟨n - 1, by omega⟩
  refine fun_pure F151 rfl rfl rfl rfl ?_
  conv => whnf
  refine zI (not_u32 c) ?_
  conv => whnf
  refine loopI (by decide) rfl (α := Nat × UInt32) (fun x => ⟨[(1, .str s), (5, u32 x.2), (6, i64 x.1)], [], []⟩) (fun x => x.1 ≤ s.length ∧ x.2 = ext (s.take x.1) (~~~c)) (fun x => s.length - x.1) (0, ~~~c) ⟨⟨rfl, rfl, rfl⟩, rfl, rfl⟩ (by simp [ext]) (by show s.length - 0 < KK; simp only [KK]; omega) ?_
  rintro ⟨x, d⟩ ⟨hx, hc⟩
  simp only at hx hc
  conv => whnf
  refine brd (fun a => ?_) (fun a => ?_)
  · simp only at a
    have hx' : x < s.length := by omega
    have hst : bits 8 (d ^^^ s[x].toUInt32) = ext (s.take (x + 1)) (~~~c) := by
      subst hc
      rw [List.take_succ_eq_append_getElem hx', ext_app, ext_cons]
      rfl
    conv => whnf
    refine strI (b := s[x]) (by omega) (by rw [Int.toNat_natCast]; exact List.getElem?_eq_getElem hx') ?_
    conv => whnf
    refine zI (wrap_u8u32 s[x]) ?_
    conv => whnf
    refine zI (xor_u32 d s[x].toUInt32) ?_
    conv => whnf
    refine loopI (by decide) rfl (α := Nat) (fun k => ⟨[(1, .str s), (5, u32 (bits k (d ^^^ s[x].toUInt32))), (6, i64 x), (7, i64 k)], [], []⟩) (fun k => k ≤ 8) (fun k => 8 - k) 0 ⟨⟨rfl, rfl, rfl, rfl⟩, rfl, rfl⟩ (by omega) (by decide) ?_
    intro k hk
    conv => whnf
    refine brd (fun b => ?_) (fun b => ?_)
    · conv => whnf
      refine clI (step_eq (by omega) _) ?_
      conv => whnf
      refine zI (z := ((k + 1 : Nat) : Int)) (by rw [wrap_i64 (by omega) (by omega)]; rfl) ?_
      exact nxI (k + 1) (by omega) (by omega) ⟨⟨rfl, by rw [bits_succ]; rfl, rfl, rfl⟩, rfl, rfl⟩
    · have : k = 8 := by omega
      subst this
      rw [hst]
      conv => whnf
      refine cutI (by decide) rfl (t := ⟨[(1, .str s), (5, u32 (ext (s.take (x + 1)) (~~~c))), (6, i64 x)], [], []⟩) ⟨⟨rfl, rfl, rfl⟩, rfl, rfl⟩ ?_
      conv => whnf
      refine zI (z := ((x + 1 : Nat) : Int)) (by rw [wrap_i64 (by omega) (by omega)]; rfl) ?_
      exact nxI (x + 1, ext (s.take (x + 1)) (~~~c)) ⟨hx', rfl⟩ (by simp only; omega) ⟨⟨rfl, rfl, rfl⟩, rfl, rfl⟩
  · simp only at a
    have : x = s.length := by omega
    subst this
    rw [List.take_length] at hc
    subst hc
    conv => whnf
    refine cutI (by decide) rfl (t := ⟨[(5, u32 (ext s (~~~c)))], [], []⟩) ⟨rfl, rfl, rfl⟩ ?_
    conv => whnf
    refine zI (not_u32 _) ?_
    conv => whnf
    exact retP rfl (frz_int rfl)
theorem rcrc_eq (hn : 3 ≤ n) (s : Str) (hs : s.length < 1099511627776) : C n 117 [.str s] h = some (.ret (u32 (crc s)), h) := by
  obtain ⟨m, rfl⟩ : ∃ m, n = m + 1 := ⟨n - 1, by omega⟩
  refine fun_pure F117 rfl rfl rfl rfl ?_
  conv => whnf
  refine clI (rext_eq (by omega) s hs 0) ?_
  conv => whnf
  exact retP rfl (frz_int rfl)
theorem div_pow {k j : Nat} : ((k / 256 ^ j : Nat) : Int).tdiv 256 = ((k / 256 ^ (j + 1) : Nat) : Int) := by
  rw [Int.tdiv_eq_ediv_of_nonneg (Int.natCast_nonneg _), Nat.pow_succ, ← Nat.div_div_eq_div_mul]
  rfl
theorem byte_mod (x : Nat) : IntKind.u8.wrap ((x % 256 : Nat) : Int) = ((UInt8.ofNat x).toNat : Int) := by
  rw [UInt8.toNat_ofNat']
  show (if (IntKind.u8.signed && decide (((x % 256 : Nat) : Int) % (2 ^ 8 : Int) ≥ (2 ^ (8 - 1) : Int))) = true then ((x % 256 : Nat) : Int) % (2 ^ 8 : Int) - 2 ^ 8 else ((x % 256 : Nat) : Int) % (2 ^ 8 : Int)) = _
  rw [if_neg (by simp [IntKind.signed])]
  omega
theorem refNumber_eq (hn : 1 ≤ n) (k w : Nat) (hw : w ≤ 8) (hk : k < 9223372036854775808) : C n 64 [i64 k, i64 w] h = some (.ret (.str (num k w)), h) := by
  obtain ⟨m, rfl⟩ : ∃ m, n = m + 1 := ⟨n - 1, by omega⟩
  refine fun_pure F64 rfl rfl rfl rfl ?_
  conv => whnf
  refine ⟨by omega, by omega, by omega, ?_⟩
  conv => whnf
  refine zI (z := (w : Int) - 1) (wrap_i64 (by omega) (by omega)) ?_
  conv => whnf
  have hrep : ∀ w, rep w [AV.int .u8 0] = (List.replicate w (0 : UInt8)).map u8 := fun w => by
    induction w with
    | zero => rfl
    | succ w ih => rw [List.replicate_succ, List.map_cons, ← ih]; rfl
  refine loopI (by decide) rfl (α := Nat) (fun j => ⟨[(0, i64 ((k / 256 ^ j : Nat))), (5, .sl 1 0 0 0 w), (6, i64 ((w : Int) - 1 - j))], [.cells 0 (some 5) ((List.replicate (w - j) (0 : UInt8) ++ num k j).map u8) 0], []⟩) (fun j => j ≤ w) (fun j => w - j) 0 ?_ (Nat.zero_le _) (by show w - 0 < KK; simp only [KK]; omega) ?_
  · refine ⟨⟨by rw [Nat.pow_zero, Nat.div_one]; rfl, rfl, by rw [show (w : Int) - 1 - ((0 : Nat) : Int) = (w : Int) - 1 by omega]; rfl⟩, ?_, rfl⟩
    show [] ++ [AB.cells 0 (some 5) (rep ((w : Int)).toNat [AV.int IntKind.u8 0]) 0] = _
    rw [Int.toNat_natCast, hrep]
    simp [num]
  · intro j hj
    conv => whnf
    refine brd (fun a => ?_) (fun a => ?_)
    · have hjw : j < w := by omega
      conv => whnf
      refine remI (by decide) (z := ((k / 256 ^ j % 256 : Nat) : Int)) rfl ?_
      conv => whnf
      refine zI (z := ((UInt8.ofNat (k / 256 ^ j)).toNat : Int)) (byte_mod _) ?_
      conv => whnf
      refine ⟨by omega, by omega, rfl, ?_⟩
      conv => whnf
      have hi : 0 + ((w : Int) - 1 - j).toNat * 1 = w - j - 1 := by omega
      refine stI (cs := (List.replicate (w - j) (0 : UInt8) ++ num k j).map u8) (xs := [u8 (UInt8.ofNat (k / 256 ^ j))]) (by rfl) (by rfl) (by rfl) (by rw [Nat.ble_eq, hi]; simp [num_len]; omega) (by rfl) ?_
      conv => whnf
      have hput : putAt ((List.replicate (w - j) (0 : UInt8) ++ num k j).map u8) (0 + ((w : Int) - 1 - j).toNat * 1) [u8 (UInt8.ofNat (k / 256 ^ j))] = (List.replicate (w - (j + 1)) (0 : UInt8) ++ num k (j + 1)).map u8 := by
        rw [hi, show w - j = (w - j - 1) + 1 by omega, show w - j - 1 + 1 - 1 = w - j - 1 by omega, put_mid, show w - (j + 1) = w - j - 1 by omega]
        rfl
      have hle : k / 256 ^ (j + 1) ≤ k := Nat.div_le_self _ _
      refine ⟨by decide, ((k / 256 ^ (j + 1) : Nat) : Int), by rw [div_pow]; exact wrap_i64 (Int.le_trans (by decide) (Int.natCast_nonneg _)) (Int.lt_of_le_of_lt (Int.ofNat_le.2 hle) (by omega)), ?_⟩
      conv => whnf
      refine zI (z := (w : Int) - 1 - ((j + 1 : Nat) : Int)) (by rw [wrap_i64 (by omega) (by omega)]; omega) ?_
      exact nxI (j + 1) hjw (by omega) ⟨⟨rfl, rfl, rfl⟩, congrArg (fun x => [AB.cells 0 (some 5) x 0]) hput, rfl⟩
    · have : j = w := by omega
      subst this
      have hf := first_sl (h := [AB.cells 0 (some 5) ((List.replicate (j - j) (0 : UInt8) ++ num k j).map u8) 0]) (bb := 0) (ver := 0) (el := some 5) (s := num k j) (frz := 0) (by rw [Nat.sub_self]; rfl)
      rw [num_len] at hf
      conv => whnf
      refine cutI (by decide) rfl (t := ⟨[(5, .sl 1 0 0 0 j)], [AB.cells 0 (some 5) ((List.replicate (j - j) (0 : UInt8) ++ num k j).map u8) 0], []⟩) ⟨rfl, rfl, rfl⟩ ?_
      conv => whnf
      refine ⟨_, num k j, hf, toBytes_map _, ?_⟩
      conv => whnf
      exact retP rfl (frz_str rfl)
end
end Go.Proofs
/- Contracts: the reference's entries: their validity and bytes. -/
set_option linter.unusedVariables false
set_option linter.unusedSimpArgs false
namespace Go.Proofs
open Go Go.Abs
section
variable {n : Nat} {h : AHeap}
theorem refSum_eq (hn : 1 ≤ n) (d : Dg) : C n 166 [.agg d.cells] h = some (.ret (.str d.bytes), h) := by
  obtain ⟨m, rfl⟩ : ∃ m, n = m + 1 := ⟨n - 1, by omega⟩
  refine fun_pure F166 rfl rfl rfl rfl ?_
  conv => whnf
  refine ⟨_, _, _, rfl, ⟨Nat.le_refl 16, by decide⟩, ?_⟩
  refine slI (v := .sl 1 0 0 0 16) rfl ?_
  conv => whnf
  refine ⟨_, d.bytes, first_sl (el := some 54) (s := d.bytes) (frz := 0) (ver := 0) _ rfl, toBytes_map _, ?_⟩
  conv => whnf
  exact retP rfl (frz_str rfl)
theorem leafEntry_eq (hn : 2 ≤ n) (e : Entry) : C n 141 [e.av] h = some (.ret (.bool (formOf e != 0)), h) := by
  obtain ⟨m, rfl⟩ : ∃ m, n = m + 1 := ⟨n - 1, by omega⟩
  have e1 := eq_dg e.sum Dg.zero
  refine fun_pure F141 rfl rfl rfl rfl ?_
  repeat' (conv => whnf); first
    | refine clI (isPage_eq (by omega) _) ?_
    | refine clI (count_eq (by omega) _) ?_
    | refine eqI e1 ?_
    | refine retP rfl (frz_bool ?_)
    | refine brd (fun _ => ?_) (fun _ => ?_)
    | refine bre (fun _ => ?_) (fun _ => ?_)
    | refine brq (fun _ => ?_) (fun _ => ?_)
    | refine brn (fun _ => ?_) (fun _ => ?_)
    | refine br (fun _ => ?_) (fun _ => ?_)
    | refine ldI (by rfl) ?_
    | refine ldI (get_set_last _ _ _) ?_
    | refine ldI (get_last _ _) ?_
    | refine stI (by rfl) (by rfl) (by rfl) (by rfl) (by rfl) ?_
    | refine stI (get_last _ _) (by rfl) (by rfl) (by rfl) (by rfl) ?_
    | refine cutS (by decide) rfl ?_
  all_goals simp_all [formOf, isShort, isLong, isNest, numbered, within]
  all_goals first
    | omega
    | (by_cases q : e.len = 0 <;> simp_all; done)
    | (by_cases q : e.count = 0 <;> simp_all <;> omega)
    | (by_cases q : e.sum = Dg.zero <;> simp_all <;> omega)
theorem branchEntry_eq (hn : 2 ≤ n) (e : Entry) : C n 142 [e.av] h = some (.ret (.bool (branchE e)), h) := by
  obtain ⟨m, rfl⟩ : ∃ m, n = m + 1 := ⟨n - 1, by omega⟩
  refine fun_pure F142 rfl rfl rfl rfl ?_
  repeat' (conv => whnf); first
    | refine clI (isPage_eq (by omega) _) ?_
    | refine clI (count_eq (by omega) _) ?_
    | refine retP rfl (frz_bool ?_)
    | refine brd (fun _ => ?_) (fun _ => ?_)
    | refine bre (fun _ => ?_) (fun _ => ?_)
    | refine brq (fun _ => ?_) (fun _ => ?_)
    | refine brn (fun _ => ?_) (fun _ => ?_)
    | refine br (fun _ => ?_) (fun _ => ?_)
    | refine ldI (by rfl) ?_
    | refine ldI (get_set_last _ _ _) ?_
    | refine ldI (get_last _ _) ?_
    | refine stI (by rfl) (by rfl) (by rfl) (by rfl) (by rfl) ?_
    | refine stI (get_last _ _) (by rfl) (by rfl) (by rfl) (by rfl) ?_
    | refine cutS (by decide) rfl ?_
  all_goals simp_all [branchE]
theorem rest_eq (hn : 2 ≤ n) (e : Entry) (lv : Int) (h0 : 0 ≤ lv) (hv : if lv = 0 then formOf e ≠ 0 else branches e = true) : C n 143 [e.av, i64 lv] h = some (.ret (.str (restB e lv)), h) := by
  obtain ⟨m, rfl⟩ : ∃ m, n = m + 1 := ⟨n - 1, by omega⟩
  have cN : ∀ (k : Int) (w : Nat) (h : AHeap), 0 ≤ k → k < 9223372036854775808 → w ≤ 8 → C m 64 [i64 k, i64 w] h = some (.ret (.str (num k.toNat w)), h) := fun k w h h1 h2 h3 => by
    have := refNumber_eq (n := m) (h := h) (by omega) k.toNat w h3 (by omega)
    rwa [show ((k.toNat : Nat) : Int) = k by omega] at this
  have cS : ∀ (h : AHeap), C m 166 [.agg e.sum.cells] h = some (.ret (.str e.sum.bytes), h) := fun h => refSum_eq (by omega) e.sum
  have nn : 0 ≤ e.over ∧ 0 ≤ e.len ∧ 0 ≤ e.child ∧ 0 ≤ e.count := by
    split at hv
    · exact (nn_form hv).1
    · exact (nn_branch hv).1
  have big : e.over < 1099511627776 ∧ e.len < 1099511627776 ∧ e.child < 1099511627776 ∧ e.count < 1099511627776 ∧ e.val.length ≤ 64 := by
    split at hv
    · rcases (form_cases hv).2 with ⟨a, b, c, d, _, g⟩ | ⟨a, b, c, d, g⟩ | ⟨a, b, c, d, g⟩
      · omega
      · rw [a]; simp; omega
      · rw [a]; simp; omega
    · obtain ⟨_, a, b, c, d, g⟩ := branch_cases hv
      rw [a]; simp; omega
  refine fun_pure F143 rfl rfl rfl rfl ?_
  conv => whnf
  refine brd (fun a => ?_) (fun a => ?_)
  · conv => whnf
    refine ldI (by rfl) ?_
    conv => whnf
    refine clI (cN e.child 4 _ (by omega) (by omega) (by omega)) ?_
    conv => whnf
    refine ldI (by rfl) ?_
    conv => whnf
    refine clI (cN e.count 4 _ (by omega) (by omega) (by omega)) ?_
    conv => whnf
    refine ⟨by simp only [num_len]; decide, ?_⟩
    conv => whnf
    refine ldI (by rfl) ?_
    conv => whnf
    refine clI (cS _) ?_
    conv => whnf
    refine ⟨by simp only [List.length_append, num_len, Dg.bytes_len]; decide, ?_⟩
    conv => whnf
    refine retP rfl (frz_str ?_)
    unfold restB
    rw [if_pos a, List.append_assoc]
  · have hl : lv = 0 := by omega
    rw [if_pos hl] at hv
    have hf := (form_cases hv).2
    conv => whnf
    refine ldI (by rfl) ?_
    conv => whnf
    refine brq (fun b => ?_) (fun b => ?_)
    · have hov : ¬ 0 < e.over := by omega
      conv => whnf
      refine clI (cN 65534 2 _ (by omega) (by omega) (by omega)) ?_
      conv => whnf
      refine ldI (by rfl) ?_
      conv => whnf
      refine clI (cN e.child 4 _ (by omega) (by omega) (by omega)) ?_
      conv => whnf
      refine ⟨by simp only [num_len]; decide, ?_⟩
      conv => whnf
      refine ldI (by rfl) ?_
      conv => whnf
      refine clI (cN e.count 4 _ (by omega) (by omega) (by omega)) ?_
      conv => whnf
      refine ⟨by simp only [List.length_append, num_len]; decide, ?_⟩
      conv => whnf
      refine ldI (by rfl) ?_
      conv => whnf
      refine clI (cS _) ?_
      conv => whnf
      refine ⟨by simp only [List.length_append, num_len, Dg.bytes_len]; decide, ?_⟩
      conv => whnf
      refine retP rfl (frz_str ?_)
      unfold restB
      rw [if_neg a, if_neg hov, if_pos (by omega)]
      simp only [List.append_assoc]
      rfl
    · conv => whnf
      refine ldI (by rfl) ?_
      conv => whnf
      refine brq (fun d => ?_) (fun d => ?_)
      · conv => whnf
        refine clI (cN 65535 2 _ (by omega) (by omega) (by omega)) ?_
        conv => whnf
        refine ldI (by rfl) ?_
        conv => whnf
        refine clI (cN e.over 4 _ (by omega) (by omega) (by omega)) ?_
        conv => whnf
        refine ⟨by simp only [num_len]; decide, ?_⟩
        conv => whnf
        refine ldI (by rfl) ?_
        conv => whnf
        refine clI (cN e.len 2 _ (by omega) (by omega) (by omega)) ?_
        conv => whnf
        refine ⟨by simp only [List.length_append, num_len]; decide, ?_⟩
        conv => whnf
        refine ldI (by rfl) ?_
        conv => whnf
        refine clI (cS _) ?_
        conv => whnf
        refine ⟨by simp only [List.length_append, num_len, Dg.bytes_len]; decide, ?_⟩
        conv => whnf
        refine retP rfl (frz_str ?_)
        unfold restB
        rw [if_neg a, if_pos (by omega)]
        simp only [List.append_assoc]
        rfl
      · conv => whnf
        refine ldI (by rfl) ?_
        conv => whnf
        refine clI (cN e.val.length 2 _ (by omega) (by omega) (by omega)) ?_
        conv => whnf
        refine ldI (by rfl) ?_
        conv => whnf
        refine ⟨by rw [num_len]; omega, ?_⟩
        conv => whnf
        refine retP rfl (frz_str ?_)
        unfold restB
        rw [if_neg a, if_neg (by omega), if_neg (by omega)]
        rfl
end
end Go.Proofs
/- Orders of keys; equal entries (as in Fd, for the seats without PageSearch). -/
set_option linter.unusedVariables false
set_option linter.unusedSimpArgs false
namespace Go.Proofs
open Go Go.Abs
theorem less_trans : ∀ (x y z : Str), Op.bytesLess x y = true → Op.bytesLess y z = true → Op.bytesLess x z = true
  | x, [], z, h, _ => by cases x <;> simp [Op.bytesLess] at h
  | x, b :: y, [], _, h => by simp [Op.bytesLess] at h
  | [], b :: y, c :: z, _, _ => by simp [Op.bytesLess]
  | a :: x, b :: y, c :: z, h1, h2 => by
    simp only [Op.bytesLess, Bool.or_eq_true, Bool.and_eq_true, decide_eq_true_eq, beq_iff_eq] at h1 h2 ⊢
    rcases h1 with h1 | ⟨rfl, h1⟩
    · rcases h2 with h2 | ⟨rfl, h2⟩
      · exact .inl (UInt8.lt_trans h1 h2)
      · exact .inl h1
    · rcases h2 with h2 | ⟨rfl, h2⟩
      · exact .inl h2
      · exact .inr ⟨rfl, less_trans x y z h1 h2⟩
theorem cmp_neg {x y : Str} : cmpS x y < 0 ↔ Op.bytesLess x y = true := by
  unfold cmpS
  by_cases a : Op.bytesLess x y = true
  · simp [a]
  · by_cases b : Op.bytesLess y x = true
    · simp [a, b]
    · simp [a, b]
theorem cmp_zero {x y : Str} : cmpS x y = 0 ↔ x = y := by
  unfold cmpS
  by_cases a : Op.bytesLess x y = true
  · simp [a]
    rintro rfl
    rw [less_irrefl] at a; cases a
  · by_cases b : Op.bytesLess y x = true
    · simp [a, b]
      rintro rfl
      rw [less_irrefl] at b; cases b
    · simp only [Bool.not_eq_true] at a b
      have := less_total x y a b
      subst this
      simp [a]
theorem sorted_lt {l : List Entry} (h : ∀ j (hj : j < l.length), 0 < j → cmpS (l[j - 1]).key l[j].key < 0) : ∀ (d j : Nat) (hj : j + d + 1 < l.length), Op.bytesLess (l[j]).key (l[j + d + 1]).key = true
  | 0, j, hj => by
    have := h (j + 1) hj (by omega)
    exact cmp_neg.1 this
  | d + 1, j, hj => by
    have h1 := sorted_lt h d j (by omega)
    have h2 := h (j + (d + 1) + 1) hj (by omega)
    exact less_trans _ _ _ h1 (cmp_neg.1 h2)
theorem index_of {l : List Entry} (h : ∀ j (hj : j < l.length), 0 < j → cmpS (l[j - 1]).key l[j].key < 0) (k : Str) : ∀ n, n ≤ l.length → ∃ i, i ≤ n ∧ (∀ j (hj : j < l.length), j < i → cmpS l[j].key k < 0) ∧ ∀ j (hj : j < l.length), i ≤ j → j < n → ¬ cmpS l[j].key k < 0
  | 0, _ => ⟨0, Nat.le_refl _, fun j _ h => absurd h (Nat.not_lt_zero _), fun j _ _ h => absurd h (Nat.not_lt_zero _)⟩
  | n + 1, hn => by
    obtain ⟨i, h1, h2, h3⟩ := index_of h k n (by omega)
    by_cases hl : cmpS (l[n]'(by omega)).key k < 0
    · refine ⟨n + 1, Nat.le_refl _, fun j hj hlt => ?_, fun j _ h1 h2 => absurd h2 (by omega)⟩
      by_cases e : j = n
      · subst e; exact hl
      · have := sorted_lt h (n - j - 1) j (by omega)
        have e2 : j + (n - j - 1) + 1 = n := by omega
        simp only [e2] at this
        exact cmp_neg.2 (less_trans _ _ _ this (cmp_neg.1 hl))
    · refine ⟨i, by omega, h2, fun j hj a b => ?_⟩
      by_cases e : j = n
      · subst e; exact hl
      · exact h3 j hj a (by omega)
theorem eq_ent (e : Entry) : eqA Tryz.prog 20 56 (.agg e.cells) (.agg e.cells) = some true := by
  have e1 : eqA Tryz.prog 20 56 (.agg e.cells) (.agg e.cells) = allEq (eqA Tryz.prog 19) [(9, .str e.key, .str e.key), (9, .str e.val, .str e.val), (3, i64 e.over, i64 e.over), (3, i64 e.len, i64 e.len), (3, i64 e.child, i64 e.child), (3, i64 e.count, i64 e.count), (54, .agg e.sum.cells, .agg e.sum.cells)] := by kernel_rfl
  have e2 : ∀ (s : Str), eqA Tryz.prog 19 9 (.str s) (.str s) = some (s == s) := fun s => by kernel_rfl
  have e3 : ∀ (k : Int), eqA Tryz.prog 19 3 (i64 k) (i64 k) = some (k == k) := fun k => by kernel_rfl
  have e4 : eqA Tryz.prog 19 54 (.agg e.sum.cells) (.agg e.sum.cells) = allEq (eqA Tryz.prog 18) (zipE 5 (e.sum.list.map u8) (e.sum.list.map u8)) := by kernel_rfl
  have e5 : ∀ (x y : UInt8), eqA Tryz.prog 18 5 (.int .u8 x.toNat) (.int .u8 y.toNat) = some (((x.toNat : Nat) : Int) == y.toNat) := fun x y => by kernel_rfl
  have e6 : eqA Tryz.prog 19 54 (.agg e.sum.cells) (.agg e.sum.cells) = some true := by
    rw [e4, allEq_u8 (fun x y => by rw [e5, eq_u8]) e.sum.list e.sum.list rfl]
    simp
  rw [e1]
  simp only [allEq, e2, e3, e6, beq_self_eq_true]
end Go.Proofs
/- Contracts: the reference's validity of entries, and their shared prefix. -/
set_option linter.unusedVariables false
set_option linter.unusedSimpArgs false
namespace Go.Proofs
open Go Go.Abs
section
variable {n : Nat} {h : AHeap}
theorem refValid_loop {m : Nat} (hn : 2 ≤ m) (l : List Entry) (hl : l.length < 1099511627776) (lv : Int) (sz : Nat) (hz : l ≠ [] → sz = 22) (c : Bool) (W : 0 ≤ lv) (hk0 : lv ≠ 0 → ∀ h0 : 0 < l.length, l[0].key = []) {Q : Ex → LS → Prop} {s : LS}
    (hs : LS.sub ⟨[(0, .lst sz (l.map Entry.av) c), (1, i64 lv), (5, i64 0)], [], []⟩ s)
    (hE : (∀ i, i < l.length → vAt lv l i = true) → ∀ L hp, Q (.exit 0) ⟨L, hp, []⟩) (hR : ∀ j, j < l.length → vAt lv l j = false → ∀ L hp, lk L 4 = some (.bool false) → Q .ret ⟨L, hp, []⟩) :
    OkR Tryz.prog (C m) cfg0.inl KK 105 7 (.loop (c106.lp 0)) s Q := by
  refine loopI (by decide) rfl (α := Nat × AHeap) (fun x => ⟨[(0, .lst sz (l.map Entry.av) c), (1, i64 lv), (5, i64 x.1)], x.2, []⟩)
    (fun x => x.1 ≤ l.length ∧ ∀ i, i < x.1 → vAt lv l i = true) (fun x => l.length - x.1) (0, []) hs ?_ ?_ ?_
  · exact ⟨Nat.zero_le _, fun i hi => absurd hi (Nat.not_lt_zero _)⟩
  · show l.length - 0 < KK; simp only [KK]; omega
  · rintro ⟨j, hp⟩ ⟨g1, g2⟩
    simp only at g1 g2
    conv => whnf
    refine brd (fun b => ?_) (fun b => ?_)
    · have hj : j < l.length := by simp only [List.length_map] at b; omega
      have ext : vAt lv l j = true → ∀ i, i < j + 1 → vAt lv l i = true := fun hv i hi => by
        by_cases e : i = j
        · rw [e]; exact hv
        · exact g2 i (by omega)
      conv => whnf
      refine bre (fun z => ?_) (fun z => ?_)
      · subst z
        conv => whnf
        refine ixL entry_cells hj hz ?_
        conv => whnf
        refine clI (leafEntry_eq (by omega) l[j]) ?_
        conv => whnf
        refine brn (fun c1 => ?_) (fun c1 => ?_)
        · exact hR j hj (by rw [vAt_unf hj]; simp [c1]) _ _ rfl
        · have hfst : (if (0 : Int) = 0 then formOf l[j] != 0 else branches l[j] && (decide (j = 0) || l[j].key != [])) = true := by rw [if_pos rfl]; exact c1
          conv => whnf
          refine brd (fun c2 => ?_) (fun c2 => ?_)
          · have hj1 : j - 1 < l.length := by omega
            have hj0 : j ≠ 0 := by omega
            conv => whnf
            refine ixL entry_cells hj hz ?_
            conv => whnf
            refine zI (z := ((j - 1 : Nat) : Int)) (by rw [wrap_i64 (by omega) (by omega)]; omega) ?_
            conv => whnf
            refine ixL entry_cells (l := l) (j := j - 1) hj1 hz ?_
            conv => whnf
            have tri := bytesLess_tri l[j].key (l[j - 1]'hj1).key
            refine br (fun d => ?_) (fun d => ?_)
            · have d' : Op.bytesLess (l[j - 1]'hj1).key l[j].key = false := by
                have := tri.symm.trans d
                simpa using this
              have hc : ¬ cmpS (l[j - 1]'hj1).key l[j].key < 0 := fun q => by rw [cmp_neg.1 q] at d'; cases d'
              refine hR j hj (by rw [vAt_unf hj]; simp [hj0, hc]) _ _ rfl
            · have d' : Op.bytesLess (l[j - 1]'hj1).key l[j].key = true := by
                have := tri.symm.trans d
                simpa using this
              have hc : cmpS (l[j - 1]'hj1).key l[j].key < 0 := cmp_neg.2 d'
              conv => whnf
              refine zI (z := ((j + 1 : Nat) : Int)) (by rw [wrap_i64 (by omega) (by omega)]; rfl) ?_
              refine nxI (j + 1, _) ⟨hj, ext (by rw [vAt_unf hj, hfst]; simp [hj0, hc])⟩ (by simp only; omega) ⟨⟨rfl, rfl, rfl⟩, rfl, rfl⟩
          · have hj0 : j = 0 := by omega
            conv => whnf
            refine zI (z := ((j + 1 : Nat) : Int)) (by rw [wrap_i64 (by omega) (by omega)]; rfl) ?_
            refine nxI (j + 1, _) ⟨hj, ext (by rw [vAt_unf hj, hfst]; simp [hj0])⟩ (by simp only; omega) ⟨⟨rfl, rfl, rfl⟩, rfl, rfl⟩
      · have zp : 0 < lv := by omega
        conv => whnf
        refine brd (fun _ => ?_) (fun q => absurd zp q)
        conv => whnf
        refine ixL entry_cells hj hz ?_
        conv => whnf
        refine clI (branchEntry_eq (by omega) l[j]) ?_
        conv => whnf
        refine brn (fun c1 => ?_) (fun c1 => ?_)
        · exact hR j hj (by rw [vAt_unf hj, branch_split]; simp [c1, z]) _ _ rfl
        · conv => whnf
          refine brd (fun _ => ?_) (fun q => absurd zp q)
          conv => whnf
          refine brd (fun jp => ?_) (fun jp => ?_)
          · have hj0 : j ≠ 0 := by omega
            conv => whnf
            refine ixL entry_cells hj hz ?_
            conv => whnf
            refine brd (fun k1 => ?_) (fun k1 => ?_)
            · have hk : l[j].key = [] := List.length_eq_zero_iff.1 (by omega)
              exact hR j hj (by rw [vAt_unf hj]; simp [hk, z, hj0]) _ _ rfl
            · conv => whnf
              refine ixL entry_cells hj hz ?_
              conv => whnf
              refine brd (fun k2 => ?_) (fun k2 => ?_)
              · exact hR j hj (by rw [vAt_unf hj, branch_split]; simp [z, show ¬ l[j].key.length ≤ 48 by omega]) _ _ rfl
              · have hk : l[j].key ≠ [] := by intro q; rw [q] at k1; simp at k1
                have hfst : (if lv = 0 then formOf l[j] != 0 else branches l[j] && (decide (j = 0) || l[j].key != [])) = true := by rw [if_neg z, branch_split]; simp [c1, hk, show l[j].key.length ≤ 48 by omega]
                conv => whnf
                refine brd (fun c2 => ?_) (fun c2 => ?_)
                · have hj1 : j - 1 < l.length := by omega
                  have hj0 : j ≠ 0 := by omega
                  conv => whnf
                  refine ixL entry_cells hj hz ?_
                  conv => whnf
                  refine zI (z := ((j - 1 : Nat) : Int)) (by rw [wrap_i64 (by omega) (by omega)]; omega) ?_
                  conv => whnf
                  refine ixL entry_cells (l := l) (j := j - 1) hj1 hz ?_
                  conv => whnf
                  have tri := bytesLess_tri l[j].key (l[j - 1]'hj1).key
                  refine br (fun d => ?_) (fun d => ?_)
                  · have d' : Op.bytesLess (l[j - 1]'hj1).key l[j].key = false := by
                      have := tri.symm.trans d
                      simpa using this
                    have hc : ¬ cmpS (l[j - 1]'hj1).key l[j].key < 0 := fun q => by rw [cmp_neg.1 q] at d'; cases d'
                    refine hR j hj (by rw [vAt_unf hj]; simp [hj0, hc]) _ _ rfl
                  · have d' : Op.bytesLess (l[j - 1]'hj1).key l[j].key = true := by
                      have := tri.symm.trans d
                      simpa using this
                    have hc : cmpS (l[j - 1]'hj1).key l[j].key < 0 := cmp_neg.2 d'
                    conv => whnf
                    refine zI (z := ((j + 1 : Nat) : Int)) (by rw [wrap_i64 (by omega) (by omega)]; rfl) ?_
                    refine nxI (j + 1, _) ⟨hj, ext (by rw [vAt_unf hj, hfst]; simp [hj0, hc])⟩ (by simp only; omega) ⟨⟨rfl, rfl, rfl⟩, rfl, rfl⟩
                · have hj0 : j = 0 := by omega
                  conv => whnf
                  refine zI (z := ((j + 1 : Nat) : Int)) (by rw [wrap_i64 (by omega) (by omega)]; rfl) ?_
                  refine nxI (j + 1, _) ⟨hj, ext (by rw [vAt_unf hj, hfst]; simp [hj0])⟩ (by simp only; omega) ⟨⟨rfl, rfl, rfl⟩, rfl, rfl⟩
          · have hj0 : j = 0 := by omega
            subst hj0
            have hk := hk0 z hj
            have hfst : (if lv = 0 then formOf l[0] != 0 else branches l[0] && (decide ((0 : Nat) = 0) || l[0].key != [])) = true := by rw [if_neg z, branch_split, hk]; simp [c1]
            conv => whnf
            refine zI (z := ((0 + 1 : Nat) : Int)) (by rw [wrap_i64 (by omega) (by omega)]; rfl) ?_
            refine nxI (0 + 1, _) ⟨hj, ext (by rw [vAt_unf hj, hfst]; simp)⟩ (by simp only; omega) ⟨⟨rfl, rfl, rfl⟩, rfl, rfl⟩
    · have hj : j = l.length := by simp only [List.length_map] at b; omega
      subst hj
      conv => whnf
      exact hE g2 _ _
theorem refValid_eq (hn : 3 ≤ n) (l : List Entry) (hl : l.length < 1099511627776) (lv : Int) (sz : Nat) (hz : l ≠ [] → sz = 22) (c : Bool) : C n 106 [.lst sz (l.map Entry.av) c, i64 lv] h = some (.ret (.bool (valid l lv)), h) := by
  obtain ⟨m, rfl⟩ : ∃ m, n = m + 1 := ⟨n - 1, by omega⟩
  refine fun_pure F106 rfl rfl rfl (pure_lst entry_pure l rfl) ?_
  conv => whnf
  refine brd (fun a => ?_) (fun a => ?_)
  · conv => whnf
    exact retP rfl (frz_bool (by simp [valid, within]; omega))
  conv => whnf
  refine brd (fun b => ?_) (fun b => ?_)
  · conv => whnf
    exact retP rfl (frz_bool (by simp [valid, within]; omega))
  have W : within lv 0 20 = true := within_iff.2 (by omega)
  conv => whnf
  refine bre (fun z => ?_) (fun z => ?_)
  · subst z
    conv => whnf
    refine brd (fun d => ?_) (fun d => ?_)
    · have : l = [] := List.length_eq_zero_iff.1 (by rw [List.length_map] at d; omega)
      conv => whnf
      exact retP rfl (frz_bool (by subst this; rfl))
    · have hne : l ≠ [] := by rintro rfl; simp at d
      conv => whnf
      refine refValid_loop (by omega) l hl 0 sz hz c (by omega) (fun q => (q rfl).elim) ⟨⟨rfl, rfl, rfl⟩, rfl, rfl⟩ (fun e L hp => ?_) (fun j hj e L hp hk => ?_)
      · refine cutI (by decide) rfl (t := ⟨[], hp, []⟩) ⟨trivial, rfl, rfl⟩ ?_
        conv => whnf
        exact retP rfl (frz_bool (valid_good W hne (.inl rfl) e).symm)
      · exact retK hk (frz_bool (valid_bad hj e).symm)
  · conv => whnf
    refine brd (fun zp => ?_) (fun q => absurd (by omega) q)
    conv => whnf
    refine brd (fun d => ?_) (fun d => ?_)
    · have : ¬ 2 ≤ l.length := by rw [List.length_map] at d; omega
      conv => whnf
      exact retP rfl (frz_bool (by simp [valid, *]))
    · have h2 : 2 ≤ l.length := by rw [List.length_map] at d; omega
      have h0 : 0 < l.length := by omega
      have hne : l ≠ [] := by rintro rfl; simp at h0
      have k0 : l[0].key = keyAt l 0 := by simp [keyAt, h0]
      conv => whnf
      refine ixL entry_cells (j := 0) h0 hz ?_
      conv => whnf
      refine brq (fun g => ?_) (fun g => ?_)
      · conv => whnf
        rw [k0] at g
        exact retP rfl (frz_bool (by simp [valid, *]))
      · conv => whnf
        refine refValid_loop (by omega) l hl lv sz hz c (by omega) (fun _ _ => g) ⟨⟨rfl, rfl, rfl⟩, rfl, rfl⟩ (fun e L hp => ?_) (fun j hj e L hp hk => ?_)
        · refine cutI (by decide) rfl (t := ⟨[], hp, []⟩) ⟨trivial, rfl, rfl⟩ ?_
          conv => whnf
          exact retP rfl (frz_bool (valid_good W hne (.inr ⟨h2, by rw [← k0]; exact g⟩) e).symm)
        · exact retK hk (frz_bool (valid_bad hj e).symm)
end
end Go.Proofs
/- Contracts: the reference's shared prefix and suffixes. -/
set_option linter.unusedVariables false
set_option linter.unusedSimpArgs false
namespace Go.Proofs
open Go Go.Abs
theorem tail_at {l : List Entry} {lv : Int} {k : Nat} (hk : k < (tailE l lv).length) (f : Nat) (hf : f = if 0 < lv then 1 else 0) : ∃ h : f + k < l.length, (tailE l lv)[k] = l[f + k] := by
  by_cases h : 0 < lv
  · have e : tailE l lv = l.drop 1 := by unfold tailE; rw [if_pos h]
    rw [if_pos h] at hf
    subst hf
    have hl : 1 + k < l.length := by rw [e, List.length_drop] at hk; omega
    refine ⟨hl, ?_⟩
    simp only [e, List.getElem_drop]
  · have e : tailE l lv = l := by unfold tailE; rw [if_neg h]
    rw [if_neg h] at hf
    subst hf
    have hl : 0 + k < l.length := by rw [e] at hk; omega
    refine ⟨hl, ?_⟩
    simp only [e, Nat.zero_add]
theorem tail_len (l : List Entry) (lv : Int) (f : Nat) (hf : f = if 0 < lv then 1 else 0) : (tailE l lv).length = l.length - f := by
  by_cases h : 0 < lv
  · unfold tailE; rw [if_pos h] at hf ⊢; simp [hf]
  · unfold tailE; rw [if_neg h] at hf ⊢; simp [hf]
section
variable {n : Nat} {h : AHeap}
theorem refPrefix_loop {m : Nat} (l : List Entry) (hl : l.length < 1099511627776) (he : ∀ e ∈ l, e.Ok) (lv : Int) (hne : 0 < (tailE l lv).length) (f : Nat) (hf : f = if 0 < lv then 1 else 0) (sz : Nat) (hz : l ≠ [] → sz = 22) (c : Bool) {Q : Ex → LS → Prop} {s : LS}
    (hs : LS.sub ⟨[(0, .lst sz (l.map Entry.av) c), (6, .str ((tailE l lv).headD default).key), (7, i64 ((f + 0 : Nat)))], [], []⟩ s) (hE : ∀ L, lk L 6 = some (.str (shared l lv)) → Q (.exit 0) ⟨L, [], []⟩) :
    OkR Tryz.prog (C m) cfg0.inl KK 56 6 (.loop (c114.lp 0)) s Q := by
  have hf1 : f ≤ 1 := by rw [hf]; split <;> omega
  have tl := tail_len l lv f hf
  have hh : (tailE l lv).headD default ∈ l := by
    obtain ⟨h1, h2⟩ := tail_at hne f hf
    rw [← head_at hne, h2]
    exact List.getElem_mem h1
  refine loopI (by decide) rfl (α := Nat × Str) (fun x => ⟨[(0, .lst sz (l.map Entry.av) c), (6, .str x.2), (7, i64 ((f + x.1 : Nat)))], [], []⟩)
    (fun x => x.1 ≤ (tailE l lv).length ∧ x.2 = ((tailE l lv).take x.1).foldl (fun p e => pre2 p e.key) ((tailE l lv).headD default).key ∧ x.2.length < 1099511627776) (fun x => (tailE l lv).length - x.1) (0, ((tailE l lv).headD default).key) hs ⟨Nat.zero_le _, rfl, (he _ hh).1⟩ (by show (tailE l lv).length - 0 < KK; simp only [KK]; omega) ?_
  rintro ⟨k, p⟩ ⟨g1, g2, g3⟩
  simp only at g1 g2 g3
  conv => whnf
  refine brd (fun b => ?_) (fun b => ?_)
  · have hk : k < (tailE l lv).length := by simp only [List.length_map] at b; omega
    obtain ⟨hj, hat⟩ := tail_at hk f hf
    have hst : pre2 p l[f + k].key = ((tailE l lv).take (k + 1)).foldl (fun p e => pre2 p e.key) ((tailE l lv).headD default).key := by
      rw [List.take_succ_eq_append_getElem hk, List.foldl_append, ← g2, hat]; rfl
    have hkey := he _ (List.getElem_mem hj)
    have hle := (cp_le p l[f + k].key).1
    conv => whnf
    refine loopI (by decide) rfl (α := Nat) (fun t => ⟨[(0, .lst sz (l.map Entry.av) c), (6, .str p), (7, i64 ((f + k : Nat))), (8, i64 t)], [], []⟩) (fun t => (t ≤ p.length ∧ t ≤ l[f + k].key.length) ∧ cp p l[f + k].key = t + cp (p.drop t) (l[f + k].key.drop t)) (fun t => p.length - t) 0 ⟨⟨rfl, rfl, rfl, rfl⟩, rfl, rfl⟩ (by simp) (by show p.length - 0 < KK; simp only [KK]; omega) ?_
    rintro t ⟨⟨t1, t2⟩, t3⟩
    conv => whnf
    refine brd (fun d => ?_) (fun d => ?_)
    · have ht : t < p.length := by omega
      conv => whnf
      refine ixL entry_cells hj hz ?_
      conv => whnf
      refine brd (fun d2 => ?_) (fun d2 => ?_)
      · have ht2 : t < l[f + k].key.length := by omega
        conv => whnf
        refine strI (b := p[t]) (by omega) (by rw [Int.toNat_natCast]; exact List.getElem?_eq_getElem ht) ?_
        conv => whnf
        refine ixL entry_cells hj hz ?_
        conv => whnf
        refine strI (b := l[f + k].key[t]) (by omega) (by rw [Int.toNat_natCast]; exact List.getElem?_eq_getElem ht2) ?_
        have e := u8_eq p[t] l[f + k].key[t]
        conv => whnf
        refine br (fun b => ?_) (fun b => ?_)
        · have b' : p[t] = l[f + k].key[t] := by simpa using e.symm.trans b
          conv => whnf
          refine zI (z := ((t + 1 : Nat) : Int)) (by rw [wrap_i64 (by omega) (by omega)]; rfl) ?_
          exact nxI (t + 1) ⟨⟨ht, ht2⟩, cp_next p _ t ht ht2 b' t3⟩ (by omega) ⟨⟨rfl, rfl, rfl, rfl⟩, rfl, rfl⟩
        · have b' : p[t] ≠ l[f + k].key[t] := by simpa using e.symm.trans b
          have ec := cp_stop p _ t ht ht2 b' t3
          conv => whnf
          refine cutI (by decide) rfl (t := ⟨[(0, .lst sz (l.map Entry.av) c), (6, .str p), (7, i64 ((f + k : Nat))), (8, i64 (cp p l[f + k].key))], [], []⟩) ⟨⟨rfl, rfl, rfl, by rw [ec]; rfl⟩, rfl, rfl⟩ ?_
          conv => whnf
          refine ss_hi hle ?_
          refine cutI (by decide) rfl (t := ⟨[(0, .lst sz (l.map Entry.av) c), (6, .str (pre2 p l[f + k].key)), (7, i64 ((f + k : Nat)))], [], []⟩) ⟨⟨rfl, rfl, rfl⟩, rfl, rfl⟩ ?_
          conv => whnf
          refine zI (z := ((f + (k + 1) : Nat) : Int)) (by rw [wrap_i64 (by omega) (by omega)]; omega) ?_
          refine nxI (k + 1, pre2 p l[f + k].key) ⟨by omega, hst, by simp only [pre2, List.length_take]; omega⟩ (by simp only; omega) ⟨⟨rfl, rfl, rfl⟩, rfl, rfl⟩
      · have ec := cp_end p l[f + k].key t (by omega) t3
        conv => whnf
        refine cutI (by decide) rfl (t := ⟨[(0, .lst sz (l.map Entry.av) c), (6, .str p), (7, i64 ((f + k : Nat))), (8, i64 (cp p l[f + k].key))], [], []⟩) ⟨⟨rfl, rfl, rfl, by rw [ec]; rfl⟩, rfl, rfl⟩ ?_
        conv => whnf
        refine ss_hi hle ?_
        refine cutI (by decide) rfl (t := ⟨[(0, .lst sz (l.map Entry.av) c), (6, .str (pre2 p l[f + k].key)), (7, i64 ((f + k : Nat)))], [], []⟩) ⟨⟨rfl, rfl, rfl⟩, rfl, rfl⟩ ?_
        conv => whnf
        refine zI (z := ((f + (k + 1) : Nat) : Int)) (by rw [wrap_i64 (by omega) (by omega)]; omega) ?_
        refine nxI (k + 1, pre2 p l[f + k].key) ⟨by omega, hst, by simp only [pre2, List.length_take]; omega⟩ (by simp only; omega) ⟨⟨rfl, rfl, rfl⟩, rfl, rfl⟩
    · have ec := cp_end p l[f + k].key t (by omega) t3
      conv => whnf
      refine cutI (by decide) rfl (t := ⟨[(0, .lst sz (l.map Entry.av) c), (6, .str p), (7, i64 ((f + k : Nat))), (8, i64 (cp p l[f + k].key))], [], []⟩) ⟨⟨rfl, rfl, rfl, by rw [ec]; rfl⟩, rfl, rfl⟩ ?_
      conv => whnf
      refine ss_hi hle ?_
      refine cutI (by decide) rfl (t := ⟨[(0, .lst sz (l.map Entry.av) c), (6, .str (pre2 p l[f + k].key)), (7, i64 ((f + k : Nat)))], [], []⟩) ⟨⟨rfl, rfl, rfl⟩, rfl, rfl⟩ ?_
      conv => whnf
      refine zI (z := ((f + (k + 1) : Nat) : Int)) (by rw [wrap_i64 (by omega) (by omega)]; omega) ?_
      refine nxI (k + 1, pre2 p l[f + k].key) ⟨by omega, hst, by simp only [pre2, List.length_take]; omega⟩ (by simp only; omega) ⟨⟨rfl, rfl, rfl⟩, rfl, rfl⟩
  · have hk : k = (tailE l lv).length := by simp only [List.length_map] at b; omega
    subst hk
    rw [List.take_length, shared_fold] at g2
    subst g2
    conv => whnf
    exact hE _ rfl
theorem refPrefix_eq (hn : 1 ≤ n) (l : List Entry) (hl : l.length < 1099511627776) (he : ∀ e ∈ l, e.Ok) (lv : Int) (hne : 0 < (tailE l lv).length) (sz : Nat) (hz : l ≠ [] → sz = 22) (c : Bool) : C n 114 [.lst sz (l.map Entry.av) c, i64 lv] h = some (.ret (.str (shared l lv)), h) := by
  obtain ⟨m, rfl⟩ : ∃ m, n = m + 1 := ⟨n - 1, by omega⟩
  have h0 : 0 < l.length := by
    have := tail_len l lv _ rfl
    omega
  refine fun_pure F114 rfl rfl rfl (pure_lst entry_pure l rfl) ?_
  conv => whnf
  refine brd (fun a => ?_) (fun a => ?_)
  · obtain ⟨hj, hat⟩ := tail_at hne 1 (by rw [if_pos a])
    conv => whnf
    refine ixL entry_cells (j := 1) hj hz ?_
    conv => whnf
    refine refPrefix_loop l hl he lv hne 1 (by rw [if_pos a]) sz hz c ⟨⟨rfl, ?_, rfl⟩, rfl, rfl⟩ (fun L hL => ?_)
    · rw [← head_at hne, hat]; rfl
    · refine cutI (by decide) rfl (t := ⟨[(6, .str (shared l lv))], [], []⟩) ⟨hL, rfl, rfl⟩ ?_
      conv => whnf
      exact retP rfl (frz_str rfl)
  · obtain ⟨hj, hat⟩ := tail_at hne 0 (by rw [if_neg a])
    conv => whnf
    refine ixL entry_cells (j := 0) h0 hz ?_
    conv => whnf
    refine refPrefix_loop l hl he lv hne 0 (by rw [if_neg a]) sz hz c ⟨⟨rfl, ?_, rfl⟩, rfl, rfl⟩ (fun L hL => ?_)
    · rw [← head_at hne, hat]; rfl
    · refine cutI (by decide) rfl (t := ⟨[(6, .str (shared l lv))], [], []⟩) ⟨hL, rfl, rfl⟩ ?_
      conv => whnf
      exact retP rfl (frz_str rfl)
theorem suffix_eq (hn : 2 ≤ n) (l : List Entry) (hl : l.length < 1099511627776) (he : ∀ e ∈ l, e.Ok) (lv : Int) (hne : 0 < (tailE l lv).length) (i : Nat) (hi : i < l.length) (sz : Nat) (hz : l ≠ [] → sz = 22) (c : Bool) : C n 150 [.lst sz (l.map Entry.av) c, i64 lv, i64 i] h = some (.ret (.str (if i = 0 ∧ 0 < lv then [] else l[i].key.drop (cutAt l lv i))), h) := by
  obtain ⟨m, rfl⟩ : ∃ m, n = m + 1 := ⟨n - 1, by omega⟩
  have cP := fun h => refPrefix_eq (n := m) (h := h) (by omega) l hl he lv hne sz hz c
  have tailw : ¬(i = 0 ∧ 0 < lv) → cutAt l lv i = (shared l lv).length := fun q => by unfold cutAt; rw [if_neg q]
  have hcut : cutAt l lv i ≤ l[i].key.length := cutAt_le hi
  refine fun_pure F150 rfl rfl rfl (pure_lst entry_pure l rfl) ?_
  conv => whnf
  refine brd (fun a => ?_) (fun a => ?_)
  · conv => whnf
    refine bre (fun b => ?_) (fun b => ?_)
    · conv => whnf
      refine retP rfl (frz_str ?_)
      rw [if_pos ⟨by omega, a⟩]
    · have q : ¬(i = 0 ∧ 0 < lv) := by omega
      rw [tailw q] at hcut
      conv => whnf
      refine ixL entry_cells hi hz ?_
      conv => whnf
      refine clI (cP _) ?_
      conv => whnf
      refine ss_lo hcut ?_
      conv => whnf
      refine retP rfl (frz_str ?_)
      rw [if_neg q, tailw q]
  · have q : ¬(i = 0 ∧ 0 < lv) := by omega
    rw [tailw q] at hcut
    conv => whnf
    refine ixL entry_cells hi hz ?_
    conv => whnf
    refine clI (cP _) ?_
    conv => whnf
    refine ss_lo hcut ?_
    conv => whnf
    refine retP rfl (frz_str ?_)
    rw [if_neg q, tailw q]
end
end Go.Proofs
/- Contracts: the reference's bytes of entries, weights. -/
set_option linter.unusedVariables false
set_option linter.unusedSimpArgs false
namespace Go.Proofs
open Go Go.Abs
theorem cell_res {L : LT} {h : AHeap} {k b t N f : Nat} {el : Option TypeId} {cs : List AV} (hk : lk L k = some (.ptr b 0 0)) (ht : (ti Tryz.prog t).map (fun d => (isAggD d.desc, d.size)) = some (true, N)) (hN : cs.length = N) (hb : h[b]? = some (.cells 0 el cs f)) : resAL Tryz.prog L h [.cell k t] = some [.agg cs] := by
  simp only [resAL, hk, load_agg ht hN hb]
theorem valid_suf {l : List Entry} {lv : Int} (hv : valid l lv = true) {i : Nat} (hi : i < l.length) : (if i = 0 ∧ 0 < lv then [] else l[i].key.drop (cutAt l lv i)) = l[i].key.drop (cutAt l lv i) := by
  split
  · rename_i q
    obtain ⟨rfl, q2⟩ := q
    obtain ⟨_, _, h3, _⟩ := valid_iff.1 hv
    rcases h3 with h3 | h3
    · omega
    · have : l[0].key = [] := by rw [← h3.2]; simp [keyAt, hi]
      rw [this]; simp
  · rfl
def weightA (l : List Entry) (lv : Int) : List AV := match weight l lv with
  | some n => [i64 n, i64 0]
  | none => [i64 0, i64 2]
section
variable {n : Nat} {h : AHeap}
theorem entries_bytes (hn : 3 ≤ n) (l : List Entry) (hl : l.length < 1099511627776) (lv : Int) (hv : valid l lv = true) (at' : Nat) (ha : at' < 1099511627776) (sz : Nat) (hz : l ≠ [] → sz = 22) (c : Bool) :
    C n 115 [.lst sz (l.map Entry.av) c, i64 lv, i64 at'] h = some (.ret (.str (shared l lv ++ (offsB l lv (at' + (shared l lv).length + 2 * l.length) l.length ++ entsB l lv l.length))), h) := by
  obtain ⟨m, rfl⟩ : ∃ m, n = m + 1 := ⟨n - 1, by omega⟩
  have hnn := valid_nn hv
  have he : ∀ e ∈ l, e.Ok := fun e h => by have := hnn e h; exact ⟨by omega, by omega⟩
  have hne := valid_tail hv
  have hsl := shared_len hv
  have hlv := (valid_iff.1 hv).1.1
  have cP := fun h => refPrefix_eq (n := m) (h := h) (by omega) l hl he lv hne sz hz c
  have cS := fun (i : Nat) (hi : i < l.length) h => (suffix_eq (n := m) (h := h) (by omega) l hl he lv hne i hi sz hz c).trans (by rw [valid_suf hv hi])
  have cN : ∀ (k w : Nat) (h : AHeap), k < 9223372036854775808 → w ≤ 8 → C m 64 [i64 k, i64 w] h = some (.ret (.str (num k w)), h) := fun k w h h2 h3 => refNumber_eq (by omega) k w h3 h2
  have cR := fun (i : Nat) (hi : i < l.length) h => rest_eq (n := m) (h := h) (by omega) l[i] lv hlv (valid_form hv hi).1
  refine fun_pure F115 rfl rfl rfl (pure_lst entry_pure l rfl) ?_
  conv => whnf
  refine clI (cP _) ?_
  conv => whnf
  refine zI (z := ((at' + (shared l lv).length : Nat) : Int)) (by rw [wrap_i64 (by omega) (by omega)]; rfl) ?_
  conv => whnf
  refine zI (z := ((2 * l.length : Nat) : Int)) (by rw [List.length_map, wrap_i64 (by omega) (by omega)]; rfl) ?_
  conv => whnf
  refine zI (z := ((at' + (shared l lv).length + 2 * l.length : Nat) : Int)) (by rw [wrap_i64 (by omega) (by omega)]; rfl) ?_
  conv => whnf
  refine loopI (by decide) rfl (α := Nat) (fun j => ⟨[(0, .lst sz (l.map Entry.av) c), (1, i64 lv), (2, i64 ((at' + (shared l lv).length + 2 * l.length : Nat))), (7, .str (shared l lv)), (8, .str (offsB l lv (at' + (shared l lv).length + 2 * l.length) j)), (9, .str (entsB l lv j)), (10, i64 j)], [], []⟩)
    (fun j => j ≤ l.length) (fun j => l.length - j) 0 ⟨⟨rfl, rfl, rfl, rfl, rfl, rfl, rfl⟩, rfl, rfl⟩ (Nat.zero_le _) (by show l.length - 0 < KK; simp only [KK]; omega) ?_
  intro j hj
  have hle := entsB_len hv j hj
  have hlo := offsB_len l lv (at' + (shared l lv).length + 2 * l.length) j
  conv => whnf
  refine brd (fun b => ?_) (fun b => ?_)
  · have hjl : j < l.length := by simp only [List.length_map] at b; omega
    have hb := restB_len l[j] lv
    have hnj := hnn _ (List.getElem_mem hjl)
    conv => whnf
    refine clI (cS j hjl _) ?_
    conv => whnf
    refine zI (z := ((at' + (shared l lv).length + 2 * l.length + (entsB l lv j).length : Nat) : Int)) (by rw [wrap_i64 (by omega) (by omega)]; rfl) ?_
    conv => whnf
    refine clI (cN _ 2 _ (by omega) (by omega)) ?_
    conv => whnf
    refine ⟨by rw [num_len]; omega, ?_⟩
    conv => whnf
    refine clI (cN (l[j].key.drop (cutAt l lv j)).length 1 _ (by rw [List.length_drop]; omega) (by omega)) ?_
    conv => whnf
    refine ⟨by rw [num_len]; omega, ?_⟩
    conv => whnf
    refine ⟨by simp only [List.length_append, num_len, List.length_drop]; omega, ?_⟩
    conv => whnf
    refine ixL entry_cells hjl hz ?_
    conv => whnf
    refine clI (cR j hjl _) ?_
    conv => whnf
    refine ⟨by simp only [List.length_append, num_len, List.length_drop]; omega, ?_⟩
    conv => whnf
    refine zI (z := ((j + 1 : Nat) : Int)) (by rw [wrap_i64 (by omega) (by omega)]; rfl) ?_
    refine nxI (j + 1) hjl (by omega) ⟨⟨rfl, rfl, rfl, rfl, ?_, ?_, rfl⟩, rfl, rfl⟩
    · rw [offsB_succ]; rfl
    · rw [entsB_succ l lv hjl]
      unfold entB
      rw [List.length_drop]
      simp only [List.append_assoc]
      rfl
  · have : j = l.length := by simp only [List.length_map] at b; omega
    subst this
    conv => whnf
    refine cutI (by decide) rfl (t := ⟨[(7, .str (shared l lv)), (8, .str (offsB l lv (at' + (shared l lv).length + 2 * l.length) l.length)), (9, .str (entsB l lv l.length))], [], []⟩) ⟨⟨rfl, rfl, rfl⟩, rfl, rfl⟩ ?_
    conv => whnf
    refine ⟨by omega, ?_⟩
    conv => whnf
    refine ⟨by rw [List.length_append]; omega, ?_⟩
    conv => whnf
    exact retP rfl (frz_str (by rw [List.append_assoc]))
end
end Go.Proofs
/- Contracts: the reference's weights, and what fits. -/
set_option linter.unusedVariables false
set_option linter.unusedSimpArgs false
namespace Go.Proofs
open Go Go.Abs
section
variable {n : Nat} {h : AHeap}
theorem refWeight_eq (hn : 3 ≤ n) (l : List Entry) (hl : l.length < 1099511627776) (he : ∀ e ∈ l, e.Ok) (lv : Int) (sz : Nat) (hz : l ≠ [] → sz = 22) (c : Bool) : C n 107 [.lst sz (l.map Entry.av) c, i64 lv] h = some (.ret (.agg (weightA l lv)), h) := by
  obtain ⟨m, rfl⟩ : ∃ m, n = m + 1 := ⟨n - 1, by omega⟩
  refine fun_pure F107 rfl rfl rfl (pure_lst entry_pure l rfl) ?_
  conv => whnf
  refine brd (fun a => ?_) (fun a => ?_)
  · conv => whnf
    refine stI (xs := [i64 0, i64 2]) (by rfl) (by rfl) (by rfl) (by rfl) (by rfl) ?_
    exact ⟨rfl, _, cell_res (el := some 92) (f := 0) (cs := [i64 0, i64 2]) (N := 2) (b := 0) rfl (by kernel_rfl) rfl rfl, by rw [show weightA l lv = [i64 0, i64 2] by unfold weightA weight; rw [if_neg (by simp [within]; omega)]]; rfl⟩
  conv => whnf
  refine brd (fun b => ?_) (fun b => ?_)
  · conv => whnf
    refine stI (xs := [i64 0, i64 2]) (by rfl) (by rfl) (by rfl) (by rfl) (by rfl) ?_
    exact ⟨rfl, _, cell_res (el := some 92) (f := 0) (cs := [i64 0, i64 2]) (N := 2) (b := 0) rfl (by kernel_rfl) rfl rfl, by rw [show weightA l lv = [i64 0, i64 2] by unfold weightA weight; rw [if_neg (by simp [within]; omega)]]; rfl⟩
  have W : within lv 0 20 = true := within_iff.2 (by omega)
  conv => whnf
  refine loopI (by decide) rfl (α := Nat × Int) (fun x => ⟨[(0, .lst sz (l.map Entry.av) c), (1, i64 lv), (4, .ptr 0 0 0), (5, i64 x.2), (6, i64 x.1)], [.cells 0 (some 92) [i64 0, i64 0] 0], []⟩)
    (fun x => x.1 ≤ l.length ∧ wsum lv (l.take x.1) = some (x.2 - 6) ∧ x.2 ≤ 6 + 117 * x.1 ∧ 6 ≤ x.2) (fun x => l.length - x.1) (0, 6) ⟨⟨rfl, rfl, rfl, rfl, rfl⟩, rfl, rfl⟩ (by simp [wsum]) (by show l.length - 0 < KK; simp only [KK]; omega) ?_
  rintro ⟨j, s⟩ ⟨g1, g2, g3, g4⟩
  simp only at g1 g2 g3 g4
  conv => whnf
  refine brd (fun b => ?_) (fun b => ?_)
  · have hj : j < l.length := by simp only [List.length_map] at b; omega
    have hw := wsum_take hj g2
    have hke := (he _ (List.getElem_mem hj))
    conv => whnf
    refine bre (fun z => ?_) (fun z => ?_)
    · subst z
      conv => whnf
      refine ixL entry_cells hj hz ?_
      conv => whnf
      refine clI (leafEntry_eq (by omega) l[j]) ?_
      conv => whnf
      refine brn (fun c1 => ?_) (fun c1 => ?_)
      · have hw := hw.trans (if_neg (by have : formOf l[j] = 0 := by simpa using c1
                                        simp [weighB, this]))
        conv => whnf
        refine stI (xs := [i64 0, i64 2]) (by rfl) (by rfl) (by rfl) (by rfl) (by rfl) ?_
        exact ⟨rfl, _, cell_res (el := some 92) (f := 0) (cs := [i64 0, i64 2]) (N := 2) (b := 0) rfl (by kernel_rfl) rfl rfl, by rw [show weightA l 0 = [i64 0, i64 2] by unfold weightA weight; rw [if_pos W, wsum_none hw]; rfl]; rfl⟩
      · have hvj : if (0 : Int) = 0 then formOf l[j] ≠ 0 else branches l[j] = true := by rw [if_pos rfl]; simpa using c1
        have hsum := restB_w (e := l[j]) (lv := 0) hvj (by omega)
        have hbd := weigh_bound hsum.1
        rw [if_pos hsum.1] at hw
        have hrl := restB_len l[j] 0
        conv => whnf
        refine zI (z := s + 2) (wrap_i64 (by omega) (by omega)) ?_
        conv => whnf
        refine zI (z := s + 2 + 1) (wrap_i64 (by omega) (by omega)) ?_
        conv => whnf
        refine ixL entry_cells hj hz ?_
        conv => whnf
        refine zI (z := s + 2 + 1 + l[j].key.length) (wrap_i64 (by omega) (by omega)) ?_
        conv => whnf
        refine ixL entry_cells hj hz ?_
        conv => whnf
        refine clI (rest_eq (by omega) l[j] 0 (by omega) hvj) ?_
        conv => whnf
        refine zI (z := s + weighW l[j] 0) (by rw [wrap_i64 (by omega) (by omega)]; omega) ?_
        conv => whnf
        refine zI (z := ((j + 1 : Nat) : Int)) (by rw [wrap_i64 (by omega) (by omega)]; rfl) ?_
        exact nxI (j + 1, s + weighW l[j] 0) ⟨hj, hw.trans (congrArg some (by simp only; omega)), by simp only; omega, by simp only; omega⟩ (by simp only; omega) ⟨⟨rfl, rfl, rfl, rfl, rfl⟩, rfl, rfl⟩
    · have zp : 0 < lv := by omega
      conv => whnf
      refine brd (fun _ => ?_) (fun q => absurd zp q)
      conv => whnf
      refine ixL entry_cells hj hz ?_
      conv => whnf
      refine clI (branchEntry_eq (by omega) l[j]) ?_
      conv => whnf
      refine brn (fun c1 => ?_) (fun c1 => ?_)
      · have hw := hw.trans (if_neg (by simp [weighB, zp, branch_split, c1]))
        conv => whnf
        refine stI (xs := [i64 0, i64 2]) (by rfl) (by rfl) (by rfl) (by rfl) (by rfl) ?_
        exact ⟨rfl, _, cell_res (el := some 92) (f := 0) (cs := [i64 0, i64 2]) (N := 2) (b := 0) rfl (by kernel_rfl) rfl rfl, by rw [show weightA l lv = [i64 0, i64 2] by unfold weightA weight; rw [if_pos W, wsum_none hw]; rfl]; rfl⟩
      · conv => whnf
        refine ixL entry_cells hj hz ?_
        conv => whnf
        refine brd (fun k2 => ?_) (fun k2 => ?_)
        · have hw := hw.trans (if_neg (by simp [weighB, zp, branch_split, c1]; omega))
          conv => whnf
          refine stI (xs := [i64 0, i64 2]) (by rfl) (by rfl) (by rfl) (by rfl) (by rfl) ?_
          exact ⟨rfl, _, cell_res (el := some 92) (f := 0) (cs := [i64 0, i64 2]) (N := 2) (b := 0) rfl (by kernel_rfl) rfl rfl, by rw [show weightA l lv = [i64 0, i64 2] by unfold weightA weight; rw [if_pos W, wsum_none hw]; rfl]; rfl⟩
        · have hvj : if lv = 0 then formOf l[j] ≠ 0 else branches l[j] = true := by rw [if_neg z, branch_split]; simp [c1]; omega
          have hsum := restB_w (e := l[j]) (lv := lv) hvj (by omega)
          have hbd := weigh_bound hsum.1
          rw [if_pos hsum.1] at hw
          have hrl := restB_len l[j] lv
          conv => whnf
          refine zI (z := s + 2) (wrap_i64 (by omega) (by omega)) ?_
          conv => whnf
          refine zI (z := s + 2 + 1) (wrap_i64 (by omega) (by omega)) ?_
          conv => whnf
          refine ixL entry_cells hj hz ?_
          conv => whnf
          refine zI (z := s + 2 + 1 + l[j].key.length) (wrap_i64 (by omega) (by omega)) ?_
          conv => whnf
          refine ixL entry_cells hj hz ?_
          conv => whnf
          refine clI (rest_eq (by omega) l[j] lv (by omega) hvj) ?_
          conv => whnf
          refine zI (z := s + weighW l[j] lv) (by rw [wrap_i64 (by omega) (by omega)]; omega) ?_
          conv => whnf
          refine zI (z := ((j + 1 : Nat) : Int)) (by rw [wrap_i64 (by omega) (by omega)]; rfl) ?_
          exact nxI (j + 1, s + weighW l[j] lv) ⟨hj, hw.trans (congrArg some (by simp only; omega)), by simp only; omega, by simp only; omega⟩ (by simp only; omega) ⟨⟨rfl, rfl, rfl, rfl, rfl⟩, rfl, rfl⟩
  · have : j = l.length := by simp only [List.length_map] at b; omega
    subst this
    rw [List.take_length] at g2
    conv => whnf
    refine cutI (by decide) rfl (t := ⟨[(4, .ptr 0 0 0), (5, i64 s)], [.cells 0 (some 92) [i64 0, i64 0] 0], []⟩) ⟨⟨rfl, rfl⟩, rfl, rfl⟩ ?_
    conv => whnf
    refine stI (xs := [i64 s, i64 0]) (by rfl) (by rfl) (by rfl) (by rfl) (by rfl) ?_
    refine ⟨rfl, _, cell_res (el := some 92) (f := 0) (cs := [i64 s, i64 0]) (N := 2) (b := 0) rfl (by kernel_rfl) rfl rfl, ?_⟩
    have : weightA l lv = [i64 s, i64 0] := by
      unfold weightA weight
      rw [if_pos W, g2]
      show [i64 (6 + (s - 6)), i64 0] = _
      rw [show 6 + (s - 6) = s by omega]
    rw [this]
    rfl
theorem refFits_eq (hn : 4 ≤ n) (l : List Entry) (hl : l.length < 1099511627776) (he : ∀ e ∈ l, e.Ok) (lv : Int) (sz : Nat) (hz : l ≠ [] → sz = 22) (c : Bool) : C n 52 [.lst sz (l.map Entry.av) c, i64 lv] h = some (.ret (.bool (fits l lv)), h) := by
  obtain ⟨m, rfl⟩ : ∃ m, n = m + 1 := ⟨n - 1, by omega⟩
  have cV := fun h => refValid_eq (n := m) (h := h) (by omega) l hl lv sz hz c
  have cW := fun h => refWeight_eq (n := m) (h := h) (by omega) l hl he lv sz hz c
  refine fun_pure F52 rfl rfl rfl (pure_lst entry_pure l rfl) ?_
  conv => whnf
  refine clI (cV _) ?_
  conv => whnf
  refine br (fun a => ?_) (fun a => ?_)
  · conv => whnf
    refine clI (cW _) ?_
    unfold weightA
    cases hw : weight l lv with
    | none =>
      obtain ⟨w, h2⟩ := valid_weight a
      rw [hw] at h2; cases h2
    | some w =>
      conv => whnf
      refine retP rfl (frz_bool ?_)
      simp [fits, a, hw]
  · conv => whnf
    refine retP rfl (frz_bool ?_)
    simp [fits, a]
end
end Go.Proofs
/- Contracts: the reference's lists of freed pages. -/
set_option linter.unusedVariables false
set_option linter.unusedSimpArgs false
namespace Go.Proofs
open Go Go.Abs
section
variable {n : Nat} {h : AHeap}
theorem flag_eq (hn : 1 ≤ n) (b : Bool) : C n 113 [.bool b] h = some (.ret (i64 (if b then 1 else 0)), h) := by
  obtain ⟨m, rfl⟩ : ∃ m, n = m + 1 := ⟨n - 1, by omega⟩
  refine fun_pure F113 rfl rfl rfl rfl ?_
  conv => whnf
  refine br (fun a => ?_) (fun a => ?_)
  · conv => whnf
    exact retP rfl (frz_int (by rw [a]; rfl))
  · conv => whnf
    exact retP rfl (frz_int (by rw [a]; rfl))
theorem refpgs_loop {m : Nat} (hm : 1 ≤ m) (l : List Int) (hl : l.length < 9223372036854775808) (sz : Nat) (hz : l ≠ [] → sz = 1) (c : Bool) (f : Freed) (hf : f = ⟨f.ver, ⟨sz, c⟩, l⟩) {hp : AHeap} {E : Nat} (hE0 : hp[E]? = some (.cells 0 (some 165) f.cells 0)) {Q : Ex → LS → Prop} {s : LS} (v0 v3 : AV)
    (hs : LS.sub ⟨[(0, v0), (3, v3), (4, .ptr E 0 0), (5, i64 0)], hp, []⟩ s)
    (hE : pgsOk l = true → ∀ L, subL [(0, v0), (3, v3)] L → Q (.exit 2) ⟨L, hp, []⟩) (hR : pgsOk l = false → ∀ L, lk L 2 = some (.bool false) → Q .ret ⟨L, hp, []⟩) :
    OkR Tryz.prog (C m) cfg0.inl KK 77 7 (.loop (c53.lp 1)) s Q := by
  refine loopI (by decide) rfl (α := Nat) (fun x => ⟨[(0, v0), (3, v3), (4, .ptr E 0 0), (5, i64 x)], hp, []⟩) (fun x => x ≤ l.length ∧ ∀ i, i < x → pgAt l i = true) (fun x => l.length - x) 0 hs ⟨Nat.zero_le _, fun i hi => absurd hi (Nat.not_lt_zero _)⟩ (by show l.length - 0 < KK; simp only [KK]; omega) ?_
  rintro j ⟨g1, g2⟩
  have e0 : f.cells = [i64 f.ver, .lst sz (l.map i64) c] := by rw [hf]; rfl
  rw [e0] at hE0
  conv => whnf
  refine ldI hE0 ?_
  conv => whnf
  refine brd (fun a => ?_) (fun a => ?_)
  · have hj : j < l.length := by rw [List.length_map] at a; omega
    conv => whnf
    refine ldI hE0 ?_
    conv => whnf
    refine ⟨by omega, hz (fun e => by subst e; simp at hj), i64 l[j], by simp [hj], [i64 l[j]], rfl, ?_⟩
    conv => whnf
    refine clI (isPage_eq (by omega) _) ?_
    conv => whnf
    refine brn (fun b => ?_) (fun b => ?_)
    · conv => whnf
      exact hR (all_bad hj (by rw [pgAt_unf hj]; simp [b])) _ rfl
    · conv => whnf
      refine brd (fun d => ?_) (fun d => ?_)
      · have hj1 : j - 1 < l.length := by omega
        have hj0 : j ≠ 0 := by omega
        conv => whnf
        refine ldI hE0 ?_
        conv => whnf
        refine ⟨by omega, hz (fun e => by subst e; simp at hj), i64 l[j], by simp [hj], [i64 l[j]], rfl, ?_⟩
        conv => whnf
        refine ldI hE0 ?_
        conv => whnf
        refine zI (z := ((j - 1 : Nat) : Int)) (by rw [wrap_i64 (by omega) (by omega)]; omega) ?_
        conv => whnf
        refine ⟨by omega, hz (fun e => by subst e; simp at hj), i64 l[j - 1], by simp [hj1], [i64 l[j - 1]], rfl, ?_⟩
        conv => whnf
        refine brd (fun e => ?_) (fun e => ?_)
        · conv => whnf
          exact hR (all_bad hj (by rw [pgAt_unf hj]; simp [hj0]; omega)) _ rfl
        · conv => whnf
          refine zI (z := ((j + 1 : Nat) : Int)) (by rw [wrap_i64 (by omega) (by omega)]; rfl) ?_
          exact nxI (j + 1) ⟨hj, all_next g2 (by rw [pgAt_unf hj]; simp [b]; omega)⟩ (by omega) ⟨⟨rfl, rfl, rfl, rfl⟩, rfl, rfl⟩
      · have hj0 : j = 0 := by omega
        conv => whnf
        refine zI (z := ((j + 1 : Nat) : Int)) (by rw [wrap_i64 (by omega) (by omega)]; rfl) ?_
        exact nxI (j + 1) ⟨hj, all_next g2 (by rw [pgAt_unf hj, b]; simp [hj0])⟩ (by omega) ⟨⟨rfl, rfl, rfl, rfl⟩, rfl, rfl⟩
  · have hj : j = l.length := by rw [List.length_map] at a; omega
    subst hj
    conv => whnf
    exact hE (all_good g2) _ ⟨rfl, rfl⟩
theorem refFreed_eq (hn : 2 ≤ n) (l : List Freed) (hl : l.length < 1048576) (hf : ∀ f ∈ l, f.Ok ∧ f.pages.length < 9223372036854775808) (sz : Nat) (hz : l ≠ [] → sz = 2) (c : Bool) : C n 53 [.lst sz (l.map Freed.av) c] h = some (.ret (.bool (freedOk l)), h) := by
  obtain ⟨m, rfl⟩ : ∃ m, n = m + 1 := ⟨n - 1, by omega⟩
  refine fun_pure F53 rfl rfl rfl (pure_lst freed_pure l rfl) ?_
  conv => whnf
  refine loopI (by decide) rfl (α := Nat × AHeap) (fun x => ⟨[(0, .lst sz (l.map Freed.av) c), (3, i64 x.1)], x.2, []⟩) (fun x => x.1 ≤ l.length ∧ ∀ i, i < x.1 → frAt l i = true) (fun x => l.length - x.1) (0, []) ⟨⟨rfl, rfl⟩, rfl, rfl⟩ ⟨Nat.zero_le _, fun i hi => absurd hi (Nat.not_lt_zero _)⟩ (by show l.length - 0 < KK; simp only [KK]; omega) ?_
  rintro ⟨j, hp⟩ ⟨g1, g2⟩
  simp only at g1 g2
  conv => whnf
  refine brd (fun a => ?_) (fun a => ?_)
  · have hj : j < l.length := by simp only [List.length_map] at a; omega
    obtain ⟨k1, k2⟩ := hf _ (List.getElem_mem hj)
    conv => whnf
    refine ixL freed_cells hj hz ?_
    conv => whnf
    refine stI (get_last _ _) (by rfl) (by rfl) (by rfl) (by rfl) ?_
    conv => whnf
    refine ldI (get_set_last _ _ _) ?_
    conv => whnf
    refine brd (fun v1 => ?_) (fun v1 => ?_)
    · have v' : within l[j].ver 0 1099511627776 = false := by simp [within]; omega
      conv => whnf
      exact retP rfl (frz_bool (all_bad hj (by rw [frAt_unf hj]; simp [v'])).symm)
    conv => whnf
    refine ldI (get_set_last _ _ _) ?_
    conv => whnf
    refine brd (fun v2 => ?_) (fun v2 => ?_)
    · have v' : within l[j].ver 0 1099511627776 = false := by simp [within]; omega
      conv => whnf
      exact retP rfl (frz_bool (all_bad hj (by rw [frAt_unf hj]; simp [v'])).symm)
    have W : within l[j].ver 0 1099511627776 = true := within_iff.2 (by omega)
    conv => whnf
    refine brd (fun b => ?_) (fun b => ?_)
    · have hj1 : j - 1 < l.length := by simp only at b; omega
      have hj0 : j ≠ 0 := by simp only at b; omega
      conv => whnf
      refine ldI (get_set_last _ _ _) ?_
      conv => whnf
      refine zI (z := ((j - 1 : Nat) : Int)) (by simp only at b; rw [wrap_i64 (by simp only; omega) (by simp only; omega)]; simp only; omega) ?_
      conv => whnf
      refine ixL (l := l) (j := j - 1) freed_cells hj1 hz ?_
      conv => whnf
      refine brd (fun e => ?_) (fun e => ?_)
      · have e' : ¬ l[j - 1].ver < l[j].ver := by omega
        conv => whnf
        exact retP rfl (frz_bool (all_bad hj (by rw [frAt_unf hj]; simp [e', hj0])).symm)
      · have hord : (decide (j = 0) || decide (l[j - 1].ver < l[j].ver)) = true := by simp; omega
        conv => whnf
        refine ldI (get_set_last _ _ _) ?_
        conv => whnf
        refine bre (fun d => ?_) (fun d => ?_)
        · have d' : l[j].pages = [] := List.length_eq_zero_iff.1 (by rw [List.length_map] at d; omega)
          conv => whnf
          exact retP rfl (frz_bool (all_bad hj (by rw [frAt_unf hj]; simp [d'])).symm)
        · have d' : l[j].pages ≠ [] := by
            intro q
            rw [q] at d
            exact d rfl
          conv => whnf
          refine refpgs_loop (by omega) l[j].pages k2 l[j].sh.sz k1 l[j].sh.c l[j] rfl (get_set_last _ _ _) (.lst sz (l.map Freed.av) c) (i64 j) ⟨⟨rfl, rfl, rfl, rfl⟩, rfl, rfl⟩ (fun q L hL => ?_) (fun q L hk => ?_)
          · refine cutI (by decide) rfl (t := ⟨[(0, .lst sz (l.map Freed.av) c), (3, i64 j)], _, []⟩) ⟨hL, rfl, rfl⟩ ?_
            conv => whnf
            refine zI (z := ((j + 1 : Nat) : Int)) (by rw [wrap_i64 (by omega) (by omega)]; rfl) ?_
            refine nxI (j + 1, _) ⟨hj, all_next g2 (by rw [frAt_unf hj, q, W, hord]; simp [d'])⟩ (by simp only; omega) ⟨⟨rfl, rfl⟩, rfl, rfl⟩
          · exact retK hk (frz_bool (all_bad hj (by rw [frAt_unf hj, q]; simp)).symm)
    · have hj0 : j = 0 := by simp only at b; omega
      have hord : (decide (j = 0) || decide (l[j - 1].ver < l[j].ver)) = true := by simp [hj0]
      conv => whnf
      refine ldI (get_set_last _ _ _) ?_
      conv => whnf
      refine bre (fun d => ?_) (fun d => ?_)
      · have d' : l[j].pages = [] := List.length_eq_zero_iff.1 (by rw [List.length_map] at d; omega)
        conv => whnf
        exact retP rfl (frz_bool (all_bad hj (by rw [frAt_unf hj]; simp [d'])).symm)
      · have d' : l[j].pages ≠ [] := by
          intro q
          rw [q] at d
          exact d rfl
        conv => whnf
        refine refpgs_loop (by omega) l[j].pages k2 l[j].sh.sz k1 l[j].sh.c l[j] rfl (get_set_last _ _ _) (.lst sz (l.map Freed.av) c) (i64 j) ⟨⟨rfl, rfl, rfl, rfl⟩, rfl, rfl⟩ (fun q L hL => ?_) (fun q L hk => ?_)
        · refine cutI (by decide) rfl (t := ⟨[(0, .lst sz (l.map Freed.av) c), (3, i64 j)], _, []⟩) ⟨hL, rfl, rfl⟩ ?_
          conv => whnf
          refine zI (z := ((j + 1 : Nat) : Int)) (by rw [wrap_i64 (by omega) (by omega)]; rfl) ?_
          refine nxI (j + 1, _) ⟨hj, all_next g2 (by rw [frAt_unf hj, q, W, hord]; simp [d'])⟩ (by simp only; omega) ⟨⟨rfl, rfl⟩, rfl, rfl⟩
        · exact retK hk (frz_bool (all_bad hj (by rw [frAt_unf hj, q]; simp)).symm)
  · have hj : j = l.length := by simp only [List.length_map] at a; omega
    subst hj
    conv => whnf
    refine cutI (by decide) rfl (t := ⟨[], hp, []⟩) ⟨trivial, rfl, rfl⟩ ?_
    conv => whnf
    exact retP rfl (frz_bool (all_good g2).symm)
theorem words_bound : ∀ (l : List Freed), (∀ f ∈ l, f.pages.length < 1048576) → 0 ≤ wordsN l ∧ wordsN l ≤ 1048578 * l.length
  | [], _ => by simp [wordsN]
  | f :: r, h => by
    have h1 := words_bound r fun x hx => h x (List.mem_cons_of_mem _ hx)
    have h2 := h f (List.mem_cons_self ..)
    simp only [wordsN, List.map_cons, List.sum_cons, List.length_cons] at h1 ⊢
    omega
theorem words_eq (hn : 1 ≤ n) (l : List Freed) (hl : l.length < 1048576) (hf : ∀ f ∈ l, f.pages.length < 1048576) (sz : Nat) (hz : l ≠ [] → sz = 2) (c : Bool) : C n 54 [.lst sz (l.map Freed.av) c] h = some (.ret (i64 (wordsN l)), h) := by
  obtain ⟨m, rfl⟩ : ∃ m, n = m + 1 := ⟨n - 1, by omega⟩
  refine fun_pure F54 rfl rfl rfl (pure_lst freed_pure l rfl) ?_
  conv => whnf
  refine loopI (by decide) rfl (α := Nat) (fun x => ⟨[(0, .lst sz (l.map Freed.av) c), (3, i64 (wordsN (l.take x))), (4, i64 x)], [], []⟩) (fun x => x ≤ l.length) (fun x => l.length - x) 0 ⟨⟨rfl, rfl, rfl⟩, rfl, rfl⟩ (Nat.zero_le _) (by show l.length - 0 < KK; simp only [KK]; omega) ?_
  intro j g1
  conv => whnf
  refine brd (fun a => ?_) (fun a => ?_)
  · have hj : j < l.length := by simp only [List.length_map] at a; omega
    have k2 := hf _ (List.getElem_mem hj)
    have hb := words_bound (l.take j) fun f h => hf f (List.mem_of_mem_take h)
    rw [List.length_take] at hb
    have el : ((l[j].pages.map i64).length : Int) = (l[j].pages.length : Int) := by rw [List.length_map]
    conv => whnf
    refine zI (z := wordsN (l.take j) + 2) (wrap_i64 (by omega) (by omega)) ?_
    conv => whnf
    refine ixL freed_cells hj hz ?_
    conv => whnf
    refine zI (z := wordsN (l.take (j + 1))) (by rw [words_take l hj, el, wrap_i64 (by omega) (by omega)]; omega) ?_
    conv => whnf
    refine zI (z := ((j + 1 : Nat) : Int)) (by rw [wrap_i64 (by omega) (by omega)]; rfl) ?_
    exact nxI (j + 1) hj (by omega) ⟨⟨rfl, rfl, rfl⟩, rfl, rfl⟩
  · have hj : j = l.length := by simp only [List.length_map] at a; omega
    subst hj
    conv => whnf
    refine cutI (by decide) rfl (t := ⟨[(3, i64 (wordsN l))], [], []⟩) ⟨by rw [List.take_length]; rfl, rfl, rfl⟩ ?_
    conv => whnf
    exact retP rfl (frz_int rfl)
end
end Go.Proofs
/- Contracts: the reference's validity of pages. -/
set_option linter.unusedVariables false
set_option linter.unusedSimpArgs false
namespace Go.Proofs
open Go Go.Abs
/-- All fields but those of its kind are zero. -/
def rplain (p : Page) : Bool := (if p.kind = 1 ∨ p.kind = 2 then p.next == 0 else p.plain) && ((p.kind == 3 || p.data == []) && (p.kind == 4 || (p.freed.length : Int) == 0))
theorem check_no {p : Page} (h : numbered p.no = false) : p.check = false := by unfold Page.check; rw [h]; rfl
theorem check_ver {p : Page} (h : within p.ver 0 1099511627776 = false) : p.check = false := by unfold Page.check; rw [h]; simp
theorem check_plain {p : Page} (h : rplain p = false) : p.check = false := by
  rw [← Bool.not_eq_true, check_iff]
  rintro ⟨_, _, ⟨hk, _, _, _, a, b, c⟩ | ⟨hk, a, _, _, c⟩ | ⟨hk, a, _, b, _⟩⟩
  · unfold rplain at h
    rw [if_pos hk, a, b, c] at h
    simp at h
  · unfold rplain at h
    rw [if_neg (by omega), a, hk, c] at h
    simp at h
  · unfold rplain at h
    rw [if_neg (by omega), a, hk, b] at h
    simp at h
theorem check_node {p : Page} (h1 : numbered p.no = true) (h2 : within p.ver 0 1099511627776 = true) (hp : rplain p = true) (hk : p.kind = 1 ∨ p.kind = 2) : p.check = (((p.kind == 1) == (p.level == 0)) && (within p.tree 0 255 && fits p.entries p.level)) := by
  unfold Page.check
  unfold rplain at hp
  have k3 : (p.kind == 3) = false := by simp; omega
  have k4 : (p.kind == 4) = false := by simp; omega
  rw [if_pos hk, k3, k4] at hp
  simp only [Bool.and_eq_true, Bool.false_or] at hp
  obtain ⟨a, b, c⟩ := hp
  rw [h1, h2, if_pos hk, a, b, c]
  simp only [Bool.true_and, Bool.and_true]
  cases within p.tree 0 255 <;> cases ((p.kind == 1) == (p.level == 0)) <;> rfl
theorem check_piece {p : Page} (h1 : numbered p.no = true) (h2 : within p.ver 0 1099511627776 = true) (hp : rplain p = true) (hk : p.kind = 3) : p.check = (linked p.next && within p.data.length 1 490) := by
  unfold Page.check
  unfold rplain at hp
  have k4 : (p.kind == 4) = false := by simp; omega
  rw [if_neg (by omega), k4] at hp
  simp only [Bool.and_eq_true, Bool.false_or] at hp
  obtain ⟨a, b, c⟩ := hp
  rw [h1, h2, if_neg (by omega), if_pos hk, a, c]
  simp
theorem check_list {p : Page} (h1 : numbered p.no = true) (h2 : within p.ver 0 1099511627776 = true) (hp : rplain p = true) (hk : p.kind = 4) : p.check = (linked p.next && (freedOk p.freed && decide (listed p.freed ≤ 496))) := by
  unfold Page.check
  unfold rplain at hp
  have k3 : (p.kind == 3) = false := by simp; omega
  rw [if_neg (by omega), k3] at hp
  simp only [Bool.and_eq_true, Bool.false_or] at hp
  obtain ⟨a, b, c⟩ := hp
  rw [h1, h2, if_neg (by omega), if_neg (by omega), if_pos hk, a, b]
  simp
theorem check_other {p : Page} (hk : ¬(p.kind = 1 ∨ p.kind = 2)) (h3 : p.kind ≠ 3) (h4 : p.kind ≠ 4) : p.check = false := by
  unfold Page.check
  rw [if_neg hk, if_neg h3, if_neg h4]
  simp
section
variable {n : Nat} {h : AHeap}
theorem rplain_eq (hn : 1 ≤ n) (p : Page) : C n 51 [p.av] h = some (.ret (.bool (rplain p)), h) := by
  obtain ⟨m, rfl⟩ : ∃ m, n = m + 1 := ⟨n - 1, by omega⟩
  refine fun_pure F51 rfl rfl rfl (by simp [pureBs, page_pure]) ?_
  repeat' (conv => whnf); first
    | refine retP rfl (frz_bool ?_)
    | refine brd (fun _ => ?_) (fun _ => ?_)
    | refine bre (fun _ => ?_) (fun _ => ?_)
    | refine brq (fun _ => ?_) (fun _ => ?_)
    | refine brn (fun _ => ?_) (fun _ => ?_)
    | refine br (fun _ => ?_) (fun _ => ?_)
    | refine ldI (by rfl) ?_
    | refine ldI (get_set_last _ _ _) ?_
    | refine ldI (get_last _ _) ?_
    | refine stI (by rfl) (by rfl) (by rfl) (by rfl) (by rfl) ?_
    | refine stI (get_last _ _) (by rfl) (by rfl) (by rfl) (by rfl) ?_
    | refine cutS (by decide) rfl ?_
  all_goals simp_all [rplain, Page.plain]
  all_goals first | omega | (intro q; simp_all)
theorem rlist_eq (hn : 2 ≤ n) (l : List Freed) (hl : l.length ≤ 496) (hk : freedOk l = true) (hf : ∀ f ∈ l, f.Ok ∧ f.pages.length < 1048576) (sz : Nat) (hz : l ≠ [] → sz = 2) (c : Bool) : C n 55 [.lst sz (l.map Freed.av) c] h = some (.ret (.str (num l.length 2 ++ freedsB l)), h) := by
  obtain ⟨m, rfl⟩ : ∃ m, n = m + 1 := ⟨n - 1, by omega⟩
  have cN : ∀ (k : Int) (w : Nat) (h : AHeap), 0 ≤ k → k < 9223372036854775808 → w ≤ 8 → C m 64 [i64 k, i64 w] h = some (.ret (.str (num k.toNat w)), h) := fun k w h h1 h2 h3 => by
    have := refNumber_eq (n := m) (h := h) (by omega) k.toNat w h3 (by omega)
    rwa [show ((k.toNat : Nat) : Int) = k by omega] at this
  have hle : ∀ j, j ≤ l.length → (freedsB (l.take j)).length ≤ 4194312 * j := fun j hj => by
    have h1 := freedsB_len (l.take j)
    have h2 := listed_bound (l.take j) fun f h => (hf f (List.mem_of_mem_take h)).2
    rw [List.length_take] at h2
    omega
  refine fun_pure F55 rfl rfl rfl (pure_lst freed_pure l rfl) ?_
  conv => whnf
  refine clI (by rw [List.length_map]; exact cN l.length 2 _ (by omega) (by omega) (by omega)) ?_
  conv => whnf
  refine loopI (by decide) rfl (α := Nat) (fun x => ⟨[(0, .lst sz (l.map Freed.av) c), (3, .str (num l.length 2 ++ freedsB (l.take x))), (4, i64 x)], [], []⟩) (fun x => x ≤ l.length) (fun x => l.length - x) 0 ⟨⟨rfl, by simp [freedsB]; rfl, rfl⟩, rfl, rfl⟩ (Nat.zero_le _) (by show l.length - 0 < KK; simp only [KK]; omega) ?_
  intro j g1
  have hlj := hle j g1
  conv => whnf
  refine brd (fun a => ?_) (fun a => ?_)
  · have hj : j < l.length := by simp only [List.length_map] at a; omega
    obtain ⟨k1, k2⟩ := hf _ (List.getElem_mem hj)
    obtain ⟨v1, _, _, p1⟩ := freedOk_at hk hj
    have hnn : ∀ k (hk : k < l[j].pages.length), 2 ≤ (l[j].pages[k]) ∧ l[j].pages[k] ≤ 4095 := fun k hk => (pgsOk_at p1 hk).1
    conv => whnf
    refine ixL freed_cells hj hz ?_
    conv => whnf
    refine clI (cN l[j].ver 6 _ (by omega) (by omega) (by omega)) ?_
    conv => whnf
    refine ⟨by simp only [List.length_append, num_len]; omega, ?_⟩
    conv => whnf
    refine ixL freed_cells hj hz ?_
    conv => whnf
    refine clI (by rw [List.length_map]; exact cN l[j].pages.length 2 _ (by omega) (by omega) (by omega)) ?_
    conv => whnf
    refine ⟨by simp only [List.length_append, num_len]; omega, ?_⟩
    conv => whnf
    refine loopI (by decide) rfl (α := Nat) (fun x => ⟨[(0, .lst sz (l.map Freed.av) c), (3, .str (((num l.length 2 ++ freedsB (l.take j)) ++ num l[j].ver.toNat 6) ++ num l[j].pages.length 2 ++ pagesB (l[j].pages.take x))), (4, i64 j), (5, i64 x)], [], []⟩) (fun x => x ≤ l[j].pages.length) (fun x => l[j].pages.length - x) 0 ⟨⟨rfl, by simp [pagesB]; rfl, rfl, rfl⟩, rfl, rfl⟩ (Nat.zero_le _) (by show l[j].pages.length - 0 < KK; simp only [KK]; omega) ?_
    intro k gk
    have hpl := pagesB_len (l[j].pages.take k)
    rw [List.length_take] at hpl
    conv => whnf
    refine ixL freed_cells hj hz ?_
    conv => whnf
    refine brd (fun b => ?_) (fun b => ?_)
    · have hkl : k < l[j].pages.length := by simp only [List.length_map] at b; omega
      have hnk := hnn k hkl
      conv => whnf
      refine ixL freed_cells hj hz ?_
      conv => whnf
      refine ⟨by omega, k1 (fun e => by rw [e] at hkl; simp at hkl), i64 l[j].pages[k], by simp [hkl], [i64 l[j].pages[k]], rfl, ?_⟩
      conv => whnf
      refine clI (cN l[j].pages[k] 4 _ (by omega) (by omega) (by omega)) ?_
      conv => whnf
      refine ⟨by simp only [List.length_append, num_len]; omega, ?_⟩
      conv => whnf
      refine zI (z := ((k + 1 : Nat) : Int)) (by rw [wrap_i64 (by omega) (by omega)]; rfl) ?_
      exact nxI (k + 1) hkl (by omega) ⟨⟨rfl, by rw [pagesB_take _ _ hkl, ← List.append_assoc]; rfl, rfl, rfl⟩, rfl, rfl⟩
    · have hkl : k = l[j].pages.length := by simp only [List.length_map] at b; omega
      subst hkl
      conv => whnf
      refine cutI (by decide) rfl (t := ⟨[(0, .lst sz (l.map Freed.av) c), (3, .str (num l.length 2 ++ freedsB (l.take (j + 1)))), (4, i64 j)], [], []⟩) ⟨⟨rfl, by rw [freedsB_take _ _ hj, List.take_length]; unfold freedB; simp only [List.append_assoc]; rfl, rfl⟩, rfl, rfl⟩ ?_
      conv => whnf
      refine zI (z := ((j + 1 : Nat) : Int)) (by rw [wrap_i64 (by omega) (by omega)]; rfl) ?_
      exact nxI (j + 1) hj (by omega) ⟨⟨rfl, rfl, rfl⟩, rfl, rfl⟩
  · have hj : j = l.length := by simp only [List.length_map] at a; omega
    subst hj
    conv => whnf
    refine cutI (by decide) rfl (t := ⟨[(3, .str (num l.length 2 ++ freedsB l))], [], []⟩) ⟨by rw [List.take_length]; rfl, rfl, rfl⟩ ?_
    conv => whnf
    exact retP rfl (frz_str rfl)
theorem refIsPage_eq (hn : 6 ≤ n) (p : Page) (ok : p.Ok) : C n 11 [p.av] h = some (.ret (.bool p.check), h) := by
  obtain ⟨m, rfl⟩ : ∃ m, n = m + 1 := ⟨n - 1, by omega⟩
  have cN : ∀ h, C m 50 [i64 p.no] h = some (.ret (.bool (numbered p.no)), h) := fun h => isPage_eq (by omega) _
  have cX : ∀ h, C m 50 [i64 p.next] h = some (.ret (.bool (numbered p.next)), h) := fun h => isPage_eq (by omega) _
  have cP : ∀ h, C m 51 [p.av] h = some (.ret (.bool (rplain p)), h) := fun h => rplain_eq (by omega) p
  have cF : ∀ h, C m 52 [.lst p.esh.sz (p.entries.map Entry.av) p.esh.c, i64 p.level] h = some (.ret (.bool (fits p.entries p.level)), h) := fun h => refFits_eq (by omega) _ ok.elen ok.ent _ _ ok.esz _
  have cR : ∀ h, C m 53 [.lst p.fsh.sz (p.freed.map Freed.av) p.fsh.c] h = some (.ret (.bool (freedOk p.freed)), h) := fun h => refFreed_eq (by omega) _ ok.flen ok.fr _ ok.fsz _
  have lbl := listed_len p.freed
  have wl := words_le p.freed
  refine fun_pure F11 rfl rfl rfl (by simp [pureBs, page_pure]) ?_
  conv => whnf
  refine ldI (by rfl) ?_
  conv => whnf
  refine brd (fun v1 => ?_) (fun v1 => ?_)
  · conv => whnf
    exact retP rfl (frz_bool (check_ver (by simp [within]; omega)).symm)
  conv => whnf
  refine ldI (by rfl) ?_
  conv => whnf
  refine brd (fun v2 => ?_) (fun v2 => ?_)
  · conv => whnf
    exact retP rfl (frz_bool (check_ver (by simp [within]; omega)).symm)
  have W : within p.ver 0 1099511627776 = true := within_iff.2 (by omega)
  conv => whnf
  refine ldI (by rfl) ?_
  conv => whnf
  refine clI (cN _) ?_
  conv => whnf
  refine brn (fun a1 => ?_) (fun a1 => ?_)
  · conv => whnf
    exact retP rfl (frz_bool (check_no a1).symm)
  conv => whnf
  refine ldI (by rfl) ?_
  conv => whnf
  refine clI (cP _) ?_
  conv => whnf
  refine brn (fun a2 => ?_) (fun a2 => ?_)
  · conv => whnf
    exact retP rfl (frz_bool (check_plain a2).symm)
  conv => whnf
  refine ldI (by rfl) ?_
  conv => whnf
  refine bre (fun k1 => ?_) (fun k1 => ?_)
  · have hk : p.kind = 1 ∨ p.kind = 2 := .inl k1
    conv => whnf
    refine ldI (by rfl) ?_
    conv => whnf
    refine ldI (by rfl) ?_
    conv => whnf
    refine eqI (eq_bool (p.kind == 1) (p.level == 0)) ?_
    conv => whnf
    refine br (fun b1' => ?_) (fun b1' => ?_)
    · have b1 : ((p.kind == 1) == (p.level == 0)) = true := b1'
      conv => whnf
      refine ldI (by rfl) ?_
      conv => whnf
      refine brd (fun t1 => ?_) (fun t1 => ?_)
      · conv => whnf
        refine ldI (by rfl) ?_
        conv => whnf
        refine brd (fun t2 => ?_) (fun t2 => ?_)
        · have T : within p.tree 0 255 = true := within_iff.2 (by omega)
          conv => whnf
          refine ldI (by rfl) ?_
          conv => whnf
          refine brd (fun d => ?_) (fun d => ?_)
          · conv => whnf
            refine ldI (by rfl) ?_
            conv => whnf
            refine ldI (by rfl) ?_
            conv => whnf
            refine clI (cF _) ?_
            conv => whnf
            exact retP rfl (frz_bool (by rw [check_node a1 W a2 hk, b1, T]; rfl))
          · have hf : fits p.entries p.level = false := by
              rw [← Bool.not_eq_true]
              intro q
              have := (nodeB_len (tree := 0) (top := true) (base := 12) q).2.2
              rw [List.length_map] at d
              omega
            conv => whnf
            exact retP rfl (frz_bool (by rw [check_node a1 W a2 hk, hf]; simp))
        · conv => whnf
          exact retP rfl (frz_bool (by rw [check_node a1 W a2 hk, show within p.tree 0 255 = false by simp [within]; omega]; simp))
      · conv => whnf
        exact retP rfl (frz_bool (by rw [check_node a1 W a2 hk, show within p.tree 0 255 = false by simp [within]; omega]; simp))
    · have b1 : ((p.kind == 1) == (p.level == 0)) = false := b1'
      conv => whnf
      exact retP rfl (frz_bool (by rw [check_node a1 W a2 hk, b1]; rfl))
  conv => whnf
  refine bre (fun k2 => ?_) (fun k2 => ?_)
  · have hk : p.kind = 1 ∨ p.kind = 2 := .inr k2
    conv => whnf
    refine ldI (by rfl) ?_
    conv => whnf
    refine ldI (by rfl) ?_
    conv => whnf
    refine eqI (eq_bool (p.kind == 1) (p.level == 0)) ?_
    conv => whnf
    refine br (fun b1' => ?_) (fun b1' => ?_)
    · have b1 : ((p.kind == 1) == (p.level == 0)) = true := b1'
      conv => whnf
      refine ldI (by rfl) ?_
      conv => whnf
      refine brd (fun t1 => ?_) (fun t1 => ?_)
      · conv => whnf
        refine ldI (by rfl) ?_
        conv => whnf
        refine brd (fun t2 => ?_) (fun t2 => ?_)
        · have T : within p.tree 0 255 = true := within_iff.2 (by omega)
          conv => whnf
          refine ldI (by rfl) ?_
          conv => whnf
          refine brd (fun d => ?_) (fun d => ?_)
          · conv => whnf
            refine ldI (by rfl) ?_
            conv => whnf
            refine ldI (by rfl) ?_
            conv => whnf
            refine clI (cF _) ?_
            conv => whnf
            exact retP rfl (frz_bool (by rw [check_node a1 W a2 hk, b1, T]; rfl))
          · have hf : fits p.entries p.level = false := by
              rw [← Bool.not_eq_true]
              intro q
              have := (nodeB_len (tree := 0) (top := true) (base := 12) q).2.2
              rw [List.length_map] at d
              omega
            conv => whnf
            exact retP rfl (frz_bool (by rw [check_node a1 W a2 hk, hf]; simp))
        · conv => whnf
          exact retP rfl (frz_bool (by rw [check_node a1 W a2 hk, show within p.tree 0 255 = false by simp [within]; omega]; simp))
      · conv => whnf
        exact retP rfl (frz_bool (by rw [check_node a1 W a2 hk, show within p.tree 0 255 = false by simp [within]; omega]; simp))
    · have b1 : ((p.kind == 1) == (p.level == 0)) = false := b1'
      conv => whnf
      exact retP rfl (frz_bool (by rw [check_node a1 W a2 hk, b1]; rfl))
  conv => whnf
  refine bre (fun k3 => ?_) (fun k3 => ?_)
  · conv => whnf
    refine ldI (by rfl) ?_
    conv => whnf
    refine bre (fun x1 => ?_) (fun x1 => ?_)
    · have hl : linked p.next = true := by simp [linked, x1]
      conv => whnf
      refine ldI (by rfl) ?_
      conv => whnf
      refine brd (fun d1 => ?_) (fun d1 => ?_)
      · conv => whnf
        refine ldI (by rfl) ?_
        conv => whnf
        exact retP rfl (frz_bool (by rw [check_piece a1 W a2 k3, hl]; simp [within]; omega))
      · conv => whnf
        exact retP rfl (frz_bool (by rw [check_piece a1 W a2 k3, hl]; simp [within]; omega))
    · conv => whnf
      refine ldI (by rfl) ?_
      conv => whnf
      refine clI (cX _) ?_
      conv => whnf
      refine br (fun x2 => ?_) (fun x2 => ?_)
      · have hl : linked p.next = true := by simp [linked, x2]
        conv => whnf
        refine ldI (by rfl) ?_
        conv => whnf
        refine brd (fun d1 => ?_) (fun d1 => ?_)
        · conv => whnf
          refine ldI (by rfl) ?_
          conv => whnf
          exact retP rfl (frz_bool (by rw [check_piece a1 W a2 k3, hl]; simp [within]; omega))
        · conv => whnf
          exact retP rfl (frz_bool (by rw [check_piece a1 W a2 k3, hl]; simp [within]; omega))
      · conv => whnf
        exact retP rfl (frz_bool (by rw [check_piece a1 W a2 k3, show linked p.next = false by simp [linked, x1, x2]]; rfl))
  conv => whnf
  refine bre (fun k4 => ?_) (fun k4 => ?_)
  · conv => whnf
    refine ldI (by rfl) ?_
    conv => whnf
    refine bre (fun x1 => ?_) (fun x1 => ?_)
    · have hl : linked p.next = true := by simp [linked, x1]
      conv => whnf
      refine ldI (by rfl) ?_
      conv => whnf
      refine brd (fun d1 => ?_) (fun d1 => ?_)
      · rw [List.length_map] at d1
        conv => whnf
        refine ldI (by rfl) ?_
        conv => whnf
        refine clI (cR _) ?_
        conv => whnf
        refine br (fun fo => ?_) (fun fo => ?_)
        · have hff := freed_few fo ok.fr
          conv => whnf
          refine ldI (by rfl) ?_
          conv => whnf
          refine clI (words_eq (by omega) p.freed ok.flen (fun f h => (hff f h).2) _ ok.fsz _) ?_
          conv => whnf
          refine brd (fun w1 => ?_) (fun w1 => ?_)
          · have fl := freedsB_len p.freed
            conv => whnf
            refine ldI (by rfl) ?_
            conv => whnf
            refine clI (rlist_eq (by omega) p.freed (by omega) fo hff _ ok.fsz _) ?_
            conv => whnf
            exact retP rfl (frz_bool (by rw [check_list a1 W a2 k4, hl, fo, List.length_append, num_len]; simp; omega))
          · conv => whnf
            exact retP rfl (frz_bool (by rw [check_list a1 W a2 k4, show decide (listed p.freed ≤ 496) = false by simp; omega]; simp))
        · conv => whnf
          exact retP rfl (frz_bool (by rw [check_list a1 W a2 k4, fo]; simp))
      · rw [List.length_map] at d1
        conv => whnf
        exact retP rfl (frz_bool (by rw [check_list a1 W a2 k4, show decide (listed p.freed ≤ 496) = false by simp; omega]; simp))
    · conv => whnf
      refine ldI (by rfl) ?_
      conv => whnf
      refine clI (cX _) ?_
      conv => whnf
      refine br (fun x2 => ?_) (fun x2 => ?_)
      · have hl : linked p.next = true := by simp [linked, x2]
        conv => whnf
        refine ldI (by rfl) ?_
        conv => whnf
        refine brd (fun d1 => ?_) (fun d1 => ?_)
        · rw [List.length_map] at d1
          conv => whnf
          refine ldI (by rfl) ?_
          conv => whnf
          refine clI (cR _) ?_
          conv => whnf
          refine br (fun fo => ?_) (fun fo => ?_)
          · have hff := freed_few fo ok.fr
            conv => whnf
            refine ldI (by rfl) ?_
            conv => whnf
            refine clI (words_eq (by omega) p.freed ok.flen (fun f h => (hff f h).2) _ ok.fsz _) ?_
            conv => whnf
            refine brd (fun w1 => ?_) (fun w1 => ?_)
            · have fl := freedsB_len p.freed
              conv => whnf
              refine ldI (by rfl) ?_
              conv => whnf
              refine clI (rlist_eq (by omega) p.freed (by omega) fo hff _ ok.fsz _) ?_
              conv => whnf
              exact retP rfl (frz_bool (by rw [check_list a1 W a2 k4, hl, fo, List.length_append, num_len]; simp; omega))
            · conv => whnf
              exact retP rfl (frz_bool (by rw [check_list a1 W a2 k4, show decide (listed p.freed ≤ 496) = false by simp; omega]; simp))
          · conv => whnf
            exact retP rfl (frz_bool (by rw [check_list a1 W a2 k4, fo]; simp))
        · rw [List.length_map] at d1
          conv => whnf
          exact retP rfl (frz_bool (by rw [check_list a1 W a2 k4, show decide (listed p.freed ≤ 496) = false by simp; omega]; simp))
      · conv => whnf
        exact retP rfl (frz_bool (by rw [check_list a1 W a2 k4, show linked p.next = false by simp [linked, x1, x2]]; rfl))
  · conv => whnf
    exact retP rfl (frz_bool (check_other (by omega) k3 k4).symm)
end
end Go.Proofs
/- Contracts: the reference's Encode. -/
set_option linter.unusedVariables false
set_option linter.unusedSimpArgs false
namespace Go.Proofs
open Go Go.Abs
theorem put_rev {s : Str} {j : Nat} (hj : j < s.length) : putAt ((List.replicate (s.length - j) (0 : UInt8) ++ (s.take j).reverse).map u8) (s.length - j - 1) [u8 s[j]] = (List.replicate (s.length - (j + 1)) (0 : UInt8) ++ (s.take (j + 1)).reverse).map u8 := by
  have e : s.length - j = (s.length - j - 1) + 1 := by omega
  rw [List.take_succ_eq_append_getElem hj, List.reverse_append, show s.length - (j + 1) = s.length - j - 1 by omega]
  conv => lhs; arg 1; rw [e]
  rw [put_mid]
  simp
theorem rep_u8 : ∀ w, rep w [AV.int .u8 0] = (List.replicate w (0 : UInt8)).map u8 := fun w => by
  induction w with
  | zero => rfl
  | succ w ih => rw [List.replicate_succ, List.map_cons, ← ih]; rfl
section
variable {n : Nat} {h : AHeap}
theorem reversed_eq (hn : 1 ≤ n) (s : Str) (hs : s.length < 1048576) : C n 116 [.str s] h = some (.ret (.str s.reverse), h) := by
  obtain ⟨m, rfl⟩ : ∃ m, n = m + 1 := ⟨n - 1, by omega⟩
  refine fun_pure F116 rfl rfl rfl rfl ?_
  conv => whnf
  refine ⟨by omega, by omega, by omega, ?_⟩
  conv => whnf
  refine loopI (by decide) rfl (α := Nat) (fun j => ⟨[(0, .str s), (3, .sl 1 0 0 0 s.length), (4, i64 j)], [.cells 0 (some 5) ((List.replicate (s.length - j) (0 : UInt8) ++ (s.take j).reverse).map u8) 0], []⟩) (fun j => j ≤ s.length) (fun j => s.length - j) 0 ?_ (Nat.zero_le _) (by show s.length - 0 < KK; simp only [KK]; omega) ?_
  · refine ⟨⟨rfl, rfl, rfl⟩, ?_, rfl⟩
    show [] ++ [AB.cells 0 (some 5) (rep ((s.length : Int)).toNat [AV.int IntKind.u8 0]) 0] = _
    rw [Int.toNat_natCast, rep_u8]
    simp
  · intro j hj
    conv => whnf
    refine brd (fun a => ?_) (fun a => ?_)
    · have hjl : j < s.length := by omega
      conv => whnf
      refine zI (z := (s.length : Int) - 1) (wrap_i64 (by omega) (by omega)) ?_
      conv => whnf
      refine zI (z := (s.length : Int) - 1 - j) (wrap_i64 (by omega) (by omega)) ?_
      conv => whnf
      refine strI (b := s[j]) (by omega) (by rw [Int.toNat_natCast]; exact List.getElem?_eq_getElem hjl) ?_
      conv => whnf
      refine ⟨by omega, by omega, rfl, ?_⟩
      conv => whnf
      have hi : 0 + ((s.length : Int) - 1 - j).toNat * 1 = s.length - j - 1 := by omega
      refine stI (cs := (List.replicate (s.length - j) (0 : UInt8) ++ (s.take j).reverse).map u8) (xs := [u8 s[j]]) (by rfl) (by rfl) (by rfl) (by rw [Nat.ble_eq, hi]; simp; omega) (by rfl) ?_
      have hput : putAt ((List.replicate (s.length - j) (0 : UInt8) ++ (s.take j).reverse).map u8) (0 + ((s.length : Int) - 1 - j).toNat * 1) [u8 s[j]] = (List.replicate (s.length - (j + 1)) (0 : UInt8) ++ (s.take (j + 1)).reverse).map u8 := by
        rw [hi]; exact put_rev hjl
      conv => whnf
      refine zI (z := ((j + 1 : Nat) : Int)) (by rw [wrap_i64 (by omega) (by omega)]; rfl) ?_
      exact nxI (j + 1) hjl (by omega) ⟨⟨rfl, rfl, rfl⟩, congrArg (fun x => [AB.cells 0 (some 5) x 0]) hput, rfl⟩
    · have hjl : j = s.length := by omega
      have e : ((List.replicate (s.length - j) (0 : UInt8) ++ (s.take j).reverse).map u8) = s.reverse.map u8 := by
        subst hjl; simp
      have hf := first_sl (h := [AB.cells 0 (some 5) (s.reverse.map u8) 0]) (bb := 0) (ver := 0) (el := some 5) (s := s.reverse) (frz := 0) rfl
      rw [List.length_reverse] at hf
      rw [e]
      conv => whnf
      refine cutI (by decide) rfl (t := ⟨[(3, .sl 1 0 0 0 s.length)], [AB.cells 0 (some 5) (s.reverse.map u8) 0], []⟩) ⟨rfl, rfl, rfl⟩ ?_
      conv => whnf
      refine ⟨_, s.reverse, hf, toBytes_map _, ?_⟩
      conv => whnf
      exact retP rfl (frz_str rfl)
theorem refCrc_eq (hn : 4 ≤ n) (s : Str) (hs : s.length < 1099511627776) : C n 66 [.str s] h = some (.ret (.str (crcB s)), h) := by
  obtain ⟨m, rfl⟩ : ∃ m, n = m + 1 := ⟨n - 1, by omega⟩
  have cN := fun h => refNumber_eq (n := m) (h := h) (by omega) (crc s).toNat 4 (by omega) (by have := (crc s).toNat_lt; omega)
  have cR := fun h => reversed_eq (n := m) (h := h) (by omega) (num (crc s).toNat 4) (by rw [num_len]; decide)
  refine fun_pure F66 rfl rfl rfl rfl ?_
  conv => whnf
  refine clI (rcrc_eq (by omega) s hs) ?_
  conv => whnf
  refine zI (z := ((crc s).toNat : Int)) (by have := (crc s).toNat_lt; exact wrap_i64 (by omega) (by omega)) ?_
  conv => whnf
  refine clI (cN _) ?_
  conv => whnf
  refine clI (cR _) ?_
  conv => whnf
  exact retP rfl (frz_str (crcB_num s).symm)
theorem rbody_eq (hn : 4 ≤ n) (p : Page) (ok : p.Ok) (hc : p.check = true) : C n 65 [p.av] h = some (.ret (.str p.bodyB), h) := by
  obtain ⟨m, rfl⟩ : ∃ m, n = m + 1 := ⟨n - 1, by omega⟩
  obtain ⟨hno, hver, hk⟩ := check_iff.1 hc
  have cN : ∀ (k : Int) (w : Nat) (h : AHeap), 0 ≤ k → k < 9223372036854775808 → w ≤ 8 → C m 64 [i64 k, i64 w] h = some (.ret (.str (num k.toNat w)), h) := fun k w h h1 h2 h3 => by
    have := refNumber_eq (n := m) (h := h) (by omega) k.toNat w h3 (by omega)
    rwa [show ((k.toNat : Nat) : Int) = k by omega] at this
  rcases hk with ⟨hk, ht, _, hf, _⟩ | ⟨hk, _, hl, hd, _⟩ | ⟨hk, _, hl, _, fo, hls⟩
  · have k3 : p.kind ≠ 3 := by omega
    have k4 : p.kind ≠ 4 := by omega
    obtain ⟨_, hv, hlen⟩ := nodeB_len (tree := 0) (top := true) (base := 12) hf
    obtain ⟨⟨q1, q2⟩, _⟩ := valid_iff.1 hv
    have hsl := shared_len hv
    have cP := fun h => refPrefix_eq (n := m) (h := h) (by omega) p.entries ok.elen ok.ent p.level (valid_tail hv) _ ok.esz p.esh.c
    have cE := fun h => entries_bytes (n := m) (h := h) (by omega) p.entries ok.elen p.level hv 18 (by decide) _ ok.esz p.esh.c
    have cG := fun h => flag_eq (n := m) (h := h) (by omega) p.top
    have hel := entsB_len hv p.entries.length (Nat.le_refl _)
    refine fun_pure F65 rfl rfl rfl (by simp [pureBs, page_pure]) ?_
    conv => whnf
    refine ldI (by rfl) ?_
    conv => whnf
    refine bre (fun q => absurd q k3) (fun _ => ?_)
    conv => whnf
    refine bre (fun q => absurd q k4) (fun _ => ?_)
    conv => whnf
    refine ldI (by rfl) ?_
    conv => whnf
    refine clI (cN p.tree 1 _ (by omega) (by omega) (by omega)) ?_
    conv => whnf
    refine ldI (by rfl) ?_
    conv => whnf
    refine clI (cN p.level 1 _ (by omega) (by omega) (by omega)) ?_
    conv => whnf
    refine ⟨by simp only [num_len]; decide, ?_⟩
    conv => whnf
    refine ldI (by rfl) ?_
    conv => whnf
    refine clI (cG _) ?_
    conv => whnf
    refine clI (cN (if p.top then 1 else 0) 1 _ (by split <;> decide) (by split <;> decide) (by omega)) ?_
    conv => whnf
    refine ⟨by simp only [List.length_append, num_len]; decide, ?_⟩
    conv => whnf
    refine ldI (by rfl) ?_
    conv => whnf
    refine ldI (by rfl) ?_
    conv => whnf
    refine clI (cP _) ?_
    conv => whnf
    refine clI (cN (shared p.entries p.level).length 1 _ (by omega) (by omega) (by omega)) ?_
    conv => whnf
    refine ⟨by simp only [List.length_append, num_len]; decide, ?_⟩
    conv => whnf
    refine ldI (by rfl) ?_
    conv => whnf
    refine clI (by rw [List.length_map]; exact cN p.entries.length 2 _ (by omega) (by omega) (by omega)) ?_
    conv => whnf
    refine ⟨by simp only [List.length_append, num_len]; decide, ?_⟩
    conv => whnf
    refine ldI (by rfl) ?_
    conv => whnf
    refine ldI (by rfl) ?_
    conv => whnf
    refine clI (cE _) ?_
    conv => whnf
    refine ⟨by simp only [List.length_append, num_len, offsB_len]; omega, ?_⟩
    conv => whnf
    refine retP rfl (frz_str ?_)
    unfold Page.bodyB nodeB
    rw [if_neg k3, if_neg k4]
    simp only [List.append_assoc]
    cases p.top <;> rfl
  · have hnx := linked_nn hl
    refine fun_pure F65 rfl rfl rfl (by simp [pureBs, page_pure]) ?_
    conv => whnf
    refine ldI (by rfl) ?_
    conv => whnf
    refine bre (fun _ => ?_) (fun q => absurd hk q)
    conv => whnf
    refine ldI (by rfl) ?_
    conv => whnf
    refine clI (cN p.next 4 _ (by omega) (by omega) (by omega)) ?_
    conv => whnf
    refine ldI (by rfl) ?_
    conv => whnf
    refine clI (cN p.data.length 2 _ (by omega) (by omega) (by omega)) ?_
    conv => whnf
    refine ⟨by simp only [num_len]; decide, ?_⟩
    conv => whnf
    refine ldI (by rfl) ?_
    conv => whnf
    refine ⟨by simp only [List.length_append, num_len]; omega, ?_⟩
    conv => whnf
    refine retP rfl (frz_str ?_)
    unfold Page.bodyB pieceB
    rw [if_pos hk, List.append_assoc]
    rfl
  · have hnx := linked_nn hl
    have hll := listed_len p.freed
    have hff := freed_few fo ok.fr
    have fl := freedsB_len p.freed
    have cL := fun h => rlist_eq (n := m) (h := h) (by omega) p.freed (by omega) fo hff _ ok.fsz p.fsh.c
    have k3 : p.kind ≠ 3 := by omega
    refine fun_pure F65 rfl rfl rfl (by simp [pureBs, page_pure]) ?_
    conv => whnf
    refine ldI (by rfl) ?_
    conv => whnf
    refine bre (fun q => absurd q k3) (fun _ => ?_)
    conv => whnf
    refine bre (fun _ => ?_) (fun q => absurd hk q)
    conv => whnf
    refine ldI (by rfl) ?_
    conv => whnf
    refine clI (cN p.next 4 _ (by omega) (by omega) (by omega)) ?_
    conv => whnf
    refine ldI (by rfl) ?_
    conv => whnf
    refine clI (cL _) ?_
    conv => whnf
    refine ⟨by simp only [List.length_append, num_len]; omega, ?_⟩
    conv => whnf
    refine retP rfl (frz_str ?_)
    unfold Page.bodyB listB
    rw [if_neg k3, if_pos hk]
theorem refEncode_bad (hn : 7 ≤ n) (p : Page) (ok : p.Ok) (hc : p.check = false) : C n 13 [p.av] h = some (.ret (.agg [.str [], i64 2]), h) := by
  obtain ⟨m, rfl⟩ : ∃ m, n = m + 1 := ⟨n - 1, by omega⟩
  have cI : ∀ h, C m 11 [p.av] h = some (.ret (.bool p.check), h) := fun h => refIsPage_eq (by omega) p ok
  rw [hc] at cI
  refine fun_pure F13 rfl rfl rfl (by simp [pureBs, page_pure]) ?_
  conv => whnf
  refine ldI (by rfl) ?_
  conv => whnf
  refine clI (cI _) ?_
  conv => whnf
  refine stI (xs := [.str [], i64 2]) (by rfl) (by rfl) (by rfl) (by rfl) (by rfl) ?_
  exact ⟨rfl, _, cell_res (el := some 33) (f := 0) (cs := [.str [], i64 2]) (N := 2) (b := 1) rfl (by kernel_rfl) rfl rfl, rfl⟩
theorem refEncode_good (hn : 7 ≤ n) (p : Page) (ok : p.Ok) (hc : p.check = true) : C n 13 [p.av] h = some (.ret (.agg [.str p.enc, i64 0]), h) := by
  obtain ⟨m, rfl⟩ : ∃ m, n = m + 1 := ⟨n - 1, by omega⟩
  have cI : ∀ h, C m 11 [p.av] h = some (.ret (.bool p.check), h) := fun h => refIsPage_eq (by omega) p ok
  rw [hc] at cI
  obtain ⟨hno, hver, hk⟩ := check_iff.1 hc
  have hkd : 1 ≤ p.kind ∧ p.kind ≤ 4 := by omega
  have cN : ∀ (k : Int) (w : Nat) (h : AHeap), 0 ≤ k → k < 9223372036854775808 → w ≤ 8 → C m 64 [i64 k, i64 w] h = some (.ret (.str (num k.toNat w)), h) := fun k w h h1 h2 h3 => by
    have := refNumber_eq (n := m) (h := h) (by omega) k.toNat w h3 (by omega)
    rwa [show ((k.toNat : Nat) : Int) = k by omega] at this
  have cB : ∀ h, C m 65 [p.av] h = some (.ret (.str p.bodyB), h) := fun h => rbody_eq (by omega) p ok hc
  have hbl := bodyB_len hc
  have hul := used_len hc
  have hfl := full_len hc
  have hel := enc_len hc
  have cC : ∀ h, C m 66 [.str p.full] h = some (.ret (.str (crcB p.full)), h) := fun h => refCrc_eq (by omega) p.full (by omega)
  refine fun_pure F13 rfl rfl rfl (by simp [pureBs, page_pure]) ?_
  conv => whnf
  refine ldI (by rfl) ?_
  conv => whnf
  refine clI (cI _) ?_
  conv => whnf
  refine clI (cN 85 1 _ (by omega) (by omega) (by omega)) ?_
  conv => whnf
  refine ldI (by rfl) ?_
  conv => whnf
  refine clI (cN p.kind 1 _ (by omega) (by omega) (by omega)) ?_
  conv => whnf
  refine ⟨by simp only [num_len]; decide, ?_⟩
  conv => whnf
  refine ldI (by rfl) ?_
  conv => whnf
  refine clI (cN p.no 4 _ (by omega) (by omega) (by omega)) ?_
  conv => whnf
  refine ⟨by simp only [List.length_append, num_len]; decide, ?_⟩
  conv => whnf
  refine ldI (by rfl) ?_
  conv => whnf
  refine clI (cN p.ver 6 _ (by omega) (by omega) (by omega)) ?_
  conv => whnf
  refine ⟨by simp only [List.length_append, num_len]; decide, ?_⟩
  conv => whnf
  refine ldI (by rfl) ?_
  conv => whnf
  refine clI (cB _) ?_
  conv => whnf
  refine ⟨by simp only [List.length_append, num_len]; omega, ?_⟩
  have hu : num (85 : Int).toNat 1 ++ num p.kind.toNat 1 ++ num p.no.toNat 4 ++ num p.ver.toNat 6 ++ p.bodyB = p.used := by
    unfold Page.used Page.headB
    simp only [List.append_assoc]
    rfl
  rw [hu]
  have hf : ∀ (x y : AB), firstA [x, y, AB.cells 0 (some 5) (rep (((508 - p.used.length : Nat) : Int)).toNat [AV.int .u8 0]) 0] 1 (((508 - p.used.length : Nat) : Int)).toNat (.sl 1 2 0 0 (((508 - p.used.length : Nat) : Int)).toNat) = some ((zeros (508 - p.used.length)).map u8) := fun x y => by
    rw [Int.toNat_natCast, rep_u8]
    have := first_sl (h := [x, y, AB.cells 0 (some 5) ((zeros (508 - p.used.length)).map u8) 0]) (bb := 2) (ver := 0) (el := some 5) (s := zeros (508 - p.used.length)) (frz := 0) rfl
    rwa [zeros_len] at this
  conv => whnf
  refine zI (z := ((508 - p.used.length : Nat) : Int)) (by rw [wrap_i64 (by omega) (by omega)]; omega) ?_
  conv => whnf
  refine ⟨by omega, by omega, by omega, ?_⟩
  conv => whnf
  refine ⟨_, zeros (508 - p.used.length), hf _ _, toBytes_map _, ?_⟩
  conv => whnf
  refine ⟨by rw [zeros_len]; omega, ?_⟩
  conv => whnf
  refine clI (cC _) ?_
  conv => whnf
  refine ⟨by show p.full.length + (crcB p.full).length ≤ _; rw [hfl]; exact (by decide : 508 + 4 ≤ 4611686018427387904), ?_⟩
  conv => whnf
  refine stI (xs := [.str p.enc, i64 0]) (by rfl) (by rfl) (by rfl) (by rfl) (by rfl) ?_
  exact ⟨rfl, _, cell_res (el := some 33) (f := 0) (cs := [.str p.enc, i64 0]) (N := 2) (b := 1) rfl (by kernel_rfl) rfl rfl, rfl⟩
theorem refEncode_eq (hn : 7 ≤ n) (p : Page) (ok : p.Ok) : C n 13 [p.av] h = some (.ret (.agg [.str (if p.check then p.enc else []), i64 (if p.check then 0 else 2)]), h) := by
  cases hc : p.check with
  | false => exact refEncode_bad hn p ok hc
  | true => exact refEncode_good hn p ok hc
end
end Go.Proofs
/- Contracts: the reference's reader: bytes, numbers, digests. -/
set_option linter.unusedVariables false
set_option linter.unusedSimpArgs false
namespace Go.Proofs
open Go Go.Abs
abbrev tRef : Nat := 195
def rcell (t : RT) : AB := .cells 0 (some tRef) [.str t.1, .bool t.2] 0
def RRd (hp : AHeap) (b : Nat) (t : RT) : Prop := hp[b]? = some (rcell t)
theorem RRd.stays {hp hp' : AHeap} {b : Nat} {t : RT} {F : List Nat} (r : RRd hp b t) (k : Keep hp hp' F) (hb : b ∉ F) : RRd hp' b t := k.get r hb
theorem RRd.lt {hp : AHeap} {b : Nat} {t : RT} (r : RRd hp b t) : b < hp.length := lt_of_get r
theorem RRd.set {hp : AHeap} {b : Nat} {t t' : RT} (r : RRd hp b t) : RRd (hp.set b (rcell t')) b t' := by
  unfold RRd; rw [List.getElem?_set_self r.lt]
section
variable {n : Nat} {hp h : AHeap} {b : Nat} {t : RT}
theorem rtake_set (hn : 1 ≤ n) (r : RRd hp b t) (hl : t.1.length < 1099511627776) (k : Nat) (hk : k < 1099511627776) : C n 121 [.ptr b 0 0, i64 k] hp = some (.ret (.str (rtake k t).1), hp.set b (rcell (rtake k t).2)) := by
  obtain ⟨m, rfl⟩ : ∃ m, n = m + 1 := ⟨n - 1, by omega⟩
  have h1 : hp[b]? = some (.cells 0 (some tRef) [.str t.1, .bool t.2] 0) := r
  obtain ⟨s, bad⟩ := t
  simp only at h1 hl
  refine fun_inl F121 rfl rfl ?_
  conv => whnf
  refine ldI h1 ?_
  conv => whnf
  refine brd (fun a => ?_) (fun a => ?_)
  · have e : rtake k (s, bad) = ([], s, true) := by unfold rtake; rw [if_pos (.inl (by simp only; omega))]
    conv => whnf
    refine stI h1 (by rfl) (by rfl) (by rfl) (by rfl) ?_
    rw [e]
    exact ⟨rfl, [.str []], rfl, rfl, rfl⟩
  · conv => whnf
    refine ldI h1 ?_
    conv => whnf
    cases bad with
    | true =>
      have e : rtake k (s, true) = ([], s, true) := by unfold rtake; rw [if_pos (.inr rfl)]
      conv => whnf
      refine stI h1 (by rfl) (by rfl) (by rfl) (by rfl) ?_
      rw [e]
      exact ⟨rfl, [.str []], rfl, rfl, rfl⟩
    | false =>
      have e : rtake k (s, false) = (s.take k, s.drop k, false) := by unfold rtake; rw [if_neg (by simp; omega)]
      conv => whnf
      refine ldI h1 ?_
      conv => whnf
      refine ss_hi (by omega) ?_
      conv => whnf
      refine ldI h1 ?_
      conv => whnf
      refine ss_lo (by omega) ?_
      conv => whnf
      refine stI h1 (by rfl) (by rfl) (by rfl) (by rfl) ?_
      rw [e]
      exact ⟨rfl, [.str (s.take k)], rfl, rfl, rfl⟩
theorem rtake_eq (hn : 1 ≤ n) (r : RRd hp b t) (hl : t.1.length < 1099511627776) (k : Nat) (hk : k < 1099511627776) : ∃ hp', C n 121 [.ptr b 0 0, i64 k] hp = some (.ret (.str (rtake k t).1), hp') ∧ RRd hp' b (rtake k t).2 ∧ Keep hp hp' [b] :=
  ⟨_, rtake_set hn r hl k hk, r.set, Keep.set (by simp)⟩
theorem refnum_eq (hn : 1 ≤ n) (s : Str) (hs : s.length ≤ 6) : C n 79 [.str s] h = some (.ret (i64 (unnum s)), h) := by
  obtain ⟨m, rfl⟩ : ∃ m, n = m + 1 := ⟨n - 1, by omega⟩
  refine fun_pure F79 rfl rfl rfl rfl ?_
  conv => whnf
  refine loopI (by decide) rfl (α := Nat) (fun j => ⟨[(0, .str s), (3, i64 (unnum (s.take j))), (4, i64 j)], [], []⟩) (fun j => j ≤ s.length) (fun j => s.length - j) 0 ⟨⟨rfl, rfl, rfl⟩, rfl, rfl⟩ (Nat.zero_le _) (by show s.length - 0 < KK; simp only [KK]; omega) ?_
  intro j hj
  conv => whnf
  refine brd (fun a => ?_) (fun a => ?_)
  · have hjl : j < s.length := by omega
    have hb := unnum_lt j (s.take j) (by rw [List.length_take]; omega)
    have hb2 : 256 ^ j ≤ 256 ^ 5 := Nat.pow_le_pow_right (by decide) (by omega)
    have hx : unnum (s.take j) < 36028797018963968 := by
      have : (256 : Nat) ^ 5 = 1099511627776 := by decide
      omega
    have hc := s[j].toNat_lt
    have hst : unnum (s.take j) * 256 + (s[j]).toNat = unnum (s.take (j + 1)) := by
      rw [List.take_succ_eq_append_getElem hjl, unnum_app]
    conv => whnf
    refine zI (z := ((unnum (s.take j) * 256 : Nat) : Int)) (by rw [wrap_i64 (by omega) (by omega)]; omega) ?_
    conv => whnf
    refine strI (b := s[j]) (by omega) (by rw [Int.toNat_natCast]; exact List.getElem?_eq_getElem hjl) ?_
    conv => whnf
    refine zI (z := ((s[j].toNat : Nat) : Int)) (wrap_i64 (by omega) (by omega)) ?_
    conv => whnf
    refine zI (z := ((unnum (s.take (j + 1)) : Nat) : Int)) (by rw [← hst, wrap_i64 (by omega) (by omega)]; omega) ?_
    conv => whnf
    refine zI (z := ((j + 1 : Nat) : Int)) (by rw [wrap_i64 (by omega) (by omega)]; rfl) ?_
    exact nxI (j + 1) hjl (by omega) ⟨⟨rfl, rfl, rfl⟩, rfl, rfl⟩
  · have hjl : j = s.length := by omega
    subst hjl
    conv => whnf
    refine cutI (by decide) rfl (t := ⟨[(3, i64 (unnum s))], [], []⟩) ⟨by rw [List.take_length]; rfl, rfl, rfl⟩ ?_
    conv => whnf
    exact retP rfl (frz_int rfl)
theorem rnum_set (hn : 2 ≤ n) (r : RRd hp b t) (hl : t.1.length < 1099511627776) (w : Nat) (hw : w ≤ 6) : C n 120 [.ptr b 0 0, i64 w] hp = some (.ret (i64 (rnum w t).1), hp.set b (rcell (rnum w t).2)) := by
  obtain ⟨m, rfl⟩ : ∃ m, n = m + 1 := ⟨n - 1, by omega⟩
  have e1 := rtake_set (n := m) (by omega) r hl w (by omega)
  have hk := (rtake_len w t).2.2
  refine fun_inl F120 rfl rfl ?_
  conv => whnf
  refine clI e1 ?_
  conv => whnf
  refine clI (refnum_eq (by omega) (rtake w t).1 (by omega)) ?_
  conv => whnf
  exact ⟨rfl, [i64 (unnum (rtake w t).1)], rfl, rfl, rfl⟩
theorem rnum_eq (hn : 2 ≤ n) (r : RRd hp b t) (hl : t.1.length < 1099511627776) (w : Nat) (hw : w ≤ 6) : ∃ hp', C n 120 [.ptr b 0 0, i64 w] hp = some (.ret (i64 (rnum w t).1), hp') ∧ RRd hp' b (rnum w t).2 ∧ Keep hp hp' [b] :=
  ⟨_, rnum_set hn r hl w hw, r.set, Keep.set (by simp)⟩
end
theorem put_pre {s : Str} {j : Nat} (hj : j < s.length) (hs : s.length ≤ 16) : putAt ((s.take j ++ List.replicate (16 - j) (0 : UInt8)).map u8) j [u8 s[j]] = (s.take (j + 1) ++ List.replicate (16 - (j + 1)) (0 : UInt8)).map u8 := by
  have hlt : (s.take j).length = j := by rw [List.length_take]; omega
  rw [List.take_succ_eq_append_getElem hj, show 16 - j = (16 - (j + 1)) + 1 by omega, List.replicate_succ]
  unfold putAt
  simp only [List.map_append, List.map_cons, List.length_singleton]
  rw [List.take_append_of_le_length (by simp; omega), List.take_of_length_le (by simp; omega)]
  rw [List.drop_append, List.drop_of_length_le (by simp; omega)]
  simp [hlt, show min j s.length = j by omega]
theorem dg_pad {s : Str} (h : s = [] ∨ s.length = 16) : (s ++ List.replicate (16 - s.length) (0 : UInt8)).map u8 = (dgOf s).cells := by
  rcases h with rfl | h
  · rfl
  · rw [h, dgOf_cells h]
    simp
theorem rtake16 (t : RT) : (rtake 16 t).1 = [] ∨ (rtake 16 t).1.length = 16 := by
  unfold rtake
  split
  · exact .inl rfl
  · right; simp; omega
end Go.Proofs
/- Contracts: the reference's reader: digests and entries. -/
set_option linter.unusedVariables false
set_option linter.unusedSimpArgs false
namespace Go.Proofs
open Go Go.Abs
theorem set_same {α : Type} {l : List α} {i : Nat} {x : α} (h : l[i]? = some x) : l.set i x = l := by
  apply List.ext_getElem?
  intro j
  by_cases e : i = j
  · subst e
    have hl : i < l.length := by
      rcases Nat.lt_or_ge i l.length with q | q
      · exact q
      · rw [List.getElem?_eq_none q] at h; cases h
    rw [List.getElem?_set_self hl, h]
  · rw [List.getElem?_set_ne e]
section
variable {n : Nat} {hp h : AHeap} {b : Nat} {t : RT}
theorem rdig_eq (hn : 2 ≤ n) (r : RRd hp b t) (hl : t.1.length < 1099511627776) : ∃ hp', C n 153 [.ptr b 0 0] hp = some (.ret (.agg (rsum t).1.cells), hp') ∧ RRd hp' b (rsum t).2 ∧ Keep hp hp' [b] := by
  obtain ⟨m, rfl⟩ : ∃ m, n = m + 1 := ⟨n - 1, by omega⟩
  have k0 : Keep hp (hp ++ [AB.cells 0 (some 54) Dg.zero.cells 0] ++ [AB.cells 0 (some 54) Dg.zero.cells 0]) [] := (Keep.app hp _ []).trans (Keep.app _ _ []) (by simp)
  have hlen : (hp ++ [AB.cells 0 (some 54) Dg.zero.cells 0]).length = hp.length + 1 := by simp
  have d1 : (hp ++ [AB.cells 0 (some 54) Dg.zero.cells 0] ++ [AB.cells 0 (some 54) Dg.zero.cells 0])[hp.length]? = some (.cells 0 (some 54) Dg.zero.cells 0) := get_app (get_last _ _)
  have d2 : (hp ++ [AB.cells 0 (some 54) Dg.zero.cells 0] ++ [AB.cells 0 (some 54) Dg.zero.cells 0])[(hp ++ [AB.cells 0 (some 54) Dg.zero.cells 0]).length]? = some (.cells 0 (some 54) Dg.zero.cells 0) := get_last _ _
  obtain ⟨h1, e1, r1, k1⟩ := rtake_eq (n := m) (by omega) (r.stays k0 (by simp)) hl 16 (by decide)
  have hb := r.lt
  have d1' := k1.get d1 (by simp; omega)
  have d2' := k1.get d2 (by simp; omega)
  have kk : Keep hp h1 [b] := (k0.mono (by simp)).trans k1 (fun x hx => .inl hx)
  have hs16 := rtake16 t
  have hsl : (rtake 16 t).1.length ≤ 16 := (rtake_len 16 t).2.2
  have hcells := dg_pad hs16
  have hsum : (rsum t).1 = dgOf (rtake 16 t).1 := rfl
  have hsum2 : (rsum t).2 = (rtake 16 t).2 := rfl
  rw [hsum, hsum2]
  generalize hS : (rtake 16 t).1 = S at *
  refine ⟨(h1.set (hp ++ [AB.cells 0 (some 54) Dg.zero.cells 0]).length (.cells 0 (some 54) (dgOf S).cells 0)).set hp.length (.cells 0 (some 54) (dgOf S).cells 0), ?_, ?_, ?_⟩
  · refine fun_inl F153 rfl rfl ?_
    conv => whnf
    refine clI e1 ?_
    conv => whnf
    refine loopI (by decide) rfl (α := Nat) (fun j => ⟨[(2, .ptr hp.length 0 0), (3, .ptr (hp ++ [AB.cells 0 (some 54) Dg.zero.cells 0]).length 0 0), (4, .str S), (5, i64 j)], h1.set (hp ++ [AB.cells 0 (some 54) Dg.zero.cells 0]).length (.cells 0 (some 54) ((S.take j ++ List.replicate (16 - j) (0 : UInt8)).map u8) 0), []⟩) (fun j => j ≤ S.length) (fun j => S.length - j) 0 ?_ (Nat.zero_le _) (by show S.length - 0 < KK; simp only [KK]; omega) ?_
    · refine ⟨⟨rfl, rfl, rfl, rfl⟩, ?_, rfl⟩
      show h1 = h1.set _ _
      have e0 : ((S.take 0 ++ List.replicate (16 - 0) (0 : UInt8)).map u8) = Dg.zero.cells := rfl
      rw [e0]
      exact (set_same d2').symm
    · intro j hj
      have f2 : (h1.set (hp ++ [AB.cells 0 (some 54) Dg.zero.cells 0]).length (.cells 0 (some 54) ((S.take j ++ List.replicate (16 - j) (0 : UInt8)).map u8) 0))[(hp ++ [AB.cells 0 (some 54) Dg.zero.cells 0]).length]? = some (.cells 0 (some 54) ((S.take j ++ List.replicate (16 - j) (0 : UInt8)).map u8) 0) := by rw [List.getElem?_set_self (lt_of_get d2')]
      conv => whnf
      refine brd (fun a => ?_) (fun a => ?_)
      · have hjl : j < S.length := by omega
        conv => whnf
        refine strI (b := S[j]) (by omega) (by rw [Int.toNat_natCast]; exact List.getElem?_eq_getElem hjl) ?_
        conv => whnf
        refine ⟨by omega, by omega, ?_⟩
        conv => whnf
        have hi : 0 + (j : Int).toNat * 1 = j := by omega
        refine stI f2 (xs := [u8 S[j]]) (by rfl) (by rfl) (by rw [Nat.ble_eq, hi]; simp; omega) (by rfl) ?_
        conv => whnf
        refine zI (z := ((j + 1 : Nat) : Int)) (by rw [wrap_i64 (by omega) (by omega)]; rfl) ?_
        refine nxI (j + 1) hjl (by omega) ⟨⟨rfl, rfl, rfl, rfl⟩, ?_, rfl⟩
        show (h1.set _ _).set _ (AB.cells 0 (some 54) (putAt _ (0 + (j : Int).toNat * 1) [u8 S[j]]) 0) = _
        rw [hi, put_pre hjl hsl, List.set_set]
      · have hjl : j = S.length := by omega
        have e : (S.take j ++ List.replicate (16 - j) (0 : UInt8)).map u8 = (dgOf S).cells := by
          subst hjl; rw [List.take_length]; exact hcells
        rw [e] at f2 ⊢
        have f1 : (h1.set (hp ++ [AB.cells 0 (some 54) Dg.zero.cells 0]).length (.cells 0 (some 54) (dgOf S).cells 0))[hp.length]? = some (.cells 0 (some 54) Dg.zero.cells 0) := by rw [List.getElem?_set_ne (by rw [hlen]; omega)]; exact d1'
        conv => whnf
        refine cutI (by decide) rfl (t := ⟨[(2, .ptr hp.length 0 0), (3, .ptr (hp ++ [AB.cells 0 (some 54) Dg.zero.cells 0]).length 0 0)], h1.set (hp ++ [AB.cells 0 (some 54) Dg.zero.cells 0]).length (.cells 0 (some 54) (dgOf S).cells 0), []⟩) ⟨⟨rfl, rfl⟩, rfl, rfl⟩ ?_
        conv => whnf
        refine ldI f2 ?_
        conv => whnf
        refine stI f1 (xs := (dgOf S).cells) (by rfl) (by rfl) (by rfl) (by rfl) ?_
        refine ⟨rfl, [.agg (dgOf S).cells], ?_, rfl, rfl⟩
        exact cell_res (b := hp.length) (el := some 54) (f := 0) (cs := (dgOf S).cells) (N := 16) rfl (by kernel_rfl) rfl (by rw [List.getElem?_set_self (lt_of_get f1)]; rfl)
  · refine r1.stays (F := [(hp ++ [AB.cells 0 (some 54) Dg.zero.cells 0]).length, hp.length]) ⟨by simp, fun x hx hn => ?_⟩ (by simp; omega)
    simp at hn
    rw [List.getElem?_set_ne (by omega), List.getElem?_set_ne (by rw [hlen]; omega)]
  · exact (kk.set' (.inr (by rw [hlen]; omega))).set' (.inr (Nat.le_refl _))
end
abbrev tEn : Nat := 56
/-- The memory of a walk that fills an entry. -/
structure ES (h0 h : AHeap) (b A B : Nat) (cs : List AV) (t : RT) : Prop where
  r : RRd h b t
  a : h[A]? = some (.cells 0 (some tEn) (keyE []).cells 0)
  e : h[B]? = some (.cells 0 (some tEn) cs 0)
  k : Keep h0 h [b]
  ne : b < A ∧ A < B ∧ h0.length ≤ A
theorem ES.next {h0 h h' : AHeap} {b A B : Nat} {cs : List AV} {t t' : RT} (s : ES h0 h b A B cs t) (k : Keep h h' [b]) (r : RRd h' b t') : ES h0 h' b A B cs t' := by
  obtain ⟨n1, n2, n3⟩ := s.ne
  exact ⟨r, k.get s.a (by simp; omega), k.get s.e (by simp; omega), s.k.trans k (fun x hx => .inl hx), s.ne⟩
theorem ES.set {h0 h : AHeap} {b A B : Nat} {cs cs' : List AV} {t : RT} (s : ES h0 h b A B cs t) : ES h0 (h.set B (.cells 0 (some tEn) cs' 0)) b A B cs' t := by
  obtain ⟨n1, n2, n3⟩ := s.ne
  refine ⟨?_, ?_, ?_, ?_, s.ne⟩
  · unfold RRd; rw [List.getElem?_set_ne (by omega)]; exact s.r
  · rw [List.getElem?_set_ne (by omega)]; exact s.a
  · rw [List.getElem?_set_self (lt_of_get s.e)]
  · exact s.k.set' (.inr (by omega))
theorem ES.done {h0 h : AHeap} {b A B : Nat} {cs cs' : List AV} {t : RT} (s : ES h0 h b A B cs t) : (h.set A (.cells 0 (some tEn) cs' 0))[A]? = some (.cells 0 (some tEn) cs' 0) ∧ RRd (h.set A (.cells 0 (some tEn) cs' 0)) b t ∧ Keep h0 (h.set A (.cells 0 (some tEn) cs' 0)) [b] := by
  obtain ⟨n1, n2, n3⟩ := s.ne
  refine ⟨?_, ?_, ?_⟩
  · rw [List.getElem?_set_self (lt_of_get s.a)]
  · unfold RRd; rw [List.getElem?_set_ne (by omega)]; exact s.r
  · exact s.k.set' (.inr (by omega))
def EntQ (h0 : AHeap) (b : Nat) (x : Entry × RT) (r : CRes) (h : AHeap) : Prop := r = .ret (.agg x.1.cells) ∧ RRd h b x.2 ∧ Keep h0 h [b]
section
variable {n : Nat} {hp h : AHeap} {b : Nat} {t : RT}
theorem nest_facts {hp h : AHeap} {A B : Nat} {m : Nat} (hm : 2 ≤ m) {key : Str} {u : RT} (s : ES hp h b A B (keyE key).cells u) (hu : u.1.length < 1099511627776) :
    ∃ h1 h2 h3, C m 120 [.ptr b 0 0, i64 (4 : Nat)] h = some (.ret (i64 (rnum 4 u).1), h1) ∧ h1[B]? = some (.cells 0 (some tEn) (keyE key).cells 0) ∧
      C m 120 [.ptr b 0 0, i64 (4 : Nat)] (h1.set B (.cells 0 (some tEn) (Entry.mk key [] 0 0 (rnum 4 u).1 0 Dg.zero).cells 0)) = some (.ret (i64 (rnum 4 (rnum 4 u).2).1), h2) ∧ h2[B]? = some (.cells 0 (some tEn) (Entry.mk key [] 0 0 (rnum 4 u).1 0 Dg.zero).cells 0) ∧
      C m 153 [.ptr b 0 0] (h2.set B (.cells 0 (some tEn) (Entry.mk key [] 0 0 (rnum 4 u).1 (rnum 4 (rnum 4 u).2).1 Dg.zero).cells 0)) = some (.ret (.agg (rsum (rnum 4 (rnum 4 u).2).2).1.cells), h3) ∧
      ES hp h3 b A B (Entry.mk key [] 0 0 (rnum 4 u).1 (rnum 4 (rnum 4 u).2).1 Dg.zero).cells (rsum (rnum 4 (rnum 4 u).2).2).2 := by
  have l1 := rnum_len 4 u
  have l2 := rnum_len 4 (rnum 4 u).2
  obtain ⟨h1, e1, r1, k1⟩ := rnum_eq (n := m) (by omega) s.r hu 4 (by omega)
  have s1 := s.next k1 r1
  have s1' := s1.set (cs' := (Entry.mk key [] 0 0 (rnum 4 u).1 0 Dg.zero).cells)
  obtain ⟨h2, e2, r2, k2⟩ := rnum_eq (n := m) (by omega) s1'.r (by omega) 4 (by omega)
  have s2 := s1'.next k2 r2
  have s2' := s2.set (cs' := (Entry.mk key [] 0 0 (rnum 4 u).1 (rnum 4 (rnum 4 u).2).1 Dg.zero).cells)
  obtain ⟨h3, e3, r3, k3⟩ := rdig_eq (n := m) (by omega) s2'.r (by omega)
  exact ⟨h1, h2, h3, e1, s1.e, e2, s2.e, e3, s2'.next k3 r3⟩
theorem long_facts {hp h : AHeap} {A B : Nat} {m : Nat} (hm : 2 ≤ m) {key : Str} {u : RT} (s : ES hp h b A B (keyE key).cells u) (hu : u.1.length < 1099511627776) :
    ∃ h1 h2 h3, C m 120 [.ptr b 0 0, i64 (4 : Nat)] h = some (.ret (i64 (rnum 4 u).1), h1) ∧ h1[B]? = some (.cells 0 (some tEn) (keyE key).cells 0) ∧
      C m 120 [.ptr b 0 0, i64 (2 : Nat)] (h1.set B (.cells 0 (some tEn) (Entry.mk key [] (rnum 4 u).1 0 0 0 Dg.zero).cells 0)) = some (.ret (i64 (rnum 2 (rnum 4 u).2).1), h2) ∧ h2[B]? = some (.cells 0 (some tEn) (Entry.mk key [] (rnum 4 u).1 0 0 0 Dg.zero).cells 0) ∧
      C m 153 [.ptr b 0 0] (h2.set B (.cells 0 (some tEn) (Entry.mk key [] (rnum 4 u).1 (rnum 2 (rnum 4 u).2).1 0 0 Dg.zero).cells 0)) = some (.ret (.agg (rsum (rnum 2 (rnum 4 u).2).2).1.cells), h3) ∧
      ES hp h3 b A B (Entry.mk key [] (rnum 4 u).1 (rnum 2 (rnum 4 u).2).1 0 0 Dg.zero).cells (rsum (rnum 2 (rnum 4 u).2).2).2 := by
  have l1 := rnum_len 4 u
  have l2 := rnum_len 2 (rnum 4 u).2
  obtain ⟨h1, e1, r1, k1⟩ := rnum_eq (n := m) (by omega) s.r hu 4 (by omega)
  have s1 := s.next k1 r1
  have s1' := s1.set (cs' := (Entry.mk key [] (rnum 4 u).1 0 0 0 Dg.zero).cells)
  obtain ⟨h2, e2, r2, k2⟩ := rnum_eq (n := m) (by omega) s1'.r (by omega) 2 (by omega)
  have s2 := s1'.next k2 r2
  have s2' := s2.set (cs' := (Entry.mk key [] (rnum 4 u).1 (rnum 2 (rnum 4 u).2).1 0 0 Dg.zero).cells)
  obtain ⟨h3, e3, r3, k3⟩ := rdig_eq (n := m) (by omega) s2'.r (by omega)
  exact ⟨h1, h2, h3, e1, s1.e, e2, s2.e, e3, s2'.next k3 r3⟩
theorem rent_eq (hn : 3 ≤ n) (r : RRd hp b t) (hl : t.1.length < 1099511627776) (pre : Str) (hpl : pre.length < 1099511627776) (lv : Int) (h0 : 0 ≤ lv) (first : Bool) : ∃ r' hp', C n 122 [.ptr b 0 0, .str pre, i64 lv, .bool first] hp = some (r', hp') ∧ EntQ hp b (rent pre lv first t) r' hp' := by
  obtain ⟨m, rfl⟩ : ∃ m, n = m + 1 := ⟨n - 1, by omega⟩
  have hb := r.lt
  have l1 := rnum_len 1 t
  have l2 := rtake_len (rnum 1 t).1 (rnum 1 t).2
  have u1 := rnum_lt 1 t
  have s0 : ES hp (hp ++ [AB.cells 0 (some tEn) (keyE []).cells 0] ++ [AB.cells 0 (some tEn) (keyE []).cells 0]) b hp.length (hp ++ [AB.cells 0 (some tEn) (keyE []).cells 0]).length (keyE []).cells t :=
    ⟨r.stays ((Keep.app hp _ []).trans (Keep.app _ _ []) (by simp)) (by simp), get_app (get_last _ _), get_last _ _, ((Keep.app hp _ []).trans (Keep.app _ _ []) (by simp)).mono (by simp), by simp; omega⟩
  obtain ⟨h1, e1, r1, k1⟩ := rnum_eq (n := m) (by omega) s0.r hl 1 (by omega)
  have s1 := s0.next k1 r1
  obtain ⟨h2, e2, r2, k2⟩ := rtake_eq (n := m) (by omega) s1.r (by omega) (rnum 1 t).1 (by omega)
  have s2 := s1.next k2 r2
  have hx0 : ∀ key m', rcont key m' (rtake (rnum 1 t).1 (rnum 1 t).2).2 = rcont key m' (rtake (rnum 1 t).1 (rnum 1 t).2).2 := fun _ _ => rfl
  generalize hK : (rtake (rnum 1 t).1 (rnum 1 t).2).1 = K at *
  generalize hU : (rtake (rnum 1 t).1 (rnum 1 t).2).2 = U at *
  have s3 := s2.set (cs' := (keyE K).cells)
  have s3p := s3.set (cs' := (keyE (pre ++ K)).cells)
  refine fun_inlE F122 rfl rfl ?_
  conv => whnf
  refine clI e1 ?_
  conv => whnf
  refine clI e2 ?_
  conv => whnf
  refine stI s2.e (by rfl) (by rfl) (by rfl) (by rfl) ?_
  conv => whnf
  refine bre (fun z => ?_) (fun z => ?_)
  · conv => whnf
    refine ldI s3.e ?_
    conv => whnf
    refine ⟨by show pre.length + K.length ≤ _; omega, ?_⟩
    conv => whnf
    refine stI s3.e (by rfl) (by rfl) (by rfl) (by rfl) ?_
    conv => whnf
    refine brd (fun q => absurd q (by omega)) (fun _ => ?_)
    obtain ⟨h4, e4, r4, k4⟩ := rnum_eq (n := m) (by omega) s3p.r (by omega) 2 (by omega)
    have s5 := s3p.next k4 r4
    have l4 := rnum_len 2 U
    have u4 := rnum_lt 2 U
    conv => whnf
    refine clI e4 ?_
    conv => whnf
    refine bre (fun q1 => ?_) (fun q1 => ?_)
    · have hx : rent pre lv first t = rnest (pre ++ K) (rnum 2 U).2 := by
        unfold rent
        rw [if_neg (by omega), hK, hU]
        unfold rcont rkey
        rw [if_pos (by omega), if_pos (.inl z)]
      obtain ⟨g1, g2, g3, c1, f1, c2, f2, c3, s3⟩ := nest_facts (m := m) (by omega) s5 (by omega)
      have s4 := s3.set (cs' := (rnest (pre ++ K) (rnum 2 U).2).1.cells)
      conv => whnf
      refine clI c1 ?_
      conv => whnf
      refine stI f1 (by rfl) (by rfl) (by rfl) (by rfl) ?_
      conv => whnf
      refine clI c2 ?_
      conv => whnf
      refine stI f2 (by rfl) (by rfl) (by rfl) (by rfl) ?_
      conv => whnf
      refine clI c3 ?_
      conv => whnf
      refine stI s3.e (xs := (rsum (rnum 4 (rnum 4 (rnum 2 U).2).2).2).1.cells) (by rfl) (by rfl) (by rfl) (by rfl) ?_
      conv => whnf
      refine ldI (s4).e ?_
      conv => whnf
      refine stI (s4).a (xs := (rnest (pre ++ K) (rnum 2 U).2).1.cells) (by rfl) (by rfl) (by rfl) (by rfl) ?_
      have fin := (s4).done (cs' := (rnest (pre ++ K) (rnum 2 U).2).1.cells)
      refine ⟨[.agg (rnest (pre ++ K) (rnum 2 U).2).1.cells], cell_res (b := hp.length) (el := some tEn) (f := 0) (N := 22) rfl (by kernel_rfl) rfl fin.1, ?_⟩
      rw [hx]
      exact ⟨rfl, fin.2.1, fin.2.2⟩
    · conv => whnf
      refine bre (fun q2 => ?_) (fun q2 => ?_)
      · have hx : rent pre lv first t = rlong (pre ++ K) (rnum 2 U).2 := by
          unfold rent
          rw [if_neg (by omega), hK, hU]
          unfold rcont rkey
          rw [if_neg (by omega), if_pos (by omega), if_pos (.inl z)]
        obtain ⟨g1, g2, g3, c1, f1, c2, f2, c3, s3⟩ := long_facts (m := m) (by omega) s5 (by omega)
        have s4 := s3.set (cs' := (rlong (pre ++ K) (rnum 2 U).2).1.cells)
        conv => whnf
        refine clI c1 ?_
        conv => whnf
        refine stI f1 (by rfl) (by rfl) (by rfl) (by rfl) ?_
        conv => whnf
        refine clI c2 ?_
        conv => whnf
        refine stI f2 (by rfl) (by rfl) (by rfl) (by rfl) ?_
        conv => whnf
        refine clI c3 ?_
        conv => whnf
        refine stI s3.e (xs := (rsum (rnum 2 (rnum 4 (rnum 2 U).2).2).2).1.cells) (by rfl) (by rfl) (by rfl) (by rfl) ?_
        conv => whnf
        refine ldI (s4).e ?_
        conv => whnf
        refine stI (s4).a (xs := (rlong (pre ++ K) (rnum 2 U).2).1.cells) (by rfl) (by rfl) (by rfl) (by rfl) ?_
        have fin := (s4).done (cs' := (rlong (pre ++ K) (rnum 2 U).2).1.cells)
        refine ⟨[.agg (rlong (pre ++ K) (rnum 2 U).2).1.cells], cell_res (b := hp.length) (el := some tEn) (f := 0) (N := 22) rfl (by kernel_rfl) rfl fin.1, ?_⟩
        rw [hx]
        exact ⟨rfl, fin.2.1, fin.2.2⟩
      · have hx : rent pre lv first t = rshort (pre ++ K) (rnum 2 U).1 (rnum 2 U).2 := by
          unfold rent
          rw [if_neg (by omega), hK, hU]
          unfold rcont rkey
          rw [if_neg (by omega), if_neg (by omega), if_pos (.inl z)]
        obtain ⟨h6, e6, r6, k6⟩ := rtake_eq (n := m) (by omega) s5.r (by omega) (rnum 2 U).1 (by omega)
        have s6 := s5.next k6 r6
        have s7 := s6.set (cs' := (rshort (pre ++ K) (rnum 2 U).1 (rnum 2 U).2).1.cells)
        conv => whnf
        refine clI e6 ?_
        conv => whnf
        refine stI s6.e (by rfl) (by rfl) (by rfl) (by rfl) ?_
        conv => whnf
        refine ldI (s7).e ?_
        conv => whnf
        refine stI (s7).a (xs := (rshort (pre ++ K) (rnum 2 U).1 (rnum 2 U).2).1.cells) (by rfl) (by rfl) (by rfl) (by rfl) ?_
        have fin := (s7).done (cs' := (rshort (pre ++ K) (rnum 2 U).1 (rnum 2 U).2).1.cells)
        refine ⟨[.agg (rshort (pre ++ K) (rnum 2 U).1 (rnum 2 U).2).1.cells], cell_res (b := hp.length) (el := some tEn) (f := 0) (N := 22) rfl (by kernel_rfl) rfl fin.1, ?_⟩
        rw [hx]
        exact ⟨rfl, fin.2.1, fin.2.2⟩
  · have zp : 0 < lv := by omega
    conv => whnf
    cases first with
    | true =>
      conv => whnf
      refine brd (fun _ => ?_) (fun q => absurd zp q)
      have hx : rent pre lv true t = rnest K U := by
        unfold rent
        rw [if_pos zp, hK, hU]
        unfold rcont rkey
        rw [if_pos rfl, if_neg (by simp; exact z)]
      obtain ⟨g1, g2, g3, c1, f1, c2, f2, c3, s3⟩ := nest_facts (m := m) (by omega) s3 (by omega)
      have s4 := s3.set (cs' := (rnest K U).1.cells)
      conv => whnf
      refine clI c1 ?_
      conv => whnf
      refine stI f1 (by rfl) (by rfl) (by rfl) (by rfl) ?_
      conv => whnf
      refine clI c2 ?_
      conv => whnf
      refine stI f2 (by rfl) (by rfl) (by rfl) (by rfl) ?_
      conv => whnf
      refine clI c3 ?_
      conv => whnf
      refine stI s3.e (xs := (rsum (rnum 4 (rnum 4 U).2).2).1.cells) (by rfl) (by rfl) (by rfl) (by rfl) ?_
      conv => whnf
      refine ldI (s4).e ?_
      conv => whnf
      refine stI (s4).a (xs := (rnest K U).1.cells) (by rfl) (by rfl) (by rfl) (by rfl) ?_
      have fin := (s4).done (cs' := (rnest K U).1.cells)
      refine ⟨[.agg (rnest K U).1.cells], cell_res (b := hp.length) (el := some tEn) (f := 0) (N := 22) rfl (by kernel_rfl) rfl fin.1, ?_⟩
      rw [hx]
      exact ⟨rfl, fin.2.1, fin.2.2⟩
    | false =>
      have hx : rent pre lv false t = rnest (pre ++ K) U := by
        unfold rent
        rw [if_pos zp, hK, hU]
        unfold rcont rkey
        rw [if_pos rfl, if_pos (.inr rfl)]
      conv => whnf
      refine ldI s3.e ?_
      conv => whnf
      refine ⟨by show pre.length + K.length ≤ _; omega, ?_⟩
      conv => whnf
      refine stI s3.e (by rfl) (by rfl) (by rfl) (by rfl) ?_
      conv => whnf
      refine brd (fun _ => ?_) (fun q => absurd zp q)
      obtain ⟨g1, g2, g3, c1, f1, c2, f2, c3, s3⟩ := nest_facts (m := m) (by omega) s3p (by omega)
      have s4 := s3.set (cs' := (rnest (pre ++ K) U).1.cells)
      conv => whnf
      refine clI c1 ?_
      conv => whnf
      refine stI f1 (by rfl) (by rfl) (by rfl) (by rfl) ?_
      conv => whnf
      refine clI c2 ?_
      conv => whnf
      refine stI f2 (by rfl) (by rfl) (by rfl) (by rfl) ?_
      conv => whnf
      refine clI c3 ?_
      conv => whnf
      refine stI s3.e (xs := (rsum (rnum 4 (rnum 4 U).2).2).1.cells) (by rfl) (by rfl) (by rfl) (by rfl) ?_
      conv => whnf
      refine ldI (s4).e ?_
      conv => whnf
      refine stI (s4).a (xs := (rnest (pre ++ K) U).1.cells) (by rfl) (by rfl) (by rfl) (by rfl) ?_
      have fin := (s4).done (cs' := (rnest (pre ++ K) U).1.cells)
      refine ⟨[.agg (rnest (pre ++ K) U).1.cells], cell_res (b := hp.length) (el := some tEn) (f := 0) (N := 22) rfl (by kernel_rfl) rfl fin.1, ?_⟩
      rw [hx]
      exact ⟨rfl, fin.2.1, fin.2.2⟩
end
end Go.Proofs
