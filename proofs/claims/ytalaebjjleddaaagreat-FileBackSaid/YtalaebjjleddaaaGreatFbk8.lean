/- Texts put together: Vb, Rb5, Vc, Vd, Ve, Vf, Vg, Vh, Vi, Vj, Tg, Dd, Vk, Vm, Vn. -/
import Derived.Test.YtalaebjjleddaaaGreatFbk7
import Derived.Test.YtalaebjjleddaaaGreatFbk6
/- Contracts of chapter 5: numbers in a record. -/
set_option linter.unusedVariables false
set_option linter.unusedSimpArgs false
namespace Go.Proofs
open Go Go.Abs
abbrev tRec : Nat := 127
/-- A record in memory. -/
def recB (hp : AHeap) (b : Nat) (xs : Str) : Prop := hp[b]? = some (.cells 0 (some tRec) (xs.map u8) 0) ∧ xs.length = 64
abbrev recC (xs : Str) : AB := .cells 0 (some tRec) (xs.map u8) 0
theorem set_same {hp : AHeap} {b : Nat} {x : AB} (h : hp[b]? = some x) : hp.set b x = hp := by
  apply List.ext_getElem?
  intro i
  rw [List.getElem?_set]
  split
  · rename_i e
    subst e
    rw [if_pos (lt_of_get h)]
    exact h.symm
  · rfl
/-- Bytes in place of others. -/
def lay (xs : Str) (at' : Nat) (ys : Str) : Str := xs.take at' ++ ys ++ xs.drop (at' + ys.length)
theorem lay_len {xs : Str} {at' : Nat} {ys : Str} (h : at' + ys.length ≤ xs.length) : (lay xs at' ys).length = xs.length := by
  unfold lay
  simp only [List.length_append, List.length_take, List.length_drop]
  omega
theorem lay_one {xs : Str} {p : Nat} {c : UInt8} : putAt (xs.map u8) p [u8 c] = (lay xs p [c]).map u8 := by
  unfold putAt lay
  simp [List.map_take, List.map_drop]
theorem lay_step {xs : Str} {p w : Nat} {c : UInt8} {t : Str} (ht : p + 1 + t.length = w) (hw : w ≤ xs.length) : lay (xs.take (p + 1) ++ t ++ xs.drop w) p [c] = xs.take p ++ (c :: t) ++ xs.drop w := by
  unfold lay
  have h1 : (xs.take (p + 1)).length = p + 1 := by rw [List.length_take]; omega
  rw [List.append_assoc (xs.take (p + 1)), List.take_append_of_le_length (by omega), List.take_take, Nat.min_eq_left (by omega), List.length_singleton, List.drop_append_of_le_length (by omega), List.drop_of_length_le (l := xs.take (p + 1)) (by omega)]
  simp
section
variable {n : Nat}
theorem put_eq (hn : 1 ≤ n) {hp : AHeap} {b : Nat} {xs : Str} (hb : recB hp b xs) (at' w k : Nat) (hw : w ≤ 8) (haw : at' + w ≤ 64) : C n 134 [.ptr b 0 0, i64 at', i64 w, i64 k] hp = some (.ret (.tup []), hp.set b (recC (lay xs at' (num k w)))) := by
  obtain ⟨m, rfl⟩ : ∃ m, n = m + 1 := ⟨n - 1, by omega⟩
  obtain ⟨hb1, hx⟩ := hb
  have hlt := lt_of_get hb1
  refine fun_inl F134 rfl rfl ?_
  conv => whnf
  refine loopI (by decide) rfl (α := Nat) (fun j => ⟨[(0, .ptr b 0 0), (1, i64 at'), (2, i64 w), (3, i64 k), (9, i64 w), (10, i64 j)], hp.set b (recC (xs.take (at' + w - j) ++ num k j ++ xs.drop (at' + w))), []⟩) (fun j => j ≤ w) (fun j => w - j) 0 ⟨⟨rfl, rfl, rfl, rfl, rfl, rfl⟩, ?_, rfl⟩ (Nat.zero_le _) (by simp only [KK]; omega) ?_
  · show hp = hp.set b (recC (xs.take (at' + w - 0) ++ num k 0 ++ xs.drop (at' + w)))
    rw [show xs.take (at' + w - 0) ++ num k 0 ++ xs.drop (at' + w) = xs by simp [num], set_same hb1]
  intro j hj
  conv => whnf
  refine brd (fun a => ?_) (fun a => ?_)
  · have hjw : j < w := by omega
    obtain ⟨p, hp'⟩ : ∃ p, at' + w - j = p + 1 := ⟨at' + w - j - 1, by omega⟩
    have hpl : p < 64 := by omega
    conv => whnf
    refine zI (z := ((at' + w : Nat) : Int)) (by rw [wrap_i64 (by omega) (by omega)]; omega) ?_
    conv => whnf
    refine zI (z := ((at' + w : Nat) : Int) - 1) (wrap_i64 (by omega) (by omega)) ?_
    conv => whnf
    refine zI (z := (p : Int)) (by rw [wrap_i64 (by omega) (by omega)]; omega) ?_
    conv => whnf
    refine zI (z := 8 * (j : Int)) (wrap_i64 (by omega) (by omega)) ?_
    conv => whnf
    refine ⟨by omega, _, rfl, ?_⟩
    conv => whnf
    refine zI (byte_of (k := k) (i := j) (by omega)) ?_
    conv => whnf
    refine ⟨by omega, by omega, ?_⟩
    conv => whnf
    refine stI (List.getElem?_set_self hlt) (xs := [u8 (UInt8.ofNat (k / 256 ^ j))]) (by rfl) (by rfl) (by rw [Nat.ble_eq, List.length_map]; simp only [List.length_append, List.length_take, List.length_drop, num_len, List.length_cons, List.length_nil]; omega) (by rfl) ?_
    conv => whnf
    refine zI (z := ((j + 1 : Nat) : Int)) (by rw [wrap_i64 (by omega) (by omega)]; rfl) ?_
    refine nxI (j + 1) hjw (by omega) ⟨⟨rfl, rfl, rfl, rfl, rfl, rfl⟩, ?_, rfl⟩
    have e : at' + w - (j + 1) = p := by omega
    show List.set (List.set hp b _) b (AB.cells 0 (some tRec) (putAt ((xs.take (at' + w - j) ++ num k j ++ xs.drop (at' + w)).map u8) (0 + ((p : Nat) : Int).toNat * 1) [u8 (UInt8.ofNat (k / 256 ^ j))]) 0) = hp.set b (recC (xs.take (at' + w - (j + 1)) ++ num k (j + 1) ++ xs.drop (at' + w)))
    rw [List.set_set, e, hp', Int.toNat_natCast, Nat.mul_one, Nat.zero_add, lay_one, lay_step (w := at' + w) (by rw [num_len]; omega) (by omega)]
    rfl
  · have hjw : j = w := by omega
    subst hjw
    conv => whnf
    refine ⟨rfl, [], rfl, rfl, ?_⟩
    show hp.set b (recC (xs.take (at' + j - j) ++ num k j ++ xs.drop (at' + j))) = _
    unfold lay
    rw [num_len, Nat.add_sub_cancel]
theorem get_eq (hn : 1 ≤ n) {hp : AHeap} {b : Nat} {xs : Str} (hb : recB hp b xs) (at' w : Nat) (hw : w ≤ 6) (hw0 : 0 < w) (haw : at' + w ≤ 64) : C n 65 [.ptr b 0 0, i64 at', i64 w] hp = some (.ret (i64 (unnum ((xs.drop at').take w))), hp) := by
  obtain ⟨m, rfl⟩ : ∃ m, n = m + 1 := ⟨n - 1, by omega⟩
  obtain ⟨hb1, hx⟩ := hb
  have hlt := lt_of_get hb1
  have hlen : ((xs.drop at').take w).length = w := by rw [List.length_take, List.length_drop]; omega
  refine fun_inl F65 rfl rfl ?_
  conv => whnf
  refine zI (z := ((at' + w : Nat) : Int)) (by rw [wrap_i64 (by omega) (by omega)]; omega) ?_
  conv => whnf
  refine ⟨_, _, _, hb1, ⟨by rw [List.length_map, hx]; decide, by decide⟩, ?_⟩
  have hsl : sliceA 1 (.sl 1 b 0 0 64) (some ((at' : Nat) : Int)) (some ((at' + w : Nat) : Int)) none = some (.sl 1 b 0 at' w) := by
    unfold sliceA
    simp only [Option.getD_some]
    rw [if_pos ⟨by omega, by omega, by omega, trivial⟩, if_neg (by omega), show 0 + ((at' : Nat) : Int).toNat * 1 = at' by omega, show (((at' + w : Nat) : Int) - ((at' : Nat) : Int)).toNat = w by omega]
  refine slI hsl ?_
  conv => whnf
  refine loopI (by decide) rfl (α := Nat) (fun j => ⟨[(7, i64 (unnum (((xs.drop at').take w).take j))), (16, .sl 1 b 0 at' w), (17, i64 w), (18, i64 j)], hp, []⟩) (fun j => j ≤ w) (fun j => w - j) 0 ⟨⟨rfl, rfl, rfl, rfl⟩, rfl, rfl⟩ (Nat.zero_le _) (by simp only [KK]; omega) ?_
  intro j hj
  conv => whnf
  refine brd (fun a => ?_) (fun a => ?_)
  · have hjw : j < w := by omega
    have hjt : j < ((xs.drop at').take w).length := by omega
    have hb := unnum_lt j (((xs.drop at').take w).take j) (by rw [List.length_take]; omega)
    have hb2 : 256 ^ j ≤ 256 ^ 5 := Nat.pow_le_pow_right (by decide) (by omega)
    have hst : unnum (((xs.drop at').take w).take j) * 256 + (((xs.drop at').take w)[j]).toNat = unnum (((xs.drop at').take w).take (j + 1)) := by
      rw [List.take_succ_eq_append_getElem hjt, unnum_app]
    have hx6 : unnum (((xs.drop at').take w).take j) < 36028797018963968 := by
      have : (256 : Nat) ^ 5 = 1099511627776 := by decide
      omega
    have hcell : (xs.map u8)[at' + j]? = some (u8 (((xs.drop at').take w)[j])) := by
      rw [List.getElem?_map, List.getElem?_eq_getElem (by omega)]
      simp
    conv => whnf
    refine ⟨by omega, by omega, rfl, ?_⟩
    conv => whnf
    refine ldI hb1 ?_
    refine wpartI (v := u8 (((xs.drop at').take w)[j])) (by show (xs.map u8)[at' + (j : Int).toNat * 1]? = _; rw [Int.toNat_natCast, Nat.mul_one]; exact hcell) ?_
    conv => whnf
    refine ⟨by decide, _, shl_byte _ hx6, ?_⟩
    conv => whnf
    refine zI (z := ((((xs.drop at').take w)[j]).toNat : Int)) (by have := (((xs.drop at').take w)[j]).toNat_lt; exact wrap_i64 (by omega) (by omega)) ?_
    conv => whnf
    refine zI (or_byte _ _ hx6) ?_
    conv => whnf
    refine zI (z := ((j + 1 : Nat) : Int)) (by rw [wrap_i64 (by omega) (by omega)]; rfl) ?_
    exact nxI (j + 1) hjw (by omega) ⟨⟨by rw [← hst]; rfl, rfl, rfl, rfl⟩, rfl, rfl⟩
  · have hjw : j = w := by omega
    subst hjw
    conv => whnf
    refine cutI (by decide) rfl (t := ⟨[(7, i64 (unnum (((xs.drop at').take j))))], hp, []⟩) ⟨by show some (i64 (unnum (((xs.drop at').take j).take j))) = _; rw [List.take_take, Nat.min_self], rfl, rfl⟩ ?_
    exact ⟨rfl, [i64 (unnum ((xs.drop at').take j))], rfl, rfl, rfl⟩
end
end Go.Proofs
/- The looked-up text of the functions. -/
namespace Go.Proofs
open Go Go.Abs
/- f60 understory/understoryref05.Right: 56 temporaries, depth 6, 1 parameters, results [t2] -/
/- f101 understory/understoryref05.inner: 12 temporaries, depth 4, 2 parameters, results [t4] -/
/- f20 understory/understoryref05.CheckRoot: 6 temporaries, depth 3, 1 parameters, results [t2] -/
/- f62 understory/understoryref05.zeros: 6 temporaries, depth 3, 1 parameters, results [t2] -/
/- f66 understory/understoryref05.value: 19 temporaries, depth 5, 1 parameters, results [t2] -/
/- f16 understory/understoryref05.Record: 57 temporaries, depth 6, 1 parameters, results [*t2] -/
/- f18 understory/understoryref05.Parse: 53 temporaries, depth 6, 1 parameters, results [*t2] -/
/- f3 understory/understorylaw05.FileRecords: 61 temporaries, depth 6, 2 parameters, results [t4] -/
def c3 : RC :=
 (.seq (.ops [(oP 2 (.box 27 (.t 0))),
 (oP 4 (.mv (.c (.bool false))))])
 (.seq (.seq (.ops [(mV 11 1),
 (oP 12 (.lenS (.t 11))),
 (oP 13 (.bin .gtr (.t 12) (.c (.int .i64 200))))])
 (.cond (.t 13)
 (.seq (.ops [(oP 14 (.callF 14 [])),
 (mV 4 14)])
 .ret)
 .skip))
 (.seq (.ops [(oP 16 (.load true 21 (.t 2))),
 (oP 17 (.callF 15 [(.t 16)])),
 (mV 15 17),
 (oP 18 (.extract (.t 15) 0)),
 (oP 19 (.extract (.t 15) 1)),
 (mV 5 18),
 (mV 6 19)])
 (.seq (.ops [(oP 20 (.load true 21 (.t 2))),
 (oP 21 (.callF 16 [(.t 20)])),
 (oP 7 (.alloc 33 [(.str []), (.int .i64 0)])),
 (oU (.store 2 (.t 7) (.t 21)))])
 (.seq (.ops [(mV 23 1),
 (oP 24 (.callF 17 [(.t 23)])),
 (mV 22 24),
 (oP 25 (.extract (.t 22) 0)),
 (oP 26 (.extract (.t 22) 1)),
 (oP 8 (.alloc 27 [(.int .i64 0), (.int .i64 0), (.int .i64 0), (.int .u8 0), (.int .u8 0), (.int .u8 0), (.int .u8 0), (.int .u8 0), (.int .u8 0), (.int .u8 0), (.int .u8 0), (.int .u8 0), (.int .u8 0), (.int .u8 0), (.int .u8 0), (.int .u8 0), (.int .u8 0), (.int .u8 0), (.int .u8 0), (.int .i64 0), (.int .i64 0)])),
 (oU (.store 21 (.t 8) (.t 25))),
 (mV 9 26)])
 (.seq (.ops [(mV 27 1),
 (oP 28 (.callF 18 [(.t 27)])),
 (oP 10 (.alloc 38 [(.int .i64 0), (.int .i64 0), (.int .i64 0), (.int .u8 0), (.int .u8 0), (.int .u8 0), (.int .u8 0), (.int .u8 0), (.int .u8 0), (.int .u8 0), (.int .u8 0), (.int .u8 0), (.int .u8 0), (.int .u8 0), (.int .u8 0), (.int .u8 0), (.int .u8 0), (.int .u8 0), (.int .u8 0), (.int .i64 0), (.int .i64 0), (.int .i64 0)])),
 (oU (.store 22 (.t 10) (.t 28)))])
 (.seq (.draw [((oP 29 (.callF 14 [])), 0),
 ((mV 30 29), 0),
 ((oG 31 30 true (.load true 21 (.t 2))), 1),
 ((oG 32 30 true (.callF 19 [(.t 31)])), 0),
 ((oG 33 30 true (.load true 21 (.t 2))), 1),
 ((oG 34 30 true (.callF 20 [(.t 33)])), 0),
 ((oG 35 30 true (.bin .eql (.t 32) (.t 34))), 0),
 ((oP 36 (.pick (.t 30) (.t 35) (.c (.bool false)))), 0),
 ((mV 37 36), 0),
 ((oG 38 37 true (.mv (.t 5))), 0),
 ((oG 39 37 true (.fieldAddr 0 (.t 7))), 0),
 ((oG 40 37 true (.load false 1 (.t 39))), 1),
 ((oG 41 37 true (.bin .eql (.t 38) (.t 40))), 0),
 ((oP 42 (.pick (.t 37) (.t 41) (.c (.bool false)))), 0),
 ((mV 43 42), 0),
 ((oG 44 43 true (.mv (.t 6))), 0),
 ((oG 45 43 true (.fieldAddr 1 (.t 7))), 0),
 ((oG 46 43 true (.load false 1 (.t 45))), 1),
 ((oG 47 43 true (.bin .eql (.t 44) (.t 46))), 0),
 ((oP 48 (.pick (.t 43) (.t 47) (.c (.bool false)))), 0),
 ((mV 49 48), 0),
 ((oG 50 49 true (.load true 21 (.t 8))), 1),
 ((oG 51 49 true (.fieldAddr 0 (.t 10))), 0),
 ((oG 52 49 true (.load true 21 (.t 51))), 1),
 ((oG 53 49 true (.cmp false 27 (.t 50) (.t 52))), 0),
 ((oP 54 (.pick (.t 49) (.t 53) (.c (.bool false)))), 0),
 ((mV 55 54), 0),
 ((oG 56 55 true (.mv (.t 9))), 0),
 ((oG 57 55 true (.fieldAddr 21 (.t 10))), 0),
 ((oG 58 55 true (.load false 1 (.t 57))), 1),
 ((oG 59 55 true (.bin .eql (.t 56) (.t 58))), 0),
 ((oP 60 (.pick (.t 55) (.t 59) (.c (.bool false)))), 0),
 ((mV 4 60), 0)])
 .ret)))))))
/- f5 understory/understorylaw05.FileBack: 100 temporaries, depth 7, 4 parameters, results [t8] -/
def c5 : RC :=
 (.seq (.ops [(oP 4 (.box 27 (.t 0))),
 (oP 8 (.mv (.c (.bool false))))])
 (.seq (.seq (.ops [(mV 18 1),
 (oP 19 (.lenS (.t 18))),
 (oP 20 (.bin .gtr (.t 19) (.c (.int .i64 200))))])
 (.cond (.t 20)
 (.seq (.ops [(oP 21 (.callF 14 [])),
 (mV 8 21)])
 .ret)
 .skip))
 (.seq (.ops [(mV 23 1),
 (oP 24 (.callF 17 [(.t 23)])),
 (mV 22 24),
 (oP 25 (.extract (.t 22) 0)),
 (oP 26 (.extract (.t 22) 1)),
 (oP 9 (.alloc 27 [(.int .i64 0), (.int .i64 0), (.int .i64 0), (.int .u8 0), (.int .u8 0), (.int .u8 0), (.int .u8 0), (.int .u8 0), (.int .u8 0), (.int .u8 0), (.int .u8 0), (.int .u8 0), (.int .u8 0), (.int .u8 0), (.int .u8 0), (.int .u8 0), (.int .u8 0), (.int .u8 0), (.int .u8 0), (.int .i64 0), (.int .i64 0)])),
 (oU (.store 21 (.t 9) (.t 25))),
 (mV 10 26)])
 (.seq (.seq (.ops [(mV 27 10),
 (oP 28 (.bin .eql (.t 27) (.c (.int .i64 0))))])
 (.cond (.t 28)
 (.seq (.ops [(oP 30 (.load true 21 (.t 9))),
 (oP 31 (.callF 15 [(.t 30)])),
 (mV 29 31),
 (oP 32 (.extract (.t 29) 0)),
 (oP 33 (.extract (.t 29) 1)),
 (mV 11 32),
 (mV 12 33)])
 (.seq (.ops [(mV 34 12),
 (oP 35 (.bin .neq (.t 34) (.c (.int .i64 0)))),
 (mV 36 35),
 (oG 37 36 false (.mv (.t 11))),
 (oG 38 36 false (.mv (.t 1))),
 (oG 39 36 false (.bin .neq (.t 37) (.t 38))),
 (oP 40 (.pick (.t 36) (.c (.bool true)) (.t 39)))])
 (.cond (.t 40)
 (.seq (.ops [(oP 8 (.mv (.c (.bool false))))])
 .ret)
 .skip)))
 .skip))
 (.seq (.ops [(oP 42 (.load true 21 (.t 4))),
 (oP 43 (.callF 15 [(.t 42)])),
 (mV 41 43),
 (oP 44 (.extract (.t 41) 0)),
 (oP 45 (.extract (.t 41) 1)),
 (mV 13 44),
 (mV 10 45)])
 (.seq (.seq (.ops [(mV 46 10),
 (oP 47 (.bin .neq (.t 46) (.c (.int .i64 0))))])
 (.cond (.t 47)
 (.seq (.ops [(oP 48 (.callF 14 [])),
 (mV 49 48),
 (oG 50 49 true (.load true 21 (.t 4))),
 (oG 51 49 true (.callF 19 [(.t 50)])),
 (oG 52 49 true (.bin .eql (.t 51) (.c (.int .i64 2)))),
 (oP 53 (.pick (.t 49) (.t 52) (.c (.bool false)))),
 (mV 8 53)])
 .ret)
 .skip))
 (.seq (.ops [(mV 55 13),
 (oP 56 (.callF 17 [(.t 55)])),
 (mV 54 56),
 (oP 57 (.extract (.t 54) 0)),
 (oP 58 (.extract (.t 54) 1)),
 (oP 14 (.alloc 27 [(.int .i64 0), (.int .i64 0), (.int .i64 0), (.int .u8 0), (.int .u8 0), (.int .u8 0), (.int .u8 0), (.int .u8 0), (.int .u8 0), (.int .u8 0), (.int .u8 0), (.int .u8 0), (.int .u8 0), (.int .u8 0), (.int .u8 0), (.int .u8 0), (.int .u8 0), (.int .u8 0), (.int .u8 0), (.int .i64 0), (.int .i64 0)])),
 (oU (.store 21 (.t 14) (.t 57))),
 (mV 15 58)])
 (.seq (.seq (.ops [(mV 59 15),
 (oP 60 (.bin .neq (.t 59) (.c (.int .i64 0)))),
 (mV 61 60),
 (oG 62 61 false (.load true 21 (.t 14))),
 (oG 63 61 false (.load true 21 (.t 4))),
 (oG 64 61 false (.cmp true 27 (.t 62) (.t 63))),
 (oP 65 (.pick (.t 61) (.c (.bool true)) (.t 64))),
 (mV 66 65),
 (oG 67 66 false (.mv (.t 13))),
 (oG 68 66 false (.lenS (.t 67))),
 (oG 69 66 false (.bin .neq (.t 68) (.c (.int .i64 64)))),
 (oP 70 (.pick (.t 66) (.c (.bool true)) (.t 69)))])
 (.cond (.t 70)
 (.seq (.ops [(oP 8 (.mv (.c (.bool false))))])
 .ret)
 .skip))
 (.seq (.ops [(mV 71 2),
 (oP 72 (.toInt .i64 (.t 71))),
 (mV 73 13),
 (oP 74 (.lenS (.t 73))),
 (oP 75 (.bin .rem (.t 72) (.t 74))),
 (mV 16 75)])
 (.seq (.ops [(mV 76 13),
 (oP 77 (.strBytes (.t 76))),
 (mV 17 77)])
 (.seq (.ops [(mV 78 17),
 (mV 79 16),
 (mV 80 3),
 (oP 81 (.indexAddrL 1 (.t 78) (.t 79))),
 (oU (.store 1 (.t 81) (.t 80)))])
 (.seq (.ops [(mV 83 17),
 (oP 84 (.bytesStr (.t 83))),
 (oP 85 (.callF 17 [(.t 84)])),
 (mV 82 85),
 (oP 86 (.extract (.t 82) 0)),
 (oP 87 (.extract (.t 82) 1)),
 (mV 15 87)])
 (.seq (.ops [(oP 88 (.callF 14 [])),
 (mV 89 88),
 (oG 90 89 true (.mv (.t 13))),
 (oG 91 89 true (.mv (.t 16))),
 (oG 92 89 true (.indexS (.t 90) (.t 91))),
 (oG 93 89 true (.mv (.t 3))),
 (oG 94 89 true (.bin .eql (.t 92) (.t 93))),
 (oG 95 89 true (.mv (.t 94))),
 (oG 96 95 false (.mv (.t 15))),
 (oG 97 95 false (.bin .eql (.t 96) (.c (.int .i64 8)))),
 (oG 98 89 true (.pick (.t 95) (.c (.bool true)) (.t 97))),
 (oP 99 (.pick (.t 89) (.t 98) (.c (.bool false)))),
 (mV 8 99)])
 .ret)))))))))))))
theorem F5 : FI 5 4 100 7 [.tmp 8] c5 := ⟨⟨Tryz.f5, Tryz.func5, by kernel_rfl, by kernel_rfl, by kernel_rfl⟩, by kernel_rfl, by decide, by kernel_rfl⟩
end Go.Proofs
/- Contracts of chapter 5: roots, and whether they are valid. -/
set_option linter.unusedVariables false
set_option linter.unusedSimpArgs false
namespace Go.Proofs
open Go Go.Abs
structure Rt where
  ver : Int
  root : Int
  count : Int
  sum : Dg
  list : Int
  pages : Int
def Rt.cells (r : Rt) : List AV := [i64 r.ver, i64 r.root, i64 r.count, u8 r.sum.b0, u8 r.sum.b1, u8 r.sum.b2, u8 r.sum.b3, u8 r.sum.b4, u8 r.sum.b5, u8 r.sum.b6, u8 r.sum.b7, u8 r.sum.b8, u8 r.sum.b9, u8 r.sum.b10, u8 r.sum.b11, u8 r.sum.b12, u8 r.sum.b13, u8 r.sum.b14, u8 r.sum.b15, i64 r.list, i64 r.pages]
def Rt.av (r : Rt) : AV := .agg r.cells
abbrev tRoot : Nat := 27
abbrev rootC (r : Rt) : AB := .cells 0 (some tRoot) r.cells 0
def inside (p k : Int) : Bool := decide (2 ≤ k) && decide (k < p)
def noTree (r : Rt) : Bool := decide (r.root = 0 ∧ r.count = 0 ∧ r.sum = Dg.zero)
def rootOk (r : Rt) : Bool := (decide (0 ≤ r.ver) && (decide (r.ver ≤ 1099511627776) && (decide (2 ≤ r.pages) && decide (r.pages ≤ 4096)))) && ((r.list == 0 || inside r.pages r.list) && (noTree r || (inside r.pages r.root && (decide (1 ≤ r.count) && decide (r.count < 2147483648)))))
theorem eq_tree (r : Rt) : eqA Tryz.prog 20 25 (.agg [i64 r.root, i64 r.count, u8 r.sum.b0, u8 r.sum.b1, u8 r.sum.b2, u8 r.sum.b3, u8 r.sum.b4, u8 r.sum.b5, u8 r.sum.b6, u8 r.sum.b7, u8 r.sum.b8, u8 r.sum.b9, u8 r.sum.b10, u8 r.sum.b11, u8 r.sum.b12, u8 r.sum.b13, u8 r.sum.b14, u8 r.sum.b15]) (.agg (i64 0 :: i64 0 :: Dg.zero.cells)) = some (noTree r) := by
  have e1 : eqA Tryz.prog 20 25 (.agg [i64 r.root, i64 r.count, u8 r.sum.b0, u8 r.sum.b1, u8 r.sum.b2, u8 r.sum.b3, u8 r.sum.b4, u8 r.sum.b5, u8 r.sum.b6, u8 r.sum.b7, u8 r.sum.b8, u8 r.sum.b9, u8 r.sum.b10, u8 r.sum.b11, u8 r.sum.b12, u8 r.sum.b13, u8 r.sum.b14, u8 r.sum.b15]) (.agg (i64 0 :: i64 0 :: Dg.zero.cells)) = allEq (eqA Tryz.prog 19) [(3, i64 r.root, i64 0), (3, i64 r.count, i64 0), (23, .agg r.sum.cells, .agg Dg.zero.cells)] := by kernel_rfl
  have e2 : ∀ (a b : Int), eqA Tryz.prog 19 3 (i64 a) (i64 b) = some (a == b) := fun a b => by kernel_rfl
  have e3 : eqA Tryz.prog 19 23 (.agg r.sum.cells) (.agg Dg.zero.cells) = allEq (eqA Tryz.prog 18) (zipE 5 (r.sum.list.map u8) (Dg.zero.list.map u8)) := by kernel_rfl
  have e4 : ∀ (x y : UInt8), eqA Tryz.prog 18 5 (.int .u8 x.toNat) (.int .u8 y.toNat) = some (((x.toNat : Nat) : Int) == y.toNat) := fun x y => by kernel_rfl
  rw [allEq_u8 (fun x y => by rw [e4, eq_u8]) r.sum.list Dg.zero.list rfl] at e3
  rw [e1]
  unfold allEq
  rw [e2]
  unfold noTree
  by_cases h1 : r.root = 0
  · rw [show (r.root == 0) = true by simp [h1]]
    simp only
    unfold allEq
    rw [e2]
    by_cases h2 : r.count = 0
    · rw [show (r.count == 0) = true by simp [h2]]
      simp only
      unfold allEq
      rw [e3]
      by_cases h3 : r.sum = Dg.zero
      · rw [show decide (r.sum.list = Dg.zero.list) = true by simp [Dg.list_inj, h3]]
        simp [allEq, h1, h2, h3]
      · rw [show decide (r.sum.list = Dg.zero.list) = false by simp [Dg.list_inj, h3]]
        simp [h3]
    · rw [show (r.count == 0) = false by simp [h2]]
      simp [h2]
  · rw [show (r.root == 0) = false by simp [h1]]
    simp [h1]
section
variable {n : Nat}
theorem inside_eq (hn : 1 ≤ n) {hp : AHeap} {b : Nat} {r : Rt} (hb : hp[b]? = some (rootC r)) (k : Int) : C n 67 [i64 k, .ptr b 0 0] hp = some (.ret (.bool (inside r.pages k)), hp) := by
  obtain ⟨m, rfl⟩ : ∃ m, n = m + 1 := ⟨n - 1, by omega⟩
  refine fun_inl F67 rfl rfl ?_
  repeat' (conv => whnf); first
    | refine brd (fun _ => ?_) (fun _ => ?_)
    | refine ldI hb ?_
    | exact ⟨rfl, [_], rfl, by simp_all [inside, tupA] <;> omega, rfl⟩
set_option maxRecDepth 100000 in
theorem checkRoot_eq (hn : 2 ≤ n) {h : AHeap} (r : Rt) : C n 19 [r.av] h = some (.ret (i64 (if rootOk r then 0 else 2)), h) := by
  obtain ⟨m, rfl⟩ : ∃ m, n = m + 1 := ⟨n - 1, by omega⟩
  have fine : fnOk Tryz.prog 67 = true := by kernel_rfl
  have cI : ∀ k, C m 67 [i64 k, .ptr 0 0 0] [rootC r] = some (.ret (.bool (inside r.pages k)), [rootC r]) := fun k => inside_eq (by omega) rfl k
  refine fun_pure F19 rfl rfl rfl rfl ?_
  repeat' (conv => whnf); first
    | refine br (fun _ => ?_) (fun _ => ?_)
    | refine ldI rfl ?_
    | refine cvI fine (cI _) ?_
    | refine eqI (eq_tree r) ?_
    | refine retP rfl (frz_int ?_)
  all_goals simp_all [rootOk]
  all_goals omega
end
end Go.Proofs
/- Contracts of chapter 5: the record of a root. -/
set_option linter.unusedVariables false
set_option linter.unusedSimpArgs false
namespace Go.Proofs
open Go Go.Abs
def fA (a w f : Nat) : AV := .agg [i64 a, i64 w, .fn (.func f) [] []]
abbrev fB (a w f : Nat) : AB := .cells 0 (some 138) [i64 a, i64 w, .fn (.func f) [] []] 0
def z64 : Str := List.replicate 64 0
def x0 : Str := 82 :: (List.replicate 62 0 ++ [82])
def y1 (r : Rt) : Str := lay x0 1 (num r.ver.toNat 6)
def y2 (r : Rt) : Str := lay (y1 r) 7 (num r.root.toNat 4)
def y3 (r : Rt) : Str := lay (y2 r) 11 (num r.count.toNat 4)
def y4 (r : Rt) : Str := lay (y3 r) 31 (num r.list.toNat 4)
def y5 (r : Rt) : Str := lay (y4 r) 35 (num r.pages.toNat 4)
def y6 (r : Rt) : Str := lay (y5 r) 15 r.sum.list
def y7 (r : Rt) : Str := lay (y6 r) 59 (num (crc ((y6 r).take 59)).toNat 4)
theorem x0_len : x0.length = 64 := rfl
theorem y1_len (r : Rt) : (y1 r).length = 64 := by unfold y1; rw [lay_len (by rw [num_len, x0_len]; decide), x0_len]
theorem y2_len (r : Rt) : (y2 r).length = 64 := by unfold y2; rw [lay_len (by rw [num_len, y1_len]; decide), y1_len]
theorem y3_len (r : Rt) : (y3 r).length = 64 := by unfold y3; rw [lay_len (by rw [num_len, y2_len]; decide), y2_len]
theorem y4_len (r : Rt) : (y4 r).length = 64 := by unfold y4; rw [lay_len (by rw [num_len, y3_len]; decide), y3_len]
theorem y5_len (r : Rt) : (y5 r).length = 64 := by unfold y5; rw [lay_len (by rw [num_len, y4_len]; decide), y4_len]
theorem y6_len (r : Rt) : (y6 r).length = 64 := by unfold y6; rw [lay_len (by rw [y5_len]; show 15 + 16 ≤ 64; decide), y5_len]
theorem y7_len (r : Rt) : (y7 r).length = 64 := by unfold y7; rw [lay_len (by rw [num_len, y6_len]; decide), y6_len]
theorem first_at (h : AHeap) {bb ver : Nat} {el : Option TypeId} {xs : List AV} {frz : Nat} (hb : h[bb]? = some (.cells ver el xs frz)) {o k len : Nat} (hk : k ≤ len) (hl : o + k ≤ xs.length) : firstA h 1 k (.sl 1 bb ver o len) = some ((xs.drop o).take k) := by
  unfold firstA
  simp only
  rw [if_pos ⟨hk, trivial⟩, hb]
  simp only
  rw [if_pos ⟨trivial, by omega⟩, Nat.mul_one]
theorem frz_bytes (h : AHeap) (s : Str) : frz h 64 (tupA [.agg (s.map u8)]) = some (.agg (s.map u8)) := frzOk_agg (n := 63) (fun x hx => by obtain ⟨c, _, rfl⟩ := List.mem_map.1 hx; exact frzOk_int) h
theorem lay_map (xs : Str) (p : Nat) (ys : Str) : putAt (xs.map u8) p (ys.map u8) = (lay xs p ys).map u8 := by
  unfold putAt lay
  simp [List.map_take, List.map_drop]
theorem rpart_all {cs : List AV} {n : Nat} (h : cs.length = n) : partR true n cs 0 = some (.agg cs) := by
  unfold partR
  rw [if_pos rfl, if_pos (by omega), List.drop_zero, List.take_of_length_le (by omega)]
section
variable {n : Nat} {h : AHeap}
theorem fields_eq (hn : 1 ≤ n) : C n 64 [] h = some (.ret (.lst 3 [fA 1 6 137, fA 7 4 138, fA 11 4 139, fA 31 4 140, fA 35 4 141] true), h) := by
  obtain ⟨m, rfl⟩ : ∃ m, n = m + 1 := ⟨n - 1, by omega⟩
  refine fun_pure F64 rfl rfl rfl rfl ?_
  conv => whnf
  refine ⟨rfl, ?_⟩
  conv => whnf
  exact ⟨rfl, [_], rfl, rfl⟩
theorem field1_eq (hn : 1 ≤ n) {h : AHeap} (b : Nat) : C n 137 [.ptr b 0 0] h = some (.ret (.ptr b 0 0), h) := by
  obtain ⟨m, rfl⟩ : ∃ m, n = m + 1 := ⟨n - 1, by omega⟩
  refine fun_inl F137 rfl rfl ?_
  conv => whnf
  exact ⟨rfl, [_], rfl, rfl, rfl⟩
theorem field2_eq (hn : 1 ≤ n) {h : AHeap} (b : Nat) : C n 138 [.ptr b 0 0] h = some (.ret (.ptr b 0 1), h) := by
  obtain ⟨m, rfl⟩ : ∃ m, n = m + 1 := ⟨n - 1, by omega⟩
  refine fun_inl F138 rfl rfl ?_
  conv => whnf
  exact ⟨rfl, [_], rfl, rfl, rfl⟩
theorem field3_eq (hn : 1 ≤ n) {h : AHeap} (b : Nat) : C n 139 [.ptr b 0 0] h = some (.ret (.ptr b 0 2), h) := by
  obtain ⟨m, rfl⟩ : ∃ m, n = m + 1 := ⟨n - 1, by omega⟩
  refine fun_inl F139 rfl rfl ?_
  conv => whnf
  exact ⟨rfl, [_], rfl, rfl, rfl⟩
theorem field4_eq (hn : 1 ≤ n) {h : AHeap} (b : Nat) : C n 140 [.ptr b 0 0] h = some (.ret (.ptr b 0 19), h) := by
  obtain ⟨m, rfl⟩ : ∃ m, n = m + 1 := ⟨n - 1, by omega⟩
  refine fun_inl F140 rfl rfl ?_
  conv => whnf
  exact ⟨rfl, [_], rfl, rfl, rfl⟩
theorem field5_eq (hn : 1 ≤ n) {h : AHeap} (b : Nat) : C n 141 [.ptr b 0 0] h = some (.ret (.ptr b 0 20), h) := by
  obtain ⟨m, rfl⟩ : ∃ m, n = m + 1 := ⟨n - 1, by omega⟩
  refine fun_inl F141 rfl rfl ?_
  conv => whnf
  exact ⟨rfl, [_], rfl, rfl, rfl⟩
/-- The memory of recordOf, round by round. -/
def hS (r : Rt) : Nat → AHeap
  | 0 => [rootC r, recC z64, recC x0]
  | 1 => [rootC r, recC z64, recC (y1 r), fB 1 6 137]
  | 2 => [rootC r, recC z64, recC (y2 r), fB 1 6 137, fB 7 4 138]
  | 3 => [rootC r, recC z64, recC (y3 r), fB 1 6 137, fB 7 4 138, fB 11 4 139]
  | 4 => [rootC r, recC z64, recC (y4 r), fB 1 6 137, fB 7 4 138, fB 11 4 139, fB 31 4 140]
  | _ => [rootC r, recC z64, recC (y5 r), fB 1 6 137, fB 7 4 138, fB 11 4 139, fB 31 4 140, fB 35 4 141]
set_option maxRecDepth 100000 in
theorem recordOf_loop {m : Nat} (hm : 1 ≤ m) (r : Rt) (v0 : 0 ≤ r.ver) (v1 : 0 ≤ r.root) (v2 : 0 ≤ r.count) (v3 : 0 ≤ r.list) (v4 : 0 ≤ r.pages) {Q : Ex → LS → Prop} {st : LS}
    (hs : LS.sub ⟨[(1, .ptr 0 0 0), (2, .ptr 1 0 0), (3, .ptr 2 0 0), (8, .lst 3 [fA 1 6 137, fA 7 4 138, fA 11 4 139, fA 31 4 140, fA 35 4 141] true), (9, i64 5), (10, i64 0)], hS r 0, []⟩ st)
    (hE : ∀ Lt, subL [(1, .ptr 0 0 0), (2, .ptr 1 0 0), (3, .ptr 2 0 0)] Lt → Q (.exit 0) ⟨Lt, hS r 5, []⟩) :
    OkR Tryz.prog (C m) cfg0.inl KK 36 6 (.loop (c59.lp 0)) st Q := by
  have p1 := put_eq (n := m) hm (hp := [rootC r, recC z64, recC x0, fB 1 6 137]) (b := 2) (xs := x0) ⟨rfl, x0_len⟩ 1 6 r.ver.toNat (by decide) (by decide)
  rw [Int.toNat_of_nonneg v0] at p1
  have p2 := put_eq (n := m) hm (hp := [rootC r, recC z64, recC (y1 r), fB 1 6 137, fB 7 4 138]) (b := 2) (xs := y1 r) ⟨rfl, y1_len r⟩ 7 4 r.root.toNat (by decide) (by decide)
  rw [Int.toNat_of_nonneg v1] at p2
  have p3 := put_eq (n := m) hm (hp := [rootC r, recC z64, recC (y2 r), fB 1 6 137, fB 7 4 138, fB 11 4 139]) (b := 2) (xs := y2 r) ⟨rfl, y2_len r⟩ 11 4 r.count.toNat (by decide) (by decide)
  rw [Int.toNat_of_nonneg v2] at p3
  have p4 := put_eq (n := m) hm (hp := [rootC r, recC z64, recC (y3 r), fB 1 6 137, fB 7 4 138, fB 11 4 139, fB 31 4 140]) (b := 2) (xs := y3 r) ⟨rfl, y3_len r⟩ 31 4 r.list.toNat (by decide) (by decide)
  rw [Int.toNat_of_nonneg v3] at p4
  have p5 := put_eq (n := m) hm (hp := [rootC r, recC z64, recC (y4 r), fB 1 6 137, fB 7 4 138, fB 11 4 139, fB 31 4 140, fB 35 4 141]) (b := 2) (xs := y4 r) ⟨rfl, y4_len r⟩ 35 4 r.pages.toNat (by decide) (by decide)
  rw [Int.toNat_of_nonneg v4] at p5
  refine loopI (by decide) rfl (α := Nat) (fun j => ⟨[(1, .ptr 0 0 0), (2, .ptr 1 0 0), (3, .ptr 2 0 0), (8, .lst 3 [fA 1 6 137, fA 7 4 138, fA 11 4 139, fA 31 4 140, fA 35 4 141] true), (9, i64 5), (10, i64 j)], hS r j, []⟩) (fun j => j ≤ 5) (fun j => 5 - j) 0 hs (by decide) (by decide) ?_
  intro j hj
  have hjs : j = 0 ∨ j = 1 ∨ j = 2 ∨ j = 3 ∨ j = 4 ∨ j = 5 := by omega
  rcases hjs with rfl | rfl | rfl | rfl | rfl | rfl
  · conv => whnf
    refine ⟨by decide, rfl, _, rfl, _, rfl, ?_⟩
    conv => whnf
    refine stI (by rfl) (xs := [i64 1, i64 6, .fn (.func 137) [] []]) (by rfl) (by rfl) (by rfl) (by rfl) ?_
    conv => whnf
    refine ldI (by rfl) ?_
    conv => whnf
    refine ldI (by rfl) ?_
    conv => whnf
    refine ldI (by rfl) ?_
    conv => whnf
    refine cvI (by kernel_rfl) (field1_eq hm 0) ?_
    conv => whnf
    refine ⟨?_, ?_⟩
    · repeat' first | ((conv => whnf) <;> done) | ((conv => whnf) <;> (first | (refine ldI rfl ?_; rfl) | refine ⟨?_, ?_⟩))
    conv => whnf
    refine ldI (by rfl) ?_
    conv => whnf
    refine clI p1 ?_
    conv => whnf
    refine ⟨?_, ?_⟩
    · repeat' first | ((conv => whnf) <;> done) | ((conv => whnf) <;> (first | (refine ldI rfl ?_; rfl) | refine ⟨?_, ?_⟩))
    conv => whnf
    refine zI (z := ((0 + 1 : Nat) : Int)) (by decide) ?_
    exact nxI (0 + 1) (by decide) (by decide) ⟨⟨rfl, rfl, rfl, rfl, rfl, rfl⟩, rfl, rfl⟩
  · conv => whnf
    refine ⟨by decide, rfl, _, rfl, _, rfl, ?_⟩
    conv => whnf
    refine stI (by rfl) (xs := [i64 7, i64 4, .fn (.func 138) [] []]) (by rfl) (by rfl) (by rfl) (by rfl) ?_
    conv => whnf
    refine ldI (by rfl) ?_
    conv => whnf
    refine ldI (by rfl) ?_
    conv => whnf
    refine ldI (by rfl) ?_
    conv => whnf
    refine cvI (by kernel_rfl) (field2_eq hm 0) ?_
    conv => whnf
    refine ⟨?_, ?_⟩
    · repeat' first | ((conv => whnf) <;> done) | ((conv => whnf) <;> (first | (refine ldI rfl ?_; rfl) | refine ⟨?_, ?_⟩))
    conv => whnf
    refine ldI (by rfl) ?_
    conv => whnf
    refine clI p2 ?_
    conv => whnf
    refine ⟨?_, ?_⟩
    · repeat' first | ((conv => whnf) <;> done) | ((conv => whnf) <;> (first | (refine ldI rfl ?_; rfl) | refine ⟨?_, ?_⟩))
    conv => whnf
    refine zI (z := ((1 + 1 : Nat) : Int)) (by decide) ?_
    exact nxI (1 + 1) (by decide) (by decide) ⟨⟨rfl, rfl, rfl, rfl, rfl, rfl⟩, rfl, rfl⟩
  · conv => whnf
    refine ⟨by decide, rfl, _, rfl, _, rfl, ?_⟩
    conv => whnf
    refine stI (by rfl) (xs := [i64 11, i64 4, .fn (.func 139) [] []]) (by rfl) (by rfl) (by rfl) (by rfl) ?_
    conv => whnf
    refine ldI (by rfl) ?_
    conv => whnf
    refine ldI (by rfl) ?_
    conv => whnf
    refine ldI (by rfl) ?_
    conv => whnf
    refine cvI (by kernel_rfl) (field3_eq hm 0) ?_
    conv => whnf
    refine ⟨?_, ?_⟩
    · repeat' first | ((conv => whnf) <;> done) | ((conv => whnf) <;> (first | (refine ldI rfl ?_; rfl) | refine ⟨?_, ?_⟩))
    conv => whnf
    refine ldI (by rfl) ?_
    conv => whnf
    refine clI p3 ?_
    conv => whnf
    refine ⟨?_, ?_⟩
    · repeat' first | ((conv => whnf) <;> done) | ((conv => whnf) <;> (first | (refine ldI rfl ?_; rfl) | refine ⟨?_, ?_⟩))
    conv => whnf
    refine zI (z := ((2 + 1 : Nat) : Int)) (by decide) ?_
    exact nxI (2 + 1) (by decide) (by decide) ⟨⟨rfl, rfl, rfl, rfl, rfl, rfl⟩, rfl, rfl⟩
  · conv => whnf
    refine ⟨by decide, rfl, _, rfl, _, rfl, ?_⟩
    conv => whnf
    refine stI (by rfl) (xs := [i64 31, i64 4, .fn (.func 140) [] []]) (by rfl) (by rfl) (by rfl) (by rfl) ?_
    conv => whnf
    refine ldI (by rfl) ?_
    conv => whnf
    refine ldI (by rfl) ?_
    conv => whnf
    refine ldI (by rfl) ?_
    conv => whnf
    refine cvI (by kernel_rfl) (field4_eq hm 0) ?_
    conv => whnf
    refine ⟨?_, ?_⟩
    · repeat' first | ((conv => whnf) <;> done) | ((conv => whnf) <;> (first | (refine ldI rfl ?_; rfl) | refine ⟨?_, ?_⟩))
    conv => whnf
    refine ldI (by rfl) ?_
    conv => whnf
    refine clI p4 ?_
    conv => whnf
    refine ⟨?_, ?_⟩
    · repeat' first | ((conv => whnf) <;> done) | ((conv => whnf) <;> (first | (refine ldI rfl ?_; rfl) | refine ⟨?_, ?_⟩))
    conv => whnf
    refine zI (z := ((3 + 1 : Nat) : Int)) (by decide) ?_
    exact nxI (3 + 1) (by decide) (by decide) ⟨⟨rfl, rfl, rfl, rfl, rfl, rfl⟩, rfl, rfl⟩
  · conv => whnf
    refine ⟨by decide, rfl, _, rfl, _, rfl, ?_⟩
    conv => whnf
    refine stI (by rfl) (xs := [i64 35, i64 4, .fn (.func 141) [] []]) (by rfl) (by rfl) (by rfl) (by rfl) ?_
    conv => whnf
    refine ldI (by rfl) ?_
    conv => whnf
    refine ldI (by rfl) ?_
    conv => whnf
    refine ldI (by rfl) ?_
    conv => whnf
    refine cvI (by kernel_rfl) (field5_eq hm 0) ?_
    conv => whnf
    refine ⟨?_, ?_⟩
    · repeat' first | ((conv => whnf) <;> done) | ((conv => whnf) <;> (first | (refine ldI rfl ?_; rfl) | refine ⟨?_, ?_⟩))
    conv => whnf
    refine ldI (by rfl) ?_
    conv => whnf
    refine clI p5 ?_
    conv => whnf
    refine ⟨?_, ?_⟩
    · repeat' first | ((conv => whnf) <;> done) | ((conv => whnf) <;> (first | (refine ldI rfl ?_; rfl) | refine ⟨?_, ?_⟩))
    conv => whnf
    refine zI (z := ((4 + 1 : Nat) : Int)) (by decide) ?_
    exact nxI (4 + 1) (by decide) (by decide) ⟨⟨rfl, rfl, rfl, rfl, rfl, rfl⟩, rfl, rfl⟩
  · conv => whnf
    exact hE _ ⟨rfl, rfl, rfl⟩
def rcTail : RC := match c59 with
  | .seq _ (.seq _ (.seq _ (.seq _ (.cut x)))) => x
  | _ => .skip
set_option maxRecDepth 100000 in
theorem recordOf_tail {m : Nat} (hm : 1 ≤ m) (r : Rt) (Y : Str) (hY : Y.length = 64) (f1 f2 f3 f4 f5 : AB) (W : Str) (hW : W = lay (lay Y 15 r.sum.list) 59 (num (crc ((lay Y 15 r.sum.list).take 59)).toNat 4)) : Wp Tryz.prog (C m) cfg0.inl KK 36 6 rcTail ⟨[(1, .ptr 0 0 0), (2, .ptr 1 0 0), (3, .ptr 2 0 0)], [rootC r, recC z64, recC Y, f1, f2, f3, f4, f5], []⟩ (RetQ Tryz.prog [.cell 2 tRec] fun v' h' => frz h' 64 v' = some (.agg (W.map u8))) := by
  obtain ⟨Z, hZ⟩ : ∃ Z, Z = lay Y 15 r.sum.list := ⟨_, rfl⟩
  rw [← hZ] at hW
  have lZ : Z.length = 64 := by rw [hZ, lay_len (by rw [hY]; show 15 + 16 ≤ 64; decide), hY]
  have lW : W.length = 64 := by rw [hW, lay_len (by rw [num_len, lZ]; decide), lZ]
  obtain ⟨k, hk⟩ : ∃ k, crc (Z.take 59) = k := ⟨_, rfl⟩
  rw [hk] at hW
  have pc : C m 135 [.str (Z.take 59)] [rootC r, recC z64, recC Z, f1, f2, f3, f4, f5] = some (.ret (u32 k), [rootC r, recC z64, recC Z, f1, f2, f3, f4, f5]) := by
    rw [← hk]; exact crcC_eq (by omega) _ (by rw [List.length_take]; omega)
  have pp := put_eq (n := m) (by omega) (hp := [rootC r, recC z64, recC Z, f1, f2, f3, f4, f5]) (b := 2) (xs := Z) ⟨rfl, lZ⟩ 59 4 k.toNat (by decide) (by decide)
  rw [← hW] at pp
  have l5 : (Y.map u8).length = 64 := by rw [List.length_map, hY]
  have l6 : (Z.map u8).length = 64 := by rw [List.length_map, lZ]
  have l7 : (W.map u8).length = 64 := by rw [List.length_map, lW]
  have ec : cpyR [rootC r, recC z64, recC Y, f1, f2, f3, f4, f5] 1 (.sl 1 2 0 15 49) (.sl 1 0 0 3 16) = some (.int .i64 16, some [rootC r, recC z64, recC Z, f1, f2, f3, f4, f5]) := by
    have g2 : ([rootC r, recC z64, recC Y, f1, f2, f3, f4, f5] : AHeap)[2]? = some (recC Y) := rfl
    have g0 : ([rootC r, recC z64, recC Y, f1, f2, f3, f4, f5] : AHeap)[0]? = some (rootC r) := rfl
    unfold cpyR
    simp only [slLen, lenA]
    rw [show min 16 49 = 16 from rfl, first_at _ g0 (Nat.le_refl 16) (show 3 + 16 ≤ 21 by decide)]
    simp only
    rw [if_neg (by decide), g2]
    simp only
    have e : (r.cells.drop 3).take 16 = r.sum.list.map u8 := rfl
    rw [e, if_pos ⟨trivial, trivial, Nat.zero_le _, by rw [l5]; show 15 + 16 ≤ 64; decide, u8_scal _⟩, lay_map, hZ]
    rfl
  clear hW hZ hk
  conv => whnf
  refine ⟨_, _, _, rfl, ⟨by rw [l5]; decide, by decide⟩, ?_⟩
  refine slI (v := .sl 1 2 0 15 49) rfl ?_
  conv => whnf
  refine ⟨_, _, _, rfl, ⟨show 0 + 1 + 2 + 16 * 1 ≤ 21 by decide, by decide⟩, ?_⟩
  refine slI (v := .sl 1 0 0 3 16) rfl ?_
  conv => whnf
  refine ⟨_, ec, ?_⟩
  conv => whnf
  refine ⟨?_, ?_⟩
  · conv => whnf
    refine ⟨?_, ?_⟩
    · conv => whnf
      refine ⟨_, _, _, rfl, ⟨show 0 + 1 + 2 + 16 * 1 ≤ 21 by decide, by decide⟩, ?_⟩
      exact slI (v := .sl 1 0 0 3 16) rfl rfl
    conv => whnf
    refine ⟨_, _, _, rfl, ⟨by rw [l6]; decide, by decide⟩, ?_⟩
    exact slI (v := .sl 1 2 0 15 49) rfl rfl
  conv => whnf
  refine ⟨_, _, _, rfl, ⟨by rw [l6]; decide, by decide⟩, ?_⟩
  refine slI (v := .sl 1 2 0 0 59) rfl ?_
  conv => whnf
  refine ⟨_, Z.take 59, ?_, toBytes_map _, ?_⟩
  · rw [first_at (xs := Z.map u8) (el := some tRec) (frz := 0) _ rfl (Nat.le_refl 59) (by rw [l6]; decide), List.drop_zero, List.map_take]
  conv => whnf
  refine clI pc ?_
  conv => whnf
  refine zI (z := (k.toNat : Int)) (by have := k.toNat_lt; exact wrap_i64 (by omega) (by omega)) ?_
  conv => whnf
  refine clI pp ?_
  conv => whnf
  refine ldI (cs := W.map u8) rfl ?_
  refine wpartI (rpart_all l7) ?_
  conv => whnf
  have hput : putAt (z64.map u8) 0 (W.map u8) = W.map u8 := by
    unfold putAt
    rw [List.take_zero, List.nil_append, List.drop_of_length_le (by rw [l7]; decide), List.append_nil]
  refine stI (xs := W.map u8) (cs := z64.map u8) rfl (cells_of (u8_scal _)) l7 (by rw [l7]; rfl) (by rfl) ?_
  refine ⟨rfl, [.agg (W.map u8)], ?_, ?_⟩
  · have := load_agg (h := [rootC r, .cells 0 (some tRec) (putAt (z64.map u8) 0 (W.map u8)) 0, recC W, f1, f2, f3, f4, f5]) (t := tRec) (N := 64) (b := 1) (ver := 0) (el := some tRec) (cs := W.map u8) (f := 0) (by kernel_rfl) l7 (by rw [hput]; rfl)
    show (match loadA Tryz.prog [rootC r, .cells 0 (some tRec) (putAt (z64.map u8) 0 (W.map u8)) 0, recC W, f1, f2, f3, f4, f5] tRec (.ptr 1 0 0) with | some v => some [v] | none => none) = _
    rw [this]
  · exact frz_bytes _ _
set_option maxRecDepth 100000 in
theorem recordOf_eq (hn : 2 ≤ n) (r : Rt) (v0 : 0 ≤ r.ver) (v1 : 0 ≤ r.root) (v2 : 0 ≤ r.count) (v3 : 0 ≤ r.list) (v4 : 0 ≤ r.pages) : C n 59 [r.av] h = some (.ret (.agg ((y7 r).map u8)), h) := by
  obtain ⟨m, rfl⟩ : ∃ m, n = m + 1 := ⟨n - 1, by omega⟩
  refine fun_pure F59 rfl rfl rfl rfl ?_
  conv => whnf
  refine ⟨by decide, by decide, ?_⟩
  conv => whnf
  refine stI (by rfl) (by rfl) (by rfl) (by rfl) (by rfl) ?_
  conv => whnf
  refine ⟨by decide, by decide, ?_⟩
  conv => whnf
  refine stI (by rfl) (by rfl) (by rfl) (by rfl) (by rfl) ?_
  conv => whnf
  refine clI (fields_eq (by omega)) ?_
  conv => whnf
  refine recordOf_loop (by omega) r v0 v1 v2 v3 v4 ⟨⟨rfl, rfl, rfl, rfl, rfl, rfl⟩, rfl, rfl⟩ (fun L hL => ?_)
  conv => whnf
  refine cutI (by decide) rfl (t := ⟨[(1, .ptr 0 0 0), (2, .ptr 1 0 0), (3, .ptr 2 0 0)], hS r 5, []⟩) ⟨hL, rfl, rfl⟩ ?_
  exact recordOf_tail (by omega) r (y5 r) (y5_len r) _ _ _ _ _ (y7 r) rfl
end
end Go.Proofs
/- Contracts of chapter 5: a record written and read. -/
set_option linter.unusedVariables false
set_option linter.unusedSimpArgs false
namespace Go.Proofs
open Go Go.Abs
def Rt.zero : Rt := ⟨0, 0, 0, Dg.zero, 0, 0⟩
theorem eq_rec (a b : Str) (ha : a.length = 64) (hb : b.length = 64) : eqA Tryz.prog 20 tRec (.agg (a.map u8)) (.agg (b.map u8)) = some (decide (a = b)) := by
  have e0 : Tryz.prog.underlying tRec = some (.array 64 5) := by kernel_rfl
  obtain ⟨d, e1, e2⟩ : ∃ d, ti Tryz.prog 5 = some d ∧ (isAggD d.desc = false ∧ d.size = 1) := by
    have : (ti Tryz.prog 5).map (fun d => (isAggD d.desc, d.size)) = some (false, 1) := by kernel_rfl
    obtain ⟨d, h1, h2⟩ := Option.map_eq_some_iff.1 this
    simp only [Prod.mk.injEq] at h2
    exact ⟨d, h1, h2⟩
  unfold eqA
  simp only [e0, e1]
  unfold itemsF
  rw [if_pos ⟨e2.1, e2.2, by rw [List.length_map, ha], by rw [List.length_map, hb]⟩]
  simp only
  have e2 : ∀ (x y : UInt8), eqA Tryz.prog 19 5 (.int .u8 x.toNat) (.int .u8 y.toNat) = some (((x.toNat : Nat) : Int) == y.toNat) := fun x y => by kernel_rfl
  exact allEq_u8 (fun x y => by rw [e2, eq_u8]) a b (by rw [ha, hb])
section
variable {n : Nat} {h : AHeap}
/-- What Record answers. -/
def recR (r : Rt) : AV := if rootOk r then .tup [.str (y7 r), i64 0] else .tup [.str [], i64 2]
theorem rootOk_nn {r : Rt} (h : rootOk r = true) : 0 ≤ r.ver ∧ 0 ≤ r.root ∧ 0 ≤ r.count ∧ 0 ≤ r.list ∧ 0 ≤ r.pages := by
  unfold rootOk inside noTree at h
  simp only [Bool.and_eq_true, Bool.or_eq_true, decide_eq_true_eq, beq_iff_eq] at h
  omega
set_option maxRecDepth 100000 in
theorem record_eq (hn : 3 ≤ n) (r : Rt) : C n 15 [r.av] h = some (.ret (recR r), h) := by
  obtain ⟨m, rfl⟩ : ∃ m, n = m + 1 := ⟨n - 1, by omega⟩
  refine fun_pure F15 rfl rfl rfl rfl ?_
  have ck := fun h : AHeap => checkRoot_eq (n := m) (by omega) (h := h) r
  unfold recR
  cases ok : rootOk r with
  | false =>
    rw [ok] at ck
    conv => whnf
    refine ldI rfl ?_
    conv => whnf
    refine clI (ck _) ?_
    conv => whnf
    exact retP rfl rfl
  | true =>
    rw [ok] at ck
    obtain ⟨v0, v1, v2, v3, v4⟩ := rootOk_nn ok
    have rr := fun h : AHeap => recordOf_eq (n := m) (by omega) (h := h) r v0 v1 v2 v3 v4
    have ly := y7_len r
    generalize y7 r = Y at rr ly ⊢
    have l7 : (Y.map u8).length = 64 := by rw [List.length_map, ly]
    conv => whnf
    refine ldI rfl ?_
    conv => whnf
    refine clI (ck _) ?_
    conv => whnf
    refine ldI rfl ?_
    conv => whnf
    refine clI (rr _) ?_
    conv => whnf
    have hput : putAt (z64.map u8) 0 (Y.map u8) = Y.map u8 := by
      unfold putAt
      rw [List.take_zero, List.nil_append, List.drop_of_length_le (by rw [l7]; decide), List.append_nil]
    refine stI (xs := Y.map u8) (cs := z64.map u8) rfl (cells_of (u8_scal _)) l7 (by rw [l7]; rfl) (by rfl) ?_
    conv => whnf
    refine ⟨_, _, _, rfl, ⟨by rw [hput, l7]; decide, by decide⟩, ?_⟩
    refine slI (v := .sl 1 1 0 0 64) rfl ?_
    conv => whnf
    refine ⟨_, Y, ?_, toBytes_map _, ?_⟩
    · rw [first_at (xs := putAt (z64.map u8) 0 (Y.map u8)) (el := some tRec) (frz := 0) _ rfl (Nat.le_refl 64) (by rw [hput, l7]; decide), hput, List.drop_zero, List.take_of_length_le (by rw [l7]; decide)]
    conv => whnf
    exact retP rfl rfl
end
end Go.Proofs
/- Contracts of chapter 5: a record read. -/
set_option linter.unusedVariables false
set_option linter.unusedSimpArgs false
namespace Go.Proofs
open Go Go.Abs
abbrev byC (s : Str) : AB := .cells 0 none (s.map u8) 0
def part (s : Str) (a w : Nat) : Nat := unnum ((s.drop a).take w)
def q5 (s : Str) : Rt := ⟨part s 1 6, part s 7 4, part s 11 4, dgOf ((s.drop 15).take 16), part s 31 4, part s 35 4⟩
/-- The memory of Parse, round by round. -/
def hQ (s : Str) : Nat → AHeap
  | 0 => [rootC .zero, byC s, recC s, rootC .zero]
  | 1 => [rootC .zero, byC s, recC s, rootC ⟨part s 1 6, 0, 0, Dg.zero, 0, 0⟩, fB 1 6 137]
  | 2 => [rootC .zero, byC s, recC s, rootC ⟨part s 1 6, part s 7 4, 0, Dg.zero, 0, 0⟩, fB 1 6 137, fB 7 4 138]
  | 3 => [rootC .zero, byC s, recC s, rootC ⟨part s 1 6, part s 7 4, part s 11 4, Dg.zero, 0, 0⟩, fB 1 6 137, fB 7 4 138, fB 11 4 139]
  | 4 => [rootC .zero, byC s, recC s, rootC ⟨part s 1 6, part s 7 4, part s 11 4, Dg.zero, part s 31 4, 0⟩, fB 1 6 137, fB 7 4 138, fB 11 4 139, fB 31 4 140]
  | _ => [rootC .zero, byC s, recC s, rootC ⟨part s 1 6, part s 7 4, part s 11 4, Dg.zero, part s 31 4, part s 35 4⟩, fB 1 6 137, fB 7 4 138, fB 11 4 139, fB 31 4 140, fB 35 4 141]
set_option maxRecDepth 100000 in
theorem parse_loop {m : Nat} (hm : 1 ≤ m) (s : Str) (hs : s.length = 64) {Q : Ex → LS → Prop} {st : LS}
    (hst : LS.sub ⟨[(2, .ptr 0 0 0), (4, .ptr 2 0 0), (5, .ptr 3 0 0), (16, .lst 3 [fA 1 6 137, fA 7 4 138, fA 11 4 139, fA 31 4 140, fA 35 4 141] true), (17, i64 5), (18, i64 0)], hQ s 0, []⟩ st)
    (hE : ∀ Lt, subL [(2, .ptr 0 0 0), (4, .ptr 2 0 0), (5, .ptr 3 0 0)] Lt → Q (.exit 0) ⟨Lt, hQ s 5, []⟩) :
    OkR Tryz.prog (C m) cfg0.inl KK 48 6 (.loop (c17.lp 0)) st Q := by
  refine loopI (by decide) rfl (α := Nat) (fun j => ⟨[(2, .ptr 0 0 0), (4, .ptr 2 0 0), (5, .ptr 3 0 0), (16, .lst 3 [fA 1 6 137, fA 7 4 138, fA 11 4 139, fA 31 4 140, fA 35 4 141] true), (17, i64 5), (18, i64 j)], hQ s j, []⟩) (fun j => j ≤ 5) (fun j => 5 - j) 0 hst (by decide) (by decide) ?_
  intro j hj
  have hjs : j = 0 ∨ j = 1 ∨ j = 2 ∨ j = 3 ∨ j = 4 ∨ j = 5 := by omega
  rcases hjs with rfl | rfl | rfl | rfl | rfl | rfl
  · conv => whnf
    refine ⟨by decide, rfl, _, rfl, _, rfl, ?_⟩
    conv => whnf
    refine stI (by rfl) (xs := [i64 1, i64 6, .fn (.func 137) [] []]) (by rfl) (by rfl) (by rfl) (by rfl) ?_
    conv => whnf
    refine ldI (by rfl) ?_
    conv => whnf
    refine ldI (by rfl) ?_
    conv => whnf
    refine ldI (by rfl) ?_
    conv => whnf
    refine cvI (by kernel_rfl) (field1_eq hm 3) ?_
    conv => whnf
    refine ⟨?_, ?_⟩
    · repeat' first | ((conv => whnf) <;> done) | ((conv => whnf) <;> (first | (refine ldI rfl ?_; rfl) | refine ⟨?_, ?_⟩))
    conv => whnf
    refine clI (get_eq hm ⟨rfl, hs⟩ 1 6 (by decide) (by decide) (by decide)) ?_
    conv => whnf
    refine ⟨?_, ?_⟩
    · repeat' first | ((conv => whnf) <;> done) | ((conv => whnf) <;> (first | (refine ldI rfl ?_; rfl) | refine ⟨?_, ?_⟩))
    conv => whnf
    refine stI (by rfl) (by rfl) (by rfl) (by rfl) (by rfl) ?_
    conv => whnf
    refine zI (z := ((0 + 1 : Nat) : Int)) (by decide) ?_
    exact nxI (0 + 1) (by decide) (by decide) ⟨⟨rfl, rfl, rfl, rfl, rfl, rfl⟩, rfl, rfl⟩
  · conv => whnf
    refine ⟨by decide, rfl, _, rfl, _, rfl, ?_⟩
    conv => whnf
    refine stI (by rfl) (xs := [i64 7, i64 4, .fn (.func 138) [] []]) (by rfl) (by rfl) (by rfl) (by rfl) ?_
    conv => whnf
    refine ldI (by rfl) ?_
    conv => whnf
    refine ldI (by rfl) ?_
    conv => whnf
    refine ldI (by rfl) ?_
    conv => whnf
    refine cvI (by kernel_rfl) (field2_eq hm 3) ?_
    conv => whnf
    refine ⟨?_, ?_⟩
    · repeat' first | ((conv => whnf) <;> done) | ((conv => whnf) <;> (first | (refine ldI rfl ?_; rfl) | refine ⟨?_, ?_⟩))
    conv => whnf
    refine clI (get_eq hm ⟨rfl, hs⟩ 7 4 (by decide) (by decide) (by decide)) ?_
    conv => whnf
    refine ⟨?_, ?_⟩
    · repeat' first | ((conv => whnf) <;> done) | ((conv => whnf) <;> (first | (refine ldI rfl ?_; rfl) | refine ⟨?_, ?_⟩))
    conv => whnf
    refine stI (by rfl) (by rfl) (by rfl) (by rfl) (by rfl) ?_
    conv => whnf
    refine zI (z := ((1 + 1 : Nat) : Int)) (by decide) ?_
    exact nxI (1 + 1) (by decide) (by decide) ⟨⟨rfl, rfl, rfl, rfl, rfl, rfl⟩, rfl, rfl⟩
  · conv => whnf
    refine ⟨by decide, rfl, _, rfl, _, rfl, ?_⟩
    conv => whnf
    refine stI (by rfl) (xs := [i64 11, i64 4, .fn (.func 139) [] []]) (by rfl) (by rfl) (by rfl) (by rfl) ?_
    conv => whnf
    refine ldI (by rfl) ?_
    conv => whnf
    refine ldI (by rfl) ?_
    conv => whnf
    refine ldI (by rfl) ?_
    conv => whnf
    refine cvI (by kernel_rfl) (field3_eq hm 3) ?_
    conv => whnf
    refine ⟨?_, ?_⟩
    · repeat' first | ((conv => whnf) <;> done) | ((conv => whnf) <;> (first | (refine ldI rfl ?_; rfl) | refine ⟨?_, ?_⟩))
    conv => whnf
    refine clI (get_eq hm ⟨rfl, hs⟩ 11 4 (by decide) (by decide) (by decide)) ?_
    conv => whnf
    refine ⟨?_, ?_⟩
    · repeat' first | ((conv => whnf) <;> done) | ((conv => whnf) <;> (first | (refine ldI rfl ?_; rfl) | refine ⟨?_, ?_⟩))
    conv => whnf
    refine stI (by rfl) (by rfl) (by rfl) (by rfl) (by rfl) ?_
    conv => whnf
    refine zI (z := ((2 + 1 : Nat) : Int)) (by decide) ?_
    exact nxI (2 + 1) (by decide) (by decide) ⟨⟨rfl, rfl, rfl, rfl, rfl, rfl⟩, rfl, rfl⟩
  · conv => whnf
    refine ⟨by decide, rfl, _, rfl, _, rfl, ?_⟩
    conv => whnf
    refine stI (by rfl) (xs := [i64 31, i64 4, .fn (.func 140) [] []]) (by rfl) (by rfl) (by rfl) (by rfl) ?_
    conv => whnf
    refine ldI (by rfl) ?_
    conv => whnf
    refine ldI (by rfl) ?_
    conv => whnf
    refine ldI (by rfl) ?_
    conv => whnf
    refine cvI (by kernel_rfl) (field4_eq hm 3) ?_
    conv => whnf
    refine ⟨?_, ?_⟩
    · repeat' first | ((conv => whnf) <;> done) | ((conv => whnf) <;> (first | (refine ldI rfl ?_; rfl) | refine ⟨?_, ?_⟩))
    conv => whnf
    refine clI (get_eq hm ⟨rfl, hs⟩ 31 4 (by decide) (by decide) (by decide)) ?_
    conv => whnf
    refine ⟨?_, ?_⟩
    · repeat' first | ((conv => whnf) <;> done) | ((conv => whnf) <;> (first | (refine ldI rfl ?_; rfl) | refine ⟨?_, ?_⟩))
    conv => whnf
    refine stI (by rfl) (by rfl) (by rfl) (by rfl) (by rfl) ?_
    conv => whnf
    refine zI (z := ((3 + 1 : Nat) : Int)) (by decide) ?_
    exact nxI (3 + 1) (by decide) (by decide) ⟨⟨rfl, rfl, rfl, rfl, rfl, rfl⟩, rfl, rfl⟩
  · conv => whnf
    refine ⟨by decide, rfl, _, rfl, _, rfl, ?_⟩
    conv => whnf
    refine stI (by rfl) (xs := [i64 35, i64 4, .fn (.func 141) [] []]) (by rfl) (by rfl) (by rfl) (by rfl) ?_
    conv => whnf
    refine ldI (by rfl) ?_
    conv => whnf
    refine ldI (by rfl) ?_
    conv => whnf
    refine ldI (by rfl) ?_
    conv => whnf
    refine cvI (by kernel_rfl) (field5_eq hm 3) ?_
    conv => whnf
    refine ⟨?_, ?_⟩
    · repeat' first | ((conv => whnf) <;> done) | ((conv => whnf) <;> (first | (refine ldI rfl ?_; rfl) | refine ⟨?_, ?_⟩))
    conv => whnf
    refine clI (get_eq hm ⟨rfl, hs⟩ 35 4 (by decide) (by decide) (by decide)) ?_
    conv => whnf
    refine ⟨?_, ?_⟩
    · repeat' first | ((conv => whnf) <;> done) | ((conv => whnf) <;> (first | (refine ldI rfl ?_; rfl) | refine ⟨?_, ?_⟩))
    conv => whnf
    refine stI (by rfl) (by rfl) (by rfl) (by rfl) (by rfl) ?_
    conv => whnf
    refine zI (z := ((4 + 1 : Nat) : Int)) (by decide) ?_
    exact nxI (4 + 1) (by decide) (by decide) ⟨⟨rfl, rfl, rfl, rfl, rfl, rfl⟩, rfl, rfl⟩
  · conv => whnf
    exact hE _ ⟨rfl, rfl, rfl⟩
def rcTailP : RC := match c17 with
  | .seq _ (.seq _ (.seq _ (.seq _ (.seq _ (.cut x))))) => x
  | _ => .skip
/-- What Parse answers. -/
def parR (s : Str) : AV := if s.length = 64 ∧ rootOk (q5 s) = true ∧ y7 (q5 s) = s then .tup [(q5 s).av, i64 0] else .tup [Rt.zero.av, i64 8]
set_option maxRecDepth 100000 in
theorem parse_tail {m : Nat} (hm : 2 ≤ m) (s : Str) (hs : s.length = 64) : Wp Tryz.prog (C m) cfg0.inl KK 48 6 rcTailP ⟨[(2, .ptr 0 0 0), (4, .ptr 2 0 0), (5, .ptr 3 0 0)], hQ s 5, []⟩ (RetQ Tryz.prog [.cell 2 tRoot, .tmp 3] fun v' h' => frz h' 64 v' = some (parR s)) := by
  have hp : ∃ q : Rt, q5 s = q ∧ ((s.map u8).drop 15).take 16 = q.sum.list.map u8 ∧ hQ s 5 = [rootC .zero, byC s, recC s, rootC ⟨q.ver, q.root, q.count, Dg.zero, q.list, q.pages⟩, fB 1 6 137, fB 7 4 138, fB 11 4 139, fB 31 4 140, fB 35 4 141] := by
    refine ⟨_, rfl, ?_, rfl⟩
    have : (dgOf ((s.drop 15).take 16)).bytes = (s.drop 15).take 16 := dgOf_bytes _ (by simp; omega)
    show _ = (dgOf ((s.drop 15).take 16)).bytes.map u8
    rw [this, List.map_take, List.map_drop]
  obtain ⟨q, hq, hsum, hh⟩ := hp
  rw [hh]
  generalize fB 1 6 137 = f1
  generalize fB 7 4 138 = f2
  generalize fB 11 4 139 = f3
  generalize fB 31 4 140 = f4
  generalize fB 35 4 141 = f5
  unfold parR
  rw [hq]
  have l5 : (s.map u8).length = 64 := by rw [List.length_map, hs]
  have ec : cpyR [rootC .zero, byC s, recC s, rootC ⟨q.ver, q.root, q.count, Dg.zero, q.list, q.pages⟩, f1, f2, f3, f4, f5] 1 (.sl 1 3 0 3 16) (.sl 1 2 0 15 49) = some (.int .i64 16, some [rootC .zero, byC s, recC s, rootC q, f1, f2, f3, f4, f5]) := by
    have g2 : ([rootC .zero, byC s, recC s, rootC ⟨q.ver, q.root, q.count, Dg.zero, q.list, q.pages⟩, f1, f2, f3, f4, f5] : AHeap)[2]? = some (recC s) := rfl
    have g3 : ([rootC .zero, byC s, recC s, rootC ⟨q.ver, q.root, q.count, Dg.zero, q.list, q.pages⟩, f1, f2, f3, f4, f5] : AHeap)[3]? = some (rootC ⟨q.ver, q.root, q.count, Dg.zero, q.list, q.pages⟩) := rfl
    unfold cpyR
    simp only [slLen, lenA]
    rw [show min 49 16 = 16 from rfl, first_at _ g2 (show 16 ≤ 49 by decide) (by rw [l5]; decide)]
    simp only
    rw [if_neg (by decide), g3, hsum]
    simp only
    rw [if_pos ⟨trivial, trivial, Nat.zero_le _, by show 3 + 16 ≤ 21; decide, u8_scal _⟩]
    rfl
  clear hq hsum hh
  have ck := fun h : AHeap => checkRoot_eq (n := m) (by omega) (h := h) q
  conv => whnf
  refine ⟨_, _, _, rfl, ⟨show 0 + 1 + 2 + 16 * 1 ≤ 21 by decide, by decide⟩, ?_⟩
  refine slI (v := .sl 1 3 0 3 16) rfl ?_
  conv => whnf
  refine ⟨_, _, _, rfl, ⟨by rw [l5]; decide, by decide⟩, ?_⟩
  refine slI (v := .sl 1 2 0 15 49) rfl ?_
  conv => whnf
  refine ⟨_, ec, ?_⟩
  conv => whnf
  refine ⟨?_, ?_⟩
  · conv => whnf
    refine ⟨?_, ?_⟩
    · conv => whnf
      refine ⟨_, _, _, rfl, ⟨by rw [l5]; decide, by decide⟩, ?_⟩
      exact slI (v := .sl 1 2 0 15 49) rfl rfl
    conv => whnf
    refine ⟨_, _, _, rfl, ⟨show 0 + 1 + 2 + 16 * 1 ≤ 21 by decide, by decide⟩, ?_⟩
    exact slI (v := .sl 1 3 0 3 16) rfl rfl
  conv => whnf
  refine ldI rfl ?_
  conv => whnf
  cases ok : rootOk q with
  | false =>
    rw [ok] at ck
    rw [if_neg (by simp)]
    refine clI (ck _) ?_
    conv => whnf
    refine stI (by rfl) (by rfl) (by rfl) (by rfl) (by rfl) ?_
    exact ⟨rfl, [Rt.zero.av, i64 8], rfl, rfl⟩
  | true =>
    rw [ok] at ck
    obtain ⟨v0, v1, v2, v3, v4⟩ := rootOk_nn ok
    have rr := fun h : AHeap => recordOf_eq (n := m) (by omega) (h := h) q v0 v1 v2 v3 v4
    have ly := y7_len q
    generalize y7 q = Y at rr ly ⊢
    have er := eq_rec Y s ly hs
    by_cases e : Y = s
    · rw [if_pos ⟨hs, rfl, e⟩]
      rw [show decide (Y = s) = true by simp [e]] at er
      refine clI (ck _) ?_
      conv => whnf
      refine ldI rfl ?_
      conv => whnf
      refine clI (rr _) ?_
      conv => whnf
      refine ldI rfl ?_
      refine wpartI (rpart_all l5) ?_
      conv => whnf
      refine eqI er ?_
      conv => whnf
      refine ldI rfl ?_
      conv => whnf
      refine stI (by rfl) (by rfl) (by rfl) (by rfl) (by rfl) ?_
      exact ⟨rfl, [q.av, i64 0], rfl, rfl⟩
    · rw [if_neg (fun h => e h.2.2)]
      rw [show decide (Y = s) = false by simp [e]] at er
      refine clI (ck _) ?_
      conv => whnf
      refine ldI rfl ?_
      conv => whnf
      refine clI (rr _) ?_
      conv => whnf
      refine ldI rfl ?_
      refine wpartI (rpart_all l5) ?_
      conv => whnf
      refine eqI er ?_
      conv => whnf
      refine stI (by rfl) (by rfl) (by rfl) (by rfl) (by rfl) ?_
      exact ⟨rfl, [Rt.zero.av, i64 8], rfl, rfl⟩
set_option maxRecDepth 100000 in
theorem parse_eq {n : Nat} (hn : 3 ≤ n) {h : AHeap} (s : Str) (hl : s.length < 1099511627776) : C n 17 [.str s] h = some (.ret (parR s), h) := by
  obtain ⟨m, rfl⟩ : ∃ m, n = m + 1 := ⟨n - 1, by omega⟩
  refine fun_pure F17 rfl rfl rfl rfl ?_
  by_cases hs : s.length = 64
  · have l5 : (s.map u8).length = 64 := by rw [List.length_map, hs]
    have hput : putAt (z64.map u8) 0 (s.map u8) = s.map u8 := by
      unfold putAt
      rw [List.take_zero, List.nil_append, List.drop_of_length_le (by rw [l5]; decide), List.append_nil]
    conv => whnf
    refine brq (fun a => absurd hs (by omega)) (fun _ => ?_)
    conv => whnf
    refine ⟨by omega, ?_⟩
    conv => whnf
    refine ldI rfl ?_
    refine wpartI (rpart_all l5) ?_
    conv => whnf
    refine stI (xs := s.map u8) (cs := z64.map u8) rfl (cells_of (u8_scal _)) l5 (by rw [l5]; rfl) (by rfl) ?_
    rw [hput]
    conv => whnf
    refine clI (fields_eq (by omega)) ?_
    conv => whnf
    refine parse_loop (by omega) s hs ⟨⟨rfl, rfl, rfl, rfl, rfl, rfl⟩, rfl, rfl⟩ (fun L hL => ?_)
    conv => whnf
    refine cutI (by decide) rfl (t := ⟨[(2, .ptr 0 0 0), (4, .ptr 2 0 0), (5, .ptr 3 0 0)], hQ s 5, []⟩) ⟨hL, rfl, rfl⟩ ?_
    exact parse_tail (by omega) s hs
  · unfold parR
    rw [if_neg (fun h => hs h.1)]
    conv => whnf
    refine brq (fun _ => ?_) (fun a => absurd a (by omega))
    conv => whnf
    refine stI (by rfl) (by rfl) (by rfl) (by rfl) (by rfl) ?_
    exact ⟨rfl, [Rt.zero.av, i64 8], rfl, rfl⟩
end Go.Proofs
/- Plain law of chapter 5: a record's bytes. -/
set_option linter.unusedVariables false
set_option linter.unusedSimpArgs false
namespace Go.Proofs
open Go Go.Abs
theorem lay_mid {A M B Ys xs : Str} {k : Nat} (hx : xs = A ++ (M ++ B)) (hA : A.length = k) (hM : M.length = Ys.length) : lay xs k Ys = A ++ (Ys ++ B) := by
  subst hx
  unfold lay
  rw [List.take_append_of_le_length (by omega), List.take_of_length_le (by omega), ← hA, List.drop_append, List.drop_of_length_le (by omega), List.nil_append, Nat.add_sub_cancel_left, List.drop_append, List.drop_of_length_le (by omega), List.nil_append, hM, Nat.sub_self, List.drop_zero, List.append_assoc]
def recBody (r : Rt) : Str := 82 :: (num r.ver.toNat 6 ++ (num r.root.toNat 4 ++ (num r.count.toNat 4 ++ (r.sum.list ++ (num r.list.toNat 4 ++ (num r.pages.toNat 4 ++ zeros 20))))))
def recL (r : Rt) : Str := recBody r ++ (num (crc (recBody r)).toNat 4 ++ [82])
theorem recBody_len (r : Rt) : (recBody r).length = 59 := by
  unfold recBody
  simp only [List.length_cons, List.length_append, num_len, zeros_len]
  rfl
theorem recL_len (r : Rt) : (recL r).length = 64 := by
  unfold recL
  simp only [List.length_cons, List.length_append, num_len, recBody_len, List.length_nil]
theorem y7_recL (r : Rt) : y7 r = recL r := by
  obtain ⟨V, hV, v⟩ : ∃ V, num r.ver.toNat 6 = V ∧ V.length = 6 := ⟨_, rfl, num_len _ _⟩
  obtain ⟨R, hR, u⟩ : ∃ R, num r.root.toNat 4 = R ∧ R.length = 4 := ⟨_, rfl, num_len _ _⟩
  obtain ⟨K, hK, k⟩ : ∃ K, num r.count.toNat 4 = K ∧ K.length = 4 := ⟨_, rfl, num_len _ _⟩
  obtain ⟨L, hL, l⟩ : ∃ L, num r.list.toNat 4 = L ∧ L.length = 4 := ⟨_, rfl, num_len _ _⟩
  obtain ⟨P, hP, p⟩ : ∃ P, num r.pages.toNat 4 = P ∧ P.length = 4 := ⟨_, rfl, num_len _ _⟩
  obtain ⟨S, hS, t⟩ : ∃ S, r.sum.list = S ∧ S.length = 16 := ⟨_, rfl, rfl⟩
  have e0 : x0 = [82] ++ (zeros 6 ++ (zeros 4 ++ (zeros 4 ++ (zeros 16 ++ (zeros 4 ++ (zeros 4 ++ (zeros 20 ++ (zeros 4 ++ [82])))))))) := rfl
  have e1 : y1 r = [82] ++ (V ++ (zeros 4 ++ (zeros 4 ++ (zeros 16 ++ (zeros 4 ++ (zeros 4 ++ (zeros 20 ++ (zeros 4 ++ [82])))))))) := by
    unfold y1; rw [hV]; exact lay_mid e0 rfl (by rw [zeros_len, v])
  have e2 : y2 r = [82] ++ (V ++ (R ++ (zeros 4 ++ (zeros 16 ++ (zeros 4 ++ (zeros 4 ++ (zeros 20 ++ (zeros 4 ++ [82])))))))) := by
    unfold y2; rw [hR, lay_mid (A := [82] ++ V) (M := zeros 4) (by rw [e1]; simp only [List.append_assoc]; rfl) (by simp [v]) (by rw [zeros_len, u])]; simp only [List.append_assoc]
  have e3 : y3 r = [82] ++ (V ++ (R ++ (K ++ (zeros 16 ++ (zeros 4 ++ (zeros 4 ++ (zeros 20 ++ (zeros 4 ++ [82])))))))) := by
    unfold y3; rw [hK, lay_mid (A := [82] ++ (V ++ R)) (M := zeros 4) (by rw [e2]; simp only [List.append_assoc]; rfl) (by simp [v, u]) (by rw [zeros_len, k])]; simp only [List.append_assoc]
  have e4 : y4 r = [82] ++ (V ++ (R ++ (K ++ (zeros 16 ++ (L ++ (zeros 4 ++ (zeros 20 ++ (zeros 4 ++ [82])))))))) := by
    unfold y4; rw [hL, lay_mid (A := [82] ++ (V ++ (R ++ (K ++ zeros 16)))) (M := zeros 4) (by rw [e3]; simp only [List.append_assoc]; rfl) (by simp [v, u, k, zeros_len]) (by rw [zeros_len, l])]; simp only [List.append_assoc]
  have e5 : y5 r = [82] ++ (V ++ (R ++ (K ++ (zeros 16 ++ (L ++ (P ++ (zeros 20 ++ (zeros 4 ++ [82])))))))) := by
    unfold y5; rw [hP, lay_mid (A := [82] ++ (V ++ (R ++ (K ++ (zeros 16 ++ L))))) (M := zeros 4) (by rw [e4]; simp only [List.append_assoc]; rfl) (by simp [v, u, k, l, zeros_len]) (by rw [zeros_len, p])]; simp only [List.append_assoc]
  have e6 : y6 r = [82] ++ (V ++ (R ++ (K ++ (S ++ (L ++ (P ++ (zeros 20 ++ (zeros 4 ++ [82])))))))) := by
    unfold y6; rw [hS, lay_mid (A := [82] ++ (V ++ (R ++ K))) (M := zeros 16) (by rw [e5]; simp only [List.append_assoc]; rfl) (by simp [v, u, k]) (by rw [zeros_len, t])]; simp only [List.append_assoc]
  have eb : recBody r = [82] ++ (V ++ (R ++ (K ++ (S ++ (L ++ (P ++ zeros 20)))))) := by
    unfold recBody; rw [hV, hR, hK, hS, hL, hP]; rfl
  have ec : y6 r = recBody r ++ (zeros 4 ++ [82]) := by rw [e6, eb]; simp only [List.append_assoc]
  have lb := recBody_len r
  unfold y7 recL
  rw [show (y6 r).take 59 = recBody r by rw [ec, List.take_append_of_le_length (by omega), List.take_of_length_le (by omega)]]
  exact lay_mid ec lb (by rw [zeros_len, num_len])
/-- What is read out of the bytes of a right root. -/
theorem part_mid {A M B xs : Str} {a w : Nat} (hx : xs = A ++ (M ++ B)) (hA : A.length = a) (hM : M.length = w) : (xs.drop a).take w = M := by
  subst hx
  rw [← hA, List.drop_append, List.drop_of_length_le (by omega), List.nil_append, Nat.sub_self, List.drop_zero, List.take_append_of_le_length (by omega), List.take_of_length_le (by omega)]
theorem q5_recL {r : Rt} (h : rootOk r = true) : q5 (recL r) = r := by
  have nn := rootOk_nn h
  have big : r.ver ≤ 1099511627776 ∧ r.root < 4294967296 ∧ r.count < 4294967296 ∧ r.list < 4294967296 ∧ r.pages < 4294967296 := by
    unfold rootOk inside noTree at h
    simp only [Bool.and_eq_true, Bool.or_eq_true, decide_eq_true_eq, beq_iff_eq] at h
    omega
  have hr : recL r = [82] ++ (num r.ver.toNat 6 ++ (num r.root.toNat 4 ++ (num r.count.toNat 4 ++ (r.sum.list ++ (num r.list.toNat 4 ++ (num r.pages.toNat 4 ++ (zeros 20 ++ (num (crc (recBody r)).toNat 4 ++ [82])))))))) := by
    show recBody r ++ _ = _
    conv => lhs; lhs; unfold recBody
    simp [List.append_assoc]
  have t : r.sum.list.length = 16 := rfl
  have p1 : part (recL r) 1 6 = r.ver.toNat := by
    unfold part; rw [part_mid (a := 1) hr rfl (num_len _ _), unnum_num]; exact Nat.mod_eq_of_lt (by have : (256:Nat)^6 = 281474976710656 := (by decide); omega)
  have w4 : (256:Nat)^4 = 4294967296 := by decide
  have p2 : part (recL r) 7 4 = r.root.toNat := by
    unfold part; rw [part_mid (A := [82] ++ num r.ver.toNat 6) (M := num r.root.toNat 4) (by rw [hr]; simp only [List.append_assoc]; rfl) (by simp [num_len]) (num_len _ _), unnum_num]; exact Nat.mod_eq_of_lt (by omega)
  have p3 : part (recL r) 11 4 = r.count.toNat := by
    unfold part; rw [part_mid (A := [82] ++ (num r.ver.toNat 6 ++ num r.root.toNat 4)) (M := num r.count.toNat 4) (by rw [hr]; simp only [List.append_assoc]; rfl) (by simp [num_len]) (num_len _ _), unnum_num]; exact Nat.mod_eq_of_lt (by omega)
  have p4 : part (recL r) 31 4 = r.list.toNat := by
    unfold part; rw [part_mid (A := [82] ++ (num r.ver.toNat 6 ++ (num r.root.toNat 4 ++ (num r.count.toNat 4 ++ r.sum.list)))) (M := num r.list.toNat 4) (by rw [hr]; simp only [List.append_assoc]; rfl) (by simp [num_len, t]) (num_len _ _), unnum_num]; exact Nat.mod_eq_of_lt (by omega)
  have p5 : part (recL r) 35 4 = r.pages.toNat := by
    unfold part; rw [part_mid (A := [82] ++ (num r.ver.toNat 6 ++ (num r.root.toNat 4 ++ (num r.count.toNat 4 ++ (r.sum.list ++ num r.list.toNat 4))))) (M := num r.pages.toNat 4) (by rw [hr]; simp only [List.append_assoc]; rfl) (by simp [num_len, t]) (num_len _ _), unnum_num]; exact Nat.mod_eq_of_lt (by omega)
  have p6 : dgOf (((recL r).drop 15).take 16) = r.sum := by
    rw [part_mid (A := [82] ++ (num r.ver.toNat 6 ++ (num r.root.toNat 4 ++ num r.count.toNat 4))) (M := r.sum.list) (by rw [hr]; simp only [List.append_assoc]; rfl) (by simp [num_len]) t]
    exact dgOf_dg r.sum
  unfold q5
  rw [p1, p2, p3, p4, p5, p6]
  obtain ⟨a, b, c, d, e, f⟩ := r
  simp only at nn ⊢
  rw [show ((a.toNat : Nat) : Int) = a by omega, show ((b.toNat : Nat) : Int) = b by omega, show ((c.toNat : Nat) : Int) = c by omega, show ((e.toNat : Nat) : Int) = e by omega, show ((f.toNat : Nat) : Int) = f by omega]
/-- A record that was written is read. -/
theorem parR_recL {r : Rt} (h : rootOk r = true) : parR (recL r) = .tup [r.av, i64 0] := by
  unfold parR
  rw [q5_recL h, if_pos ⟨recL_len r, h, y7_recL r⟩]
end Go.Proofs
/- Contracts of chapter 5: the reference's records. -/
set_option linter.unusedVariables false
set_option linter.unusedSimpArgs false
namespace Go.Proofs
open Go Go.Abs
section
variable {n : Nat} {h : AHeap}
end
end Go.Proofs
/- Contracts of chapter 5: the reference's Record and Parse. -/
set_option linter.unusedVariables false
set_option linter.unusedSimpArgs false
namespace Go.Proofs
open Go Go.Abs
section
variable {n : Nat} {h : AHeap}
def q0 (s : Str) : Rt := ⟨part s 1 6, part s 7 4, part s 11 4, Dg.zero, part s 31 4, part s 35 4⟩
end
end Go.Proofs
/- The law FileRecords, within its size. -/
set_option linter.unusedVariables false
set_option linter.unusedSimpArgs false
namespace Go.Proofs
open Go Go.Abs
theorem eq_root_self (r : Rt) : eqA Tryz.prog 20 tRoot (.agg r.cells) (.agg r.cells) = some true := by
  have e1 : eqA Tryz.prog 20 tRoot (.agg r.cells) (.agg r.cells) = allEq (eqA Tryz.prog 19) [(3, i64 r.ver, i64 r.ver), (25, .agg (i64 r.root :: i64 r.count :: r.sum.cells), .agg (i64 r.root :: i64 r.count :: r.sum.cells)), (3, i64 r.list, i64 r.list), (3, i64 r.pages, i64 r.pages)] := by kernel_rfl
  have e2 : ∀ (a b : Int), eqA Tryz.prog 19 3 (i64 a) (i64 b) = some (a == b) := fun a b => by kernel_rfl
  have e2' : ∀ (a b : Int), eqA Tryz.prog 18 3 (i64 a) (i64 b) = some (a == b) := fun a b => by kernel_rfl
  have e3 : eqA Tryz.prog 19 25 (.agg (i64 r.root :: i64 r.count :: r.sum.cells)) (.agg (i64 r.root :: i64 r.count :: r.sum.cells)) = allEq (eqA Tryz.prog 18) [(3, i64 r.root, i64 r.root), (3, i64 r.count, i64 r.count), (23, .agg r.sum.cells, .agg r.sum.cells)] := by kernel_rfl
  have e4 : eqA Tryz.prog 18 23 (.agg r.sum.cells) (.agg r.sum.cells) = allEq (eqA Tryz.prog 17) (zipE 5 (r.sum.list.map u8) (r.sum.list.map u8)) := by kernel_rfl
  have e5 : ∀ (x y : UInt8), eqA Tryz.prog 17 5 (.int .u8 x.toNat) (.int .u8 y.toNat) = some (((x.toNat : Nat) : Int) == y.toNat) := fun x y => by kernel_rfl
  rw [allEq_u8 (fun x y => by rw [e5, eq_u8]) r.sum.list r.sum.list rfl] at e4
  rw [e1]
  simp [allEq, e2, e3, e2', e4]
section
variable {n : Nat} {h : AHeap}
end
end Go.Proofs
/- Arguments as they are read: entries. -/
set_option linter.unusedVariables false
set_option linter.unusedSimpArgs false
namespace Go.Proofs
open Go Go.Abs Go.ChangeShapes Go.WideShapes Go.ChangeAt Go.RowKit

theorem ty3 : Tryz.prog.underlying 3 = some (.int .i64) := by kernel_rfl
theorem ty5 : Tryz.prog.underlying 5 = some (.int .u8) := by kernel_rfl
theorem ty9 : Tryz.prog.underlying 9 = some .string := by kernel_rfl
theorem ty4 : Tryz.prog.underlying 4 = some .bool := by kernel_rfl
theorem ty49 : Tryz.prog.underlying 23 = some (.array 16 5) := by kernel_rfl
theorem sz49 : Tryz.prog.cellsOf 23 = 16 := by kernel_rfl
theorem sz5 : Tryz.prog.cellsOf 5 = 1 := by kernel_rfl
theorem own : ownKnob Tryz.prog.godebug = none := by kernel_rfl
theorem laid : laidOutB Tryz.prog = true := by kernel_rfl

section
variable {H : Type} {enc : TypeId × Value → H} {W : World} {base : Nat} {sp : Nat → Bool} {held : Bool} {fuel : Nat} {cs : List Value} {x : DataW H × List MemPlace}
theorem take_one {i : Nat} {v : Value} (h : (cs.drop i).take 1 = [v]) : cs[i]? = some v := by
  have : ((cs.drop i).take 1)[0]? = some v := by rw [h]; rfl
  simpa using this
theorem rd_dg (h : DataW.trod enc Tryz.prog W base sp held fuel 23 cs = some x) : ∃ d : Dg, VRs (cellsW W) noBM d.cells cs := by
  obtain ⟨xs, m, _, _, hl, hx, hi⟩ := DataW.trod_array ty49 h
  rw [sz49] at hl
  rw [sz5] at hi
  have hb : ∀ i, i < 16 → ∃ b : UInt8, cs[i]? = some (.int .u8 b.toNat) := fun i hi' => by
    have h1 := hi i hi'
    rw [List.getElem?_eq_getElem (by omega)] at h1
    obtain ⟨b, h2⟩ := rd_u8 ty5 h1
    rw [Nat.mul_one] at h2
    exact ⟨b, take_one h2⟩
  obtain ⟨b0, g0⟩ := hb 0 (by omega)
  obtain ⟨b1, g1⟩ := hb 1 (by omega)
  obtain ⟨b2, g2⟩ := hb 2 (by omega)
  obtain ⟨b3, g3⟩ := hb 3 (by omega)
  obtain ⟨b4, g4⟩ := hb 4 (by omega)
  obtain ⟨b5, g5⟩ := hb 5 (by omega)
  obtain ⟨b6, g6⟩ := hb 6 (by omega)
  obtain ⟨b7, g7⟩ := hb 7 (by omega)
  obtain ⟨b8, g8⟩ := hb 8 (by omega)
  obtain ⟨b9, g9⟩ := hb 9 (by omega)
  obtain ⟨b10, g10⟩ := hb 10 (by omega)
  obtain ⟨b11, g11⟩ := hb 11 (by omega)
  obtain ⟨b12, g12⟩ := hb 12 (by omega)
  obtain ⟨b13, g13⟩ := hb 13 (by omega)
  obtain ⟨b14, g14⟩ := hb 14 (by omega)
  obtain ⟨b15, g15⟩ := hb 15 (by omega)
  refine ⟨⟨b0, b1, b2, b3, b4, b5, b6, b7, b8, b9, b10, b11, b12, b13, b14, b15⟩, VRs_get (by rw [hl]; rfl) fun i a v ha hv => ?_⟩
  have hi16 : i < 16 := by
    rcases Nat.lt_or_ge i 16 with h | h
    · exact h
    · rw [List.getElem?_eq_none (by omega)] at hv; cases hv
  have : i = 0 ∨ i = 1 ∨ i = 2 ∨ i = 3 ∨ i = 4 ∨ i = 5 ∨ i = 6 ∨ i = 7 ∨ i = 8 ∨ i = 9 ∨ i = 10 ∨ i = 11 ∨ i = 12 ∨ i = 13 ∨ i = 14 ∨ i = 15 := by omega
  rcases this with rfl | rfl | rfl | rfl | rfl | rfl | rfl | rfl | rfl | rfl | rfl | rfl | rfl | rfl | rfl | rfl
  all_goals
    first
      | rw [g0] at hv | rw [g1] at hv | rw [g2] at hv | rw [g3] at hv | rw [g4] at hv | rw [g5] at hv | rw [g6] at hv | rw [g7] at hv | rw [g8] at hv | rw [g9] at hv | rw [g10] at hv | rw [g11] at hv | rw [g12] at hv | rw [g13] at hv | rw [g14] at hv | rw [g15] at hv
    cases hv
    cases ha
    unfold VR; rfl

end
end Go.Proofs
/- Arguments as they are read: pages. -/
set_option linter.unusedVariables false
set_option linter.unusedSimpArgs false
namespace Go.Proofs
open Go Go.Abs Go.ChangeShapes Go.WideShapes Go.ChangeAt Go.RowKit
theorem s3 : Tryz.prog.cellsOf 3 = 1 := by kernel_rfl
theorem s4 : Tryz.prog.cellsOf 4 = 1 := by kernel_rfl
section
variable {H : Type} {enc : TypeId × Value → H} {W : World} {base : Nat} {sp : Nat → Bool} {held : Bool} {fuel : Nat} {cs : List Value} {x : DataW H × List MemPlace}
end
end Go.Proofs
/- Arguments as they are read: roots. -/
set_option linter.unusedVariables false
set_option linter.unusedSimpArgs false
namespace Go.Proofs
open Go Go.Abs Go.ChangeShapes Go.WideShapes Go.ChangeAt Go.RowKit
theorem tyRoot : ∃ fs : Array Field, Tryz.prog.underlying 27 = some (.struct fs) ∧ ∃ (f0 f1 f2 f3 : Field), fs[0]? = some f0 ∧ fs[1]? = some f1 ∧ fs[2]? = some f2 ∧ fs[3]? = some f3 ∧
    f0.type = 3 ∧ f1.type = 25 ∧ f2.type = 3 ∧ f3.type = 3 ∧ f0.offset = 0 ∧ f1.offset = 1 ∧ f2.offset = 19 ∧ f3.offset = 20 :=
  ⟨_, Tryz.underlying27, _, _, _, _, rfl, rfl, rfl, rfl, rfl, rfl, rfl, rfl, rfl, rfl, rfl, rfl⟩
theorem tyTree : ∃ fs : Array Field, Tryz.prog.underlying 25 = some (.struct fs) ∧ ∃ (f0 f1 f2 : Field), fs[0]? = some f0 ∧ fs[1]? = some f1 ∧ fs[2]? = some f2 ∧
    f0.type = 3 ∧ f1.type = 3 ∧ f2.type = 23 ∧ f0.offset = 0 ∧ f1.offset = 1 ∧ f2.offset = 2 :=
  ⟨_, Tryz.underlying25, _, _, _, rfl, rfl, rfl, rfl, rfl, rfl, rfl, rfl, rfl⟩
theorem szRoot : Tryz.prog.cellsOf 27 = 21 := by kernel_rfl
theorem szTree : Tryz.prog.cellsOf 25 = 18 := by kernel_rfl
theorem seg {α : Type} (cs : List α) (a b : Nat) : cs.drop a = (cs.drop a).take b ++ cs.drop (a + b) := by
  rw [← List.drop_drop]; exact (List.take_append_drop b _).symm
theorem seg_end {α : Type} (cs : List α) (a b : Nat) (h : cs.length = a + b) : cs.drop a = (cs.drop a).take b := (List.take_of_length_le (by rw [List.length_drop]; omega)).symm
section
variable {H : Type} {enc : TypeId × Value → H} {W : World} {base : Nat} {sp : Nat → Bool} {held : Bool} {fuel : Nat} {cs : List Value} {x : DataW H × List MemPlace}
theorem rd_tree (h : DataW.trod enc Tryz.prog W base sp held fuel 25 cs = some x) : ∃ (a b : Int) (d : Dg), VRs (cellsW W) noBM (i64 a :: i64 b :: d.cells) cs := by
  obtain ⟨fs, hfs, f0, f1, f2, h0, h1, h2, t0, t1, t2, o0, o1, o2⟩ := tyTree
  obtain ⟨xs, n, _, _, hl, hx, hi⟩ := DataW.trod_struct hfs h
  rw [szTree] at hl
  have get : ∀ (i : Nat) (f : Field), fs[i]? = some f → ∃ y, DataW.trod enc Tryz.prog W base sp held n f.type ((cs.drop f.offset).take (Tryz.prog.cellsOf f.type)) = some y := fun i f hf => by
    have h := hi i f hf
    have : i < fs.size := (Array.getElem?_eq_some_iff.1 hf).1
    rw [List.getElem?_eq_getElem (by omega)] at h
    exact ⟨_, h⟩
  obtain ⟨_, y0⟩ := get 0 f0 h0
  obtain ⟨_, y1⟩ := get 1 f1 h1
  obtain ⟨_, y2⟩ := get 2 f2 h2
  rw [t0, o0, s3] at y0
  rw [t1, o1, s3] at y1
  rw [t2, o2, sz49] at y2
  obtain ⟨a, e0, _⟩ := rd_int ty3 y0
  obtain ⟨b, e1, _⟩ := rd_int ty3 y1
  obtain ⟨d, e2⟩ := rd_dg y2
  refine ⟨a, b, d, ?_⟩
  have hc : cs = [.int .i64 a] ++ ([.int .i64 b] ++ (cs.drop 2).take 16) := by
    rw [← e0, ← e1]
    conv => lhs; rw [show cs = cs.drop 0 from rfl, seg cs 0 1, seg cs (0 + 1) 1, seg_end cs (0 + 1 + 1) 16 hl]
  rw [hc]
  exact @VRs_app _ _ [_] _ (_ :: _) _ (VRs_one (by unfold VR; rfl)) (@VRs_app _ _ [_] _ _ _ (VRs_one (by unfold VR; rfl)) e2)
theorem rd_root (h : DataW.trod enc Tryz.prog W base sp held fuel 27 cs = some x) : ∃ r : Rt, VRs (cellsW W) noBM r.cells cs := by
  obtain ⟨fs, hfs, f0, f1, f2, f3, h0, h1, h2, h3, t0, t1, t2, t3, o0, o1, o2, o3⟩ := tyRoot
  obtain ⟨xs, n, _, _, hl, hx, hi⟩ := DataW.trod_struct hfs h
  rw [szRoot] at hl
  have get : ∀ (i : Nat) (f : Field), fs[i]? = some f → ∃ y, DataW.trod enc Tryz.prog W base sp held n f.type ((cs.drop f.offset).take (Tryz.prog.cellsOf f.type)) = some y := fun i f hf => by
    have h := hi i f hf
    have : i < fs.size := (Array.getElem?_eq_some_iff.1 hf).1
    rw [List.getElem?_eq_getElem (by omega)] at h
    exact ⟨_, h⟩
  obtain ⟨_, y0⟩ := get 0 f0 h0
  obtain ⟨_, y1⟩ := get 1 f1 h1
  obtain ⟨_, y2⟩ := get 2 f2 h2
  obtain ⟨_, y3⟩ := get 3 f3 h3
  rw [t0, o0, s3] at y0
  rw [t1, o1, szTree] at y1
  rw [t2, o2, s3] at y2
  rw [t3, o3, s3] at y3
  obtain ⟨a, e0, _⟩ := rd_int ty3 y0
  obtain ⟨b, c, d, e1⟩ := rd_tree y1
  obtain ⟨l, e2, _⟩ := rd_int ty3 y2
  obtain ⟨p, e3, _⟩ := rd_int ty3 y3
  refine ⟨⟨a, b, c, d, l, p⟩, ?_⟩
  have hc : cs = [.int .i64 a] ++ ((cs.drop 1).take 18 ++ ([.int .i64 l] ++ [.int .i64 p])) := by
    rw [← e0, ← e2, ← e3]
    conv => lhs; rw [show cs = cs.drop 0 from rfl, seg cs 0 1, seg cs (0 + 1) 18, seg cs (0 + 1 + 18) 1, seg_end cs (0 + 1 + 18 + 1) 1 hl]
  rw [hc]
  show VRs (cellsW W) noBM ([i64 a] ++ ((i64 b :: i64 c :: d.cells) ++ ([i64 l] ++ [i64 p]))) _
  exact VRs_app (VRs_one (by unfold VR; rfl)) (VRs_app e1 (VRs_app (VRs_one (by unfold VR; rfl)) (VRs_one (by unfold VR; rfl))))
end
end Go.Proofs
/- The law FileBack: a byte changed in a record is noticed. -/
set_option linter.unusedVariables false
set_option linter.unusedSimpArgs false
namespace Go.Proofs
open Go Go.Abs
theorem ext_near {s b : Str} (e0 : ext s (~~~0) = ext b (~~~0)) (hl : s.length = b.length) (k : Nat) (h : ∀ i (h1 : i < s.length) (h2 : i < b.length), i < k ∨ k + 4 ≤ i → s[i] = b[i]) : s = b := by
  have t1 : s.take k = b.take k := by
    apply List.ext_getElem
    · simp [hl]
    · intro i h1 h2
      simp only [List.length_take] at h1 h2
      rw [List.getElem_take, List.getElem_take]
      exact h i (by omega) (by omega) (.inl (by omega))
  have t2 : s.drop (k + 4) = b.drop (k + 4) := by
    apply List.ext_getElem
    · simp [hl]
    · intro i h1 h2
      simp only [List.length_drop] at h1 h2
      rw [List.getElem_drop, List.getElem_drop]
      exact h _ (by omega) (by omega) (.inr (by omega))
  have ds : s = s.take k ++ ((s.drop k).take 4 ++ s.drop (k + 4)) := by
    conv => lhs; rw [← List.take_append_drop k s, ← List.take_append_drop 4 (s.drop k), List.drop_drop]
  have db : b = s.take k ++ ((b.drop k).take 4 ++ s.drop (k + 4)) := by
    conv => lhs; rw [← List.take_append_drop k b, ← List.take_append_drop 4 (b.drop k), List.drop_drop, ← t1, ← t2]
  have e1 : ext ((s.drop k).take 4) (ext (s.take k) (~~~0)) = ext ((b.drop k).take 4) (ext (s.take k) (~~~0)) := by
    have := e0
    rw [ds, db, ext_app, ext_app, ext_app, ext_app] at this
    have t3 : (s.take k ++ ((s.drop k).take 4 ++ s.drop (k + 4))) = s := ds.symm
    exact ext_inj _ this
  have l1 : ((s.drop k).take 4).length = ((b.drop k).take 4).length := by simp [hl]
  have l2 : ((s.drop k).take 4).length ≤ 4 := by rw [List.length_take]; omega
  rw [ext_le ((s.drop k).take 4) _ l2, ext_le ((b.drop k).take 4) _ (by omega), ← l1] at e1
  have e2 := bits_inj _ e1
  have e3 := congrArg (fun x => ext (s.take k) (~~~0) ^^^ x) e2
  simp only [← UInt32.xor_assoc, UInt32.xor_self, UInt32.zero_xor] at e3
  have e4 := le_inj l1 l2 e3
  rw [ds, e4]
  exact db.symm
theorem crc_ext {a b : Str} (h : crc a = crc b) : ext a (~~~0) = ext b (~~~0) := by
  unfold crc at h
  have := congrArg (fun x => ~~~x) h
  simpa using this
theorem num4_inj {a b : UInt32} (h : num a.toNat 4 = num b.toNat 4) : a = b := by
  have h1 := congrArg unnum h
  rw [unnum_num, unnum_num] at h1
  have ha := a.toNat_lt
  have hb := b.toNat_lt
  have w4 : (256:Nat)^4 = 4294967296 := by decide
  rw [w4, Nat.mod_eq_of_lt (by omega), Nat.mod_eq_of_lt (by omega)] at h1
  exact UInt32.toNat_inj.1 h1
theorem seal_near {A B : Str} (hA : A.length = 59) (hB : B.length = 59) {k : Nat} (h : ∀ i, i ≠ k → (A ++ (num (crc A).toNat 4 ++ [82]))[i]? = (B ++ (num (crc B).toNat 4 ++ [82]))[i]?) : A = B := by
  have gb : ∀ i (h1 : i < A.length) (h2 : i < B.length), i ≠ k → A[i] = B[i] := fun i h1 h2 hk => by
    have := h i hk
    rw [List.getElem?_append_left h1, List.getElem?_append_left h2, List.getElem?_eq_getElem h1, List.getElem?_eq_getElem h2] at this
    exact Option.some.inj this
  rcases Nat.lt_or_ge k 59 with hk | hk
  · have hc : num (crc A).toNat 4 = num (crc B).toNat 4 := by
      have la := num_len (crc A).toNat 4
      have lb := num_len (crc B).toNat 4
      generalize num (crc A).toNat 4 = X at *
      generalize num (crc B).toNat 4 = Y at *
      apply List.ext_getElem?
      intro i
      rcases Nat.lt_or_ge i 4 with hi | hi
      · have := h (59 + i) (by omega)
        rw [List.getElem?_append_right (l₁ := A) (by omega), List.getElem?_append_right (l₁ := B) (by omega), hA, hB, Nat.add_sub_cancel_left, List.getElem?_append_left (l₁ := X) (by omega), List.getElem?_append_left (l₁ := Y) (by omega)] at this
        exact this
      · rw [List.getElem?_eq_none (by omega), List.getElem?_eq_none (by omega)]
    exact ext_near (crc_ext (num4_inj hc)) (by omega) k fun i h1 h2 hi => gb i h1 h2 (by omega)
  · exact List.ext_getElem (by omega) fun i h1 h2 => gb i h1 h2 (by omega)
/-- Two records that differ at one byte at most are the same. -/
theorem recL_near {r q : Rt} {k : Nat} (h : ∀ i, i ≠ k → (recL r)[i]? = (recL q)[i]?) : recL r = recL q := by
  have : recBody r = recBody q := seal_near (recBody_len r) (recBody_len q) h
  unfold recL
  rw [this]
/-- A record with one byte changed is refused. -/
theorem parR_changed (r : Rt) {k : Nat} {c x : UInt8} (hx : (recL r)[k]? = some x) (hc : x ≠ c) : parR ((recL r).set k c) = .tup [Rt.zero.av, i64 8] := by
  unfold parR
  rw [if_neg]
  intro ⟨h1, h2, h3⟩
  rw [y7_recL] at h3
  have e := recL_near (r := r) (q := q5 ((recL r).set k c)) (k := k) fun i hi => by
    rw [h3, List.getElem?_set_ne (by omega)]
  rw [h3] at e
  have hx2 := hx
  rw [e, List.getElem?_set_self (List.getElem?_eq_some_iff.1 hx).1] at hx2
  exact hc (Option.some.inj hx2).symm
theorem parR_err {s : Str} : parR s = .tup [Rt.zero.av, i64 8] ∨ (s.length = 64 ∧ rootOk (q5 s) = true ∧ y7 (q5 s) = s ∧ parR s = .tup [(q5 s).av, i64 0]) := by
  unfold parR
  by_cases ok : s.length = 64 ∧ rootOk (q5 s) = true ∧ y7 (q5 s) = s
  · exact .inr ⟨ok.1, ok.2.1, ok.2.2, if_pos ok⟩
  · exact .inl (if_neg ok)
end Go.Proofs
/- The law FileBack: the walk. -/
set_option linter.unusedVariables false
set_option linter.unusedSimpArgs false
namespace Go.Proofs
open Go Go.Abs
theorem put_set (Y : Str) (k : Nat) (c : UInt8) (hk : k < Y.length) : putAt (Y.map u8) (0 + ((k : Nat) : Int).toNat * 1) [u8 c] = (Y.set k c).map u8 := by
  rw [Int.toNat_natCast, Nat.mul_one, Nat.zero_add, lay_one, List.set_eq_take_append_cons_drop, if_pos hk]
  unfold lay
  simp
section
variable {n : Nat} {h : AHeap}
set_option maxRecDepth 100000 in
theorem fileBack_eq (hn : 7 ≤ n) (r : Rt) (s : Str) (at' c : UInt8) : C n 5 [r.av, .str s, .int .u8 at'.toNat, .int .u8 c.toNat] h = some (.ret (.bool true), h) := by
  obtain ⟨m, rfl⟩ : ∃ m, n = m + 1 := ⟨n - 1, by omega⟩
  have cs : ∀ h, C m 14 [] h = some (.ret (.bool true), h) := fun h => sane_eq (by omega) h
  have er := eq_root_self r
  refine fun_pure F5 rfl rfl rfl rfl ?_
  by_cases hs : s.length ≤ 200
  · have c1 := fun h => parse_eq (n := m) (h := h) (by omega) s (by omega)
    have c3 := fun h => record_eq (n := m) (h := h) (by omega) r
    have c4 := fun h => checkRoot_eq (n := m) (h := h) (by omega) r
    have hl := recL_len r
    have c5 : rootOk r = true → ∀ h, C m 17 [.str (recL r)] h = some (.ret (.tup [r.av, i64 0]), h) := fun ok h => by
      rw [← parR_recL ok]; exact parse_eq (by omega) _ (by omega)
    have c6 : ∀ k x, (recL r)[k]? = some x → x ≠ c → ∀ h, C m 17 [.str ((recL r).set k c)] h = some (.ret (.tup [Rt.zero.av, i64 8]), h) := fun k x hk hne h => by
      rw [← parR_changed r hk hne]; exact parse_eq (by omega) _ (by rw [List.length_set]; omega)
    have c7 : ∀ k, ∃ (q : Rt) (e : Int), ∀ h, C m 17 [.str ((recL r).set k c)] h = some (.ret (.tup [q.av, i64 e]), h) := fun k => by
      rcases parR_err (s := (recL r).set k c) with e | ⟨_, _, _, e⟩
      · exact ⟨_, _, fun h => by rw [← e]; exact parse_eq (by omega) _ (by rw [List.length_set]; omega)⟩
      · exact ⟨_, _, fun h => by rw [← e]; exact parse_eq (by omega) _ (by rw [List.length_set]; omega)⟩
    unfold recR at c3
    rw [y7_recL] at c3
    rcases parR_err (s := s) with e | ⟨_, ok2, e2, e⟩
    · rw [e] at c1
      cases ok : rootOk r with
      | false =>
        rw [ok] at c3 c4
        conv => whnf
        refine brd (fun a => absurd a (by omega)) (fun _ => ?_)
        conv => whnf
        refine clI (c1 _) ?_
        conv => whnf
        refine stI (by rfl) (by rfl) (by rfl) (by rfl) (by rfl) ?_
        conv => whnf
        refine ldI rfl ?_
        conv => whnf
        refine clI (c3 _) ?_
        conv => whnf
        refine clI (cs _) ?_
        conv => whnf
        refine ldI rfl ?_
        conv => whnf
        refine clI (c4 _) ?_
        conv => whnf
        exact retP rfl (frz_bool (by simp))
      | true =>
        rw [ok] at c3
        have c5 := c5 ok
        have hk : at'.toNat % 64 < 64 := Nat.mod_lt _ (by decide)
        obtain ⟨x, hx⟩ : ∃ x, (recL r)[at'.toNat % 64]? = some x := ⟨_, List.getElem?_eq_getElem (h := by omega)⟩
        generalize recL r = Y at *
        conv => whnf
        refine brd (fun a => absurd a (by omega)) (fun _ => ?_)
        conv => whnf
        refine clI (c1 _) ?_
        conv => whnf
        refine stI (by rfl) (by rfl) (by rfl) (by rfl) (by rfl) ?_
        conv => whnf
        refine ldI rfl ?_
        conv => whnf
        refine clI (c3 _) ?_
        conv => whnf
        refine clI (c5 _) ?_
        conv => whnf
        refine stI (by rfl) (by rfl) (by rfl) (by rfl) (by rfl) ?_
        conv => whnf
        refine ldI rfl ?_
        conv => whnf
        refine ldI rfl ?_
        conv => whnf
        refine eqI er ?_
        conv => whnf
        refine brq (fun k => absurd k (by omega)) (fun _ => ?_)
        conv => whnf
        refine zI (z := (at'.toNat : Int)) (by have := at'.toNat_lt; exact wrap_i64 (by omega) (by omega)) ?_
        conv => whnf
        refine remI (by rw [hl]; decide) (z := ((at'.toNat % 64 : Nat) : Int)) (by rw [hl]; rfl) ?_
        generalize at'.toNat % 64 = k at hx hk ⊢
        conv => whnf
        refine ⟨by omega, by omega, rfl, ?_⟩
        conv => whnf
        refine stI (cs := Y.map u8) (xs := [u8 c]) rfl rfl rfl (by rw [Nat.ble_eq, List.length_map, hl]; show 0 + ((k : Nat) : Int).toNat * 1 + 1 ≤ 64; omega) rfl ?_
        rw [put_set _ _ _ (by omega)]
        conv => whnf
        refine ⟨_, Y.set k c, ?_, toBytes_map _, ?_⟩
        · rw [hl]
          rw [first_at (xs := (Y.set k c).map u8) (el := none) (frz := 0) _ rfl (Nat.le_refl 64) (by rw [List.length_map, List.length_set, hl]; decide), List.drop_zero, List.take_of_length_le (by rw [List.length_map, List.length_set, hl]; decide)]
        by_cases hxc : x = c
        · subst hxc
          obtain ⟨q7, e7, c7⟩ := c7 k
          conv => whnf
          refine clI (c7 _) ?_
          conv => whnf
          refine clI (cs _) ?_
          conv => whnf
          refine strI (b := x) (by omega) (by rw [Int.toNat_natCast]; exact hx) ?_
          conv => whnf
          refine bre (fun _ => ?_) (fun k => absurd rfl k)
          conv => whnf
          exact retP rfl rfl
        · have c6 := c6 k x hx hxc
          conv => whnf
          refine clI (c6 _) ?_
          conv => whnf
          refine clI (cs _) ?_
          conv => whnf
          refine strI (b := x) (by omega) (by rw [Int.toNat_natCast]; exact hx) ?_
          conv => whnf
          refine bre (fun k => ?_) (fun k => ?_)
          · exact absurd (UInt8.toNat_inj.1 (by omega)) hxc
          conv => whnf
          exact retP rfl rfl
    · rw [e] at c1
      have c2 := fun h => record_eq (n := m) (h := h) (by omega) (q5 s)
      unfold recR at c2
      rw [ok2, e2] at c2
      generalize q5 s = q at c1 c2
      cases ok : rootOk r with
      | false =>
        rw [ok] at c3 c4
        conv => whnf
        refine brd (fun a => absurd a (by omega)) (fun _ => ?_)
        conv => whnf
        refine clI (c1 _) ?_
        conv => whnf
        refine stI (by rfl) (by rfl) (by rfl) (by rfl) (by rfl) ?_
        conv => whnf
        refine ldI rfl ?_
        conv => whnf
        refine clI (c2 _) ?_
        conv => whnf
        refine brq (fun k => absurd rfl k) (fun _ => ?_)
        conv => whnf
        refine ldI rfl ?_
        conv => whnf
        refine clI (c3 _) ?_
        conv => whnf
        refine clI (cs _) ?_
        conv => whnf
        refine ldI rfl ?_
        conv => whnf
        refine clI (c4 _) ?_
        conv => whnf
        exact retP rfl (frz_bool (by simp))
      | true =>
        rw [ok] at c3
        have c5 := c5 ok
        have hk : at'.toNat % 64 < 64 := Nat.mod_lt _ (by decide)
        obtain ⟨x, hx⟩ : ∃ x, (recL r)[at'.toNat % 64]? = some x := ⟨_, List.getElem?_eq_getElem (h := by omega)⟩
        generalize recL r = Y at *
        conv => whnf
        refine brd (fun a => absurd a (by omega)) (fun _ => ?_)
        conv => whnf
        refine clI (c1 _) ?_
        conv => whnf
        refine stI (by rfl) (by rfl) (by rfl) (by rfl) (by rfl) ?_
        conv => whnf
        refine ldI rfl ?_
        conv => whnf
        refine clI (c2 _) ?_
        conv => whnf
        refine brq (fun k => absurd rfl k) (fun _ => ?_)
        conv => whnf
        refine ldI rfl ?_
        conv => whnf
        refine clI (c3 _) ?_
        conv => whnf
        refine clI (c5 _) ?_
        conv => whnf
        refine stI (by rfl) (by rfl) (by rfl) (by rfl) (by rfl) ?_
        conv => whnf
        refine ldI rfl ?_
        conv => whnf
        refine ldI rfl ?_
        conv => whnf
        refine eqI er ?_
        conv => whnf
        refine brq (fun k => absurd k (by omega)) (fun _ => ?_)
        conv => whnf
        refine zI (z := (at'.toNat : Int)) (by have := at'.toNat_lt; exact wrap_i64 (by omega) (by omega)) ?_
        conv => whnf
        refine remI (by rw [hl]; decide) (z := ((at'.toNat % 64 : Nat) : Int)) (by rw [hl]; rfl) ?_
        generalize at'.toNat % 64 = k at hx hk ⊢
        conv => whnf
        refine ⟨by omega, by omega, rfl, ?_⟩
        conv => whnf
        refine stI (cs := Y.map u8) (xs := [u8 c]) rfl rfl rfl (by rw [Nat.ble_eq, List.length_map, hl]; show 0 + ((k : Nat) : Int).toNat * 1 + 1 ≤ 64; omega) rfl ?_
        rw [put_set _ _ _ (by omega)]
        conv => whnf
        refine ⟨_, Y.set k c, ?_, toBytes_map _, ?_⟩
        · rw [hl]
          rw [first_at (xs := (Y.set k c).map u8) (el := none) (frz := 0) _ rfl (Nat.le_refl 64) (by rw [List.length_map, List.length_set, hl]; decide), List.drop_zero, List.take_of_length_le (by rw [List.length_map, List.length_set, hl]; decide)]
        by_cases hxc : x = c
        · subst hxc
          obtain ⟨q7, e7, c7⟩ := c7 k
          conv => whnf
          refine clI (c7 _) ?_
          conv => whnf
          refine clI (cs _) ?_
          conv => whnf
          refine strI (b := x) (by omega) (by rw [Int.toNat_natCast]; exact hx) ?_
          conv => whnf
          refine bre (fun _ => ?_) (fun k => absurd rfl k)
          conv => whnf
          exact retP rfl rfl
        · have c6 := c6 k x hx hxc
          conv => whnf
          refine clI (c6 _) ?_
          conv => whnf
          refine clI (cs _) ?_
          conv => whnf
          refine strI (b := x) (by omega) (by rw [Int.toNat_natCast]; exact hx) ?_
          conv => whnf
          refine bre (fun k => ?_) (fun k => ?_)
          · exact absurd (UInt8.toNat_inj.1 (by omega)) hxc
          conv => whnf
          exact retP rfl rfl
  · conv => whnf
    refine brd (fun _ => ?_) (fun a => absurd a (by omega))
    conv => whnf
    refine clI (cs _) ?_
    conv => whnf
    exact retP rfl rfl
end
end Go.Proofs
