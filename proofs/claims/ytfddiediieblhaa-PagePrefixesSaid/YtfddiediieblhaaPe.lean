/- The law PagePrefixes: its text, and what it computes. -/
import Derived.Test.YtfddiediieblhaaPd
import Derived.Test.YtfddiediieblhaaTh
set_option linter.unusedVariables false
set_option linter.unusedSimpArgs false
namespace Go.Proofs
open Go Go.Abs Go.ChangeShapes Go.WideShapes Go.ChangeAt Go.RowKit
-- 104 functions
/- f4 understory/understorylaw04.PagePrefixes: 142 temporaries, depth 8, 3 parameters, results [t6] -/
def c4 : RC :=
  (.seq (.ops [⟨some 6, none, .op (.mv (.c (.bool false)))⟩])
  (.seq (.ops [⟨some 19, none, .op (.callF 7 [])⟩,
    ⟨some 7, none, .op (.mv (.t 19))⟩])
  (.seq (.seq (.ops [⟨some 20, none, .op (.mv (.t 0))⟩,
    ⟨some 21, none, .op (.callF 11 [(.t 20)])⟩,
    ⟨some 22, none, .op (.un .not (.t 21))⟩,
    ⟨some 23, none, .op (.mv (.t 22))⟩,
    ⟨some 24, some (23, false), .op (.mv (.t 2))⟩,
    ⟨some 25, some (23, false), .op (.lenS (.t 24))⟩,
    ⟨some 26, some (23, false), .op (.bin .gtr (.t 25) (.c (.int .i64 100)))⟩,
    ⟨some 27, none, .op (.pick (.t 23) (.c (.bool true)) (.t 26))⟩])
  (.cond (.t 27)
    (.seq (.ops [⟨some 28, none, .op (.mv (.t 7))⟩,
      ⟨some 6, none, .op (.mv (.t 28))⟩])
    .ret)
    .skip))
  (.cut (.seq (.ops [⟨some 30, none, .op (.mv (.t 0))⟩,
    ⟨some 31, none, .op (.mv (.t 1))⟩,
    ⟨some 32, none, .op (.callF 12 [(.t 30), (.t 31)])⟩,
    ⟨some 29, none, .op (.mv (.t 32))⟩,
    ⟨some 33, none, .op (.extract (.t 29) 0)⟩,
    ⟨some 34, none, .op (.extract (.t 29) 1)⟩,
    ⟨some 8, none, .op (.mv (.t 33))⟩,
    ⟨some 9, none, .op (.mv (.t 34))⟩])
  (.seq (.ops [⟨some 36, none, .op (.mv (.t 0))⟩,
    ⟨some 37, none, .op (.mv (.t 1))⟩,
    ⟨some 38, none, .op (.callF 13 [(.t 36), (.t 37)])⟩,
    ⟨some 35, none, .op (.mv (.t 38))⟩,
    ⟨some 39, none, .op (.extract (.t 35) 0)⟩,
    ⟨some 40, none, .op (.extract (.t 35) 1)⟩,
    ⟨some 10, none, .op (.mv (.t 39))⟩,
    ⟨some 11, none, .op (.mv (.t 40))⟩])
  (.seq (.ops [⟨some 42, none, .op (.mv (.t 0))⟩,
    ⟨some 43, none, .op (.mv (.t 1))⟩,
    ⟨some 44, none, .op (.callF 14 [(.t 42), (.t 43)])⟩,
    ⟨some 41, none, .op (.mv (.t 44))⟩,
    ⟨some 45, none, .op (.extract (.t 41) 0)⟩,
    ⟨some 46, none, .op (.extract (.t 41) 1)⟩,
    ⟨some 12, none, .op (.mv (.t 45))⟩,
    ⟨some 13, none, .op (.mv (.t 46))⟩])
  (.cut (.seq (.seq (.ops [⟨some 47, none, .op (.mv (.t 9))⟩,
    ⟨some 48, none, .op (.bin .neq (.t 47) (.c (.int .i64 0)))⟩])
  (.cond (.t 48)
    (.seq (.ops [⟨some 49, none, .op (.mv (.t 7))⟩,
      ⟨some 50, none, .op (.mv (.t 49))⟩,
      ⟨some 51, some (50, true), .op (.mv (.t 13))⟩,
      ⟨some 52, some (50, true), .op (.bin .neq (.t 51) (.c (.int .i64 0)))⟩,
      ⟨some 53, none, .op (.pick (.t 50) (.t 52) (.c (.bool false)))⟩,
      ⟨some 54, none, .op (.mv (.t 53))⟩,
      ⟨some 55, some (54, true), .op (.mv (.t 0))⟩,
      ⟨some 56, some (54, true), .op (.mv (.t 1))⟩,
      ⟨some 57, some (54, true), .op (.callF 15 [(.t 55), (.t 56)])⟩,
      ⟨some 58, some (54, true), .op (.un .not (.t 57))⟩,
      ⟨some 59, none, .op (.pick (.t 54) (.t 58) (.c (.bool false)))⟩,
      ⟨some 6, none, .op (.mv (.t 59))⟩])
    .ret)
    .skip))
  (.seq (.seq (.ops [⟨some 60, none, .op (.mv (.t 11))⟩,
    ⟨some 61, none, .op (.bin .neq (.t 60) (.c (.int .i64 0)))⟩,
    ⟨some 62, none, .op (.mv (.t 61))⟩,
    ⟨some 63, some (62, false), .op (.mv (.t 13))⟩,
    ⟨some 64, some (62, false), .op (.bin .neq (.t 63) (.c (.int .i64 0)))⟩,
    ⟨some 65, none, .op (.pick (.t 62) (.c (.bool true)) (.t 64))⟩,
    ⟨some 66, none, .op (.mv (.t 65))⟩,
    ⟨some 67, some (66, false), .op (.mv (.t 8))⟩,
    ⟨some 68, some (66, false), .op (.mv (.t 10))⟩,
    ⟨some 69, some (66, false), .op (.bin .gtr (.t 67) (.t 68))⟩,
    ⟨some 70, none, .op (.pick (.t 66) (.c (.bool true)) (.t 69))⟩])
  (.cond (.t 70)
    (.seq (.ops [⟨some 6, none, .op (.mv (.c (.bool false)))⟩])
    .ret)
    .skip))
  (.cut (.seq (.ops [⟨some 71, none, .op (.mv (.t 0))⟩,
    ⟨some 72, none, .op (.mv (.t 1))⟩,
    ⟨some 73, none, .op (.mv (.t 2))⟩,
    ⟨some 74, none, .op (.callF 16 [(.t 71), (.t 72), (.t 73)])⟩,
    ⟨some 14, none, .op (.mv (.t 74))⟩])
  (.seq (.seq (.ops [⟨some 75, none, .op (.mv (.t 14))⟩,
    ⟨some 76, none, .op (.mv (.t 1))⟩,
    ⟨some 77, none, .op (.callF 15 [(.t 75), (.t 76)])⟩,
    ⟨some 78, none, .op (.un .not (.t 77))⟩])
  (.cond (.t 78)
    (.seq (.ops [⟨some 79, none, .op (.mv (.t 7))⟩,
      ⟨some 6, none, .op (.mv (.t 79))⟩])
    .ret)
    .skip))
  (.seq (.ops [⟨some 80, none, .op (.mv (.t 0))⟩,
    ⟨some 81, none, .op (.lenL (.t 80))⟩,
    ⟨some 15, none, .op (.mv (.t 81))⟩])
  (.seq (.seq (.ops [⟨some 82, none, .op (.mv (.t 1))⟩,
    ⟨some 83, none, .op (.bin .gtr (.t 82) (.c (.int .i64 0)))⟩])
  (.cond (.t 83)
    (.ops [⟨some 84, none, .op (.mv (.t 15))⟩,
      ⟨some 85, none, .op (.bin .sub (.t 84) (.c (.int .i64 1)))⟩,
      ⟨some 15, none, .op (.mv (.t 85))⟩])
    .skip))
  (.cut (.seq (.ops [⟨some 87, none, .op (.mv (.t 14))⟩,
    ⟨some 88, none, .op (.mv (.t 1))⟩,
    ⟨some 89, none, .op (.callF 12 [(.t 87), (.t 88)])⟩,
    ⟨some 86, none, .op (.mv (.t 89))⟩,
    ⟨some 90, none, .op (.extract (.t 86) 0)⟩,
    ⟨some 91, none, .op (.extract (.t 86) 1)⟩,
    ⟨some 16, none, .op (.mv (.t 90))⟩,
    ⟨some 9, none, .op (.mv (.t 91))⟩])
  (.seq (.ops [⟨some 93, none, .op (.mv (.t 14))⟩,
    ⟨some 94, none, .op (.mv (.t 1))⟩,
    ⟨some 95, none, .op (.callF 13 [(.t 93), (.t 94)])⟩,
    ⟨some 92, none, .op (.mv (.t 95))⟩,
    ⟨some 96, none, .op (.extract (.t 92) 0)⟩,
    ⟨some 97, none, .op (.extract (.t 92) 1)⟩,
    ⟨some 17, none, .op (.mv (.t 96))⟩,
    ⟨some 11, none, .op (.mv (.t 97))⟩])
  (.seq (.ops [⟨some 99, none, .op (.mv (.t 14))⟩,
    ⟨some 100, none, .op (.mv (.t 1))⟩,
    ⟨some 101, none, .op (.callF 14 [(.t 99), (.t 100)])⟩,
    ⟨some 98, none, .op (.mv (.t 101))⟩,
    ⟨some 102, none, .op (.extract (.t 98) 0)⟩,
    ⟨some 103, none, .op (.extract (.t 98) 1)⟩,
    ⟨some 18, none, .op (.mv (.t 102))⟩,
    ⟨some 13, none, .op (.mv (.t 103))⟩])
  (.seq (.ops [⟨some 104, none, .op (.mv (.t 7))⟩,
    ⟨some 105, none, .op (.mv (.t 104))⟩,
    ⟨some 106, some (105, true), .op (.mv (.t 9))⟩,
    ⟨some 107, some (105, true), .op (.bin .eql (.t 106) (.c (.int .i64 0)))⟩,
    ⟨some 108, none, .op (.pick (.t 105) (.t 107) (.c (.bool false)))⟩,
    ⟨some 109, none, .op (.mv (.t 108))⟩,
    ⟨some 110, some (109, true), .op (.mv (.t 11))⟩,
    ⟨some 111, some (109, true), .op (.bin .eql (.t 110) (.c (.int .i64 0)))⟩,
    ⟨some 112, none, .op (.pick (.t 109) (.t 111) (.c (.bool false)))⟩,
    ⟨some 113, none, .op (.mv (.t 112))⟩,
    ⟨some 114, some (113, true), .op (.mv (.t 13))⟩,
    ⟨some 115, some (113, true), .op (.bin .eql (.t 114) (.c (.int .i64 0)))⟩,
    ⟨some 116, none, .op (.pick (.t 113) (.t 115) (.c (.bool false)))⟩,
    ⟨some 117, none, .op (.mv (.t 116))⟩,
    ⟨some 118, some (117, true), .op (.mv (.t 16))⟩,
    ⟨some 119, some (117, true), .op (.mv (.t 8))⟩,
    ⟨some 120, some (117, true), .op (.mv (.t 2))⟩,
    ⟨some 121, some (117, true), .op (.lenS (.t 120))⟩,
    ⟨some 122, some (117, true), .op (.bin .add (.t 119) (.t 121))⟩,
    ⟨some 123, some (117, true), .op (.bin .eql (.t 118) (.t 122))⟩,
    ⟨some 124, none, .op (.pick (.t 117) (.t 123) (.c (.bool false)))⟩,
    ⟨some 125, none, .op (.mv (.t 124))⟩,
    ⟨some 126, some (125, true), .op (.mv (.t 17))⟩,
    ⟨some 127, some (125, true), .op (.mv (.t 10))⟩,
    ⟨some 128, some (125, true), .op (.mv (.t 15))⟩,
    ⟨some 129, some (125, true), .op (.mv (.t 2))⟩,
    ⟨some 130, some (125, true), .op (.lenS (.t 129))⟩,
    ⟨some 131, some (125, true), .op (.bin .mul (.t 128) (.t 130))⟩,
    ⟨some 132, some (125, true), .op (.bin .add (.t 127) (.t 131))⟩,
    ⟨some 133, some (125, true), .op (.bin .eql (.t 126) (.t 132))⟩,
    ⟨some 134, none, .op (.pick (.t 125) (.t 133) (.c (.bool false)))⟩,
    ⟨some 135, none, .op (.mv (.t 134))⟩,
    ⟨some 136, some (135, true), .op (.mv (.t 18))⟩,
    ⟨some 137, some (135, true), .op (.mv (.t 2))⟩,
    ⟨some 138, some (135, true), .op (.mv (.t 12))⟩,
    ⟨some 139, some (135, true), .op (.bin .add (.t 137) (.t 138))⟩,
    ⟨some 140, some (135, true), .op (.bin .eql (.t 136) (.t 139))⟩,
    ⟨some 141, none, .op (.pick (.t 135) (.t 140) (.c (.bool false)))⟩,
    ⟨some 6, none, .op (.mv (.t 141))⟩])
  .ret))))))))))))))))))))
theorem F4 : FI 4 3 142 8 [.tmp 6] c4 := ⟨⟨Try.f4, Try.func4, by kernel_rfl, by kernel_rfl, by kernel_rfl⟩, by kernel_rfl, by decide, by kernel_rfl⟩


theorem prefixes_few {m : Nat} {h : AHeap} (l : List Entry) (lv : Int) (s : Str) (sz : Nat) (c : Bool) (cs : ∀ h, C m 7 [] h = some (.ret (.bool true), h)) (cfew : ∀ h, C m 11 [.lst sz (l.map Entry.av) c] h = some (.ret (.bool false), h)) : C (m + 1) 4 [.lst sz (l.map Entry.av) c, i64 lv, .str s] h = some (.ret (.bool true), h) := by
  refine fun_pure F4 rfl rfl rfl (pure_lst entry_pure l rfl) ?_
  conv => whnf
  refine clI (cs _) ?_
  conv => whnf
  refine clI (cfew _) ?_
  conv => whnf
  exact ⟨rfl, [.bool true], by rfl, frz_bool rfl⟩
theorem prefixes_long {m : Nat} {h : AHeap} (l : List Entry) (lv : Int) (s : Str) (sz : Nat) (c : Bool) (cs : ∀ h, C m 7 [] h = some (.ret (.bool true), h)) (cfew : ∀ h, C m 11 [.lst sz (l.map Entry.av) c] h = some (.ret (.bool true), h)) (hs : 100 < s.length) : C (m + 1) 4 [.lst sz (l.map Entry.av) c, i64 lv, .str s] h = some (.ret (.bool true), h) := by
  refine fun_pure F4 rfl rfl rfl (pure_lst entry_pure l rfl) ?_
  conv => whnf
  refine clI (cs _) ?_
  conv => whnf
  refine clI (cfew _) ?_
  conv => whnf
  refine brd (fun a => ?_) (fun a => absurd (by omega) a)
  conv => whnf
  exact ⟨rfl, [.bool true], by rfl, frz_bool rfl⟩
theorem prefixes_bad {m : Nat} {h : AHeap} (l : List Entry) (lv : Int) (s : Str) (sz : Nat) (c : Bool) (cs : ∀ h, C m 7 [] h = some (.ret (.bool true), h)) (cfew : ∀ h, C m 11 [.lst sz (l.map Entry.av) c] h = some (.ret (.bool true), h)) (hs : s.length ≤ 100) (w f : Int) (cS : ∀ h, C m 12 [.lst sz (l.map Entry.av) c, i64 lv] h = some (.ret (.tup [i64 0, i64 2]), h)) (cW : ∀ h, C m 13 [.lst sz (l.map Entry.av) c, i64 lv] h = some (.ret (.tup [i64 w, i64 f]), h))
    (cP : ∀ h, C m 14 [.lst sz (l.map Entry.av) c, i64 lv] h = some (.ret (.tup [.str [], i64 2]), h)) (cV : ∀ h, C m 15 [.lst sz (l.map Entry.av) c, i64 lv] h = some (.ret (.bool false), h)) :
    C (m + 1) 4 [.lst sz (l.map Entry.av) c, i64 lv, .str s] h = some (.ret (.bool true), h) := by
  refine fun_pure F4 rfl rfl rfl (pure_lst entry_pure l rfl) ?_
  conv => whnf
  refine clI (cs _) ?_
  conv => whnf
  refine clI (cfew _) ?_
  conv => whnf
  refine brd (fun a => absurd a (by omega)) (fun a => ?_)
  conv => whnf
  refine cutI (by decide) rfl (t := ⟨[(0, .lst sz (l.map Entry.av) c), (1, i64 lv), (2, .str s), (7, .bool true)], [], []⟩) ⟨⟨rfl, rfl, rfl, rfl⟩, rfl, rfl⟩ ?_
  conv => whnf
  refine clI (cS _) ?_
  conv => whnf
  refine clI (cW _) ?_
  conv => whnf
  refine clI (cP _) ?_
  conv => whnf
  refine cutI (by decide) rfl (t := ⟨[(0, .lst sz (l.map Entry.av) c), (1, i64 lv), (2, .str s), (7, .bool true), (8, i64 0), (9, i64 2), (10, i64 w), (11, i64 f), (12, .str []), (13, i64 2)], [], []⟩) ⟨⟨rfl, rfl, rfl, rfl, rfl, rfl, rfl, rfl, rfl, rfl⟩, rfl, rfl⟩ ?_
  conv => whnf
  refine clI (cV _) ?_
  conv => whnf
  exact ⟨rfl, [.bool true], by rfl, frz_bool rfl⟩
theorem prefixes_out {m : Nat} {h : AHeap} (l : List Entry) (lv : Int) (s : Str) (sz : Nat) (c : Bool) (cs : ∀ h, C m 7 [] h = some (.ret (.bool true), h)) (cfew : ∀ h, C m 11 [.lst sz (l.map Entry.av) c] h = some (.ret (.bool true), h)) (hs : s.length ≤ 100) (hl : l.length ≤ 100) (n w : Int) (x : Str) (hn : -5000 ≤ n ∧ n ≤ w) (hw : w ≤ 11706) (hx : x.length ≤ 48) (cS : ∀ h, C m 12 [.lst sz (l.map Entry.av) c, i64 lv] h = some (.ret (.tup [i64 n, i64 0]), h)) (cW : ∀ h, C m 13 [.lst sz (l.map Entry.av) c, i64 lv] h = some (.ret (.tup [i64 w, i64 0]), h)) (cP : ∀ h, C m 14 [.lst sz (l.map Entry.av) c, i64 lv] h = some (.ret (.tup [.str x, i64 0]), h)) (M : List Entry) (cB : ∀ h, C m 16 [.lst sz (l.map Entry.av) c, i64 lv, .str s] h = some (.ret (.lst 22 (M.map Entry.av) false), h)) (cV : ∀ h, C m 15 [.lst 22 (M.map Entry.av) false, i64 lv] h = some (.ret (.bool false), h)) : C (m + 1) 4 [.lst sz (l.map Entry.av) c, i64 lv, .str s] h = some (.ret (.bool true), h) := by
  refine fun_pure F4 rfl rfl rfl (pure_lst entry_pure l rfl) ?_
  conv => whnf
  refine clI (cs _) ?_
  conv => whnf
  refine clI (cfew _) ?_
  conv => whnf
  refine brd (fun a => absurd a (by omega)) (fun a => ?_)
  conv => whnf
  refine cutI (by decide) rfl (t := ⟨[(0, .lst sz (l.map Entry.av) c), (1, i64 lv), (2, .str s), (7, .bool true)], [], []⟩) ⟨⟨rfl, rfl, rfl, rfl⟩, rfl, rfl⟩ ?_
  conv => whnf
  refine clI (cS _) ?_
  conv => whnf
  refine clI (cW _) ?_
  conv => whnf
  refine clI (cP _) ?_
  conv => whnf
  refine cutI (by decide) rfl (t := ⟨[(0, .lst sz (l.map Entry.av) c), (1, i64 lv), (2, .str s), (7, .bool true), (8, i64 n), (9, i64 0), (10, i64 w), (11, i64 0), (12, .str x), (13, i64 0)], [], []⟩) ⟨⟨rfl, rfl, rfl, rfl, rfl, rfl, rfl, rfl, rfl, rfl⟩, rfl, rfl⟩ ?_
  conv => whnf
  refine brd (fun a => absurd a (by omega)) (fun a => ?_)
  conv => whnf
  refine cutI (by decide) rfl (t := ⟨[(0, .lst sz (l.map Entry.av) c), (1, i64 lv), (2, .str s), (7, .bool true), (8, i64 n), (10, i64 w), (12, .str x)], [], []⟩) ⟨⟨rfl, rfl, rfl, rfl, rfl, rfl, rfl⟩, rfl, rfl⟩ ?_
  conv => whnf
  refine clI (cB _) ?_
  conv => whnf
  refine clI (cV _) ?_
  conv => whnf
  exact ⟨rfl, [.bool true], by rfl, frz_bool rfl⟩
theorem prefixes_in {m : Nat} {h : AHeap} (l : List Entry) (lv : Int) (s : Str) (sz : Nat) (c : Bool) (cs : ∀ h, C m 7 [] h = some (.ret (.bool true), h)) (cfew : ∀ h, C m 11 [.lst sz (l.map Entry.av) c] h = some (.ret (.bool true), h)) (hs : s.length ≤ 100) (hl : l.length ≤ 100) (n w : Int) (x : Str) (hn : -5000 ≤ n ∧ n ≤ w) (hw : w ≤ 11706) (hx : x.length ≤ 48) (cS : ∀ h, C m 12 [.lst sz (l.map Entry.av) c, i64 lv] h = some (.ret (.tup [i64 n, i64 0]), h)) (cW : ∀ h, C m 13 [.lst sz (l.map Entry.av) c, i64 lv] h = some (.ret (.tup [i64 w, i64 0]), h)) (cP : ∀ h, C m 14 [.lst sz (l.map Entry.av) c, i64 lv] h = some (.ret (.tup [.str x, i64 0]), h)) (M : List Entry) (cB : ∀ h, C m 16 [.lst sz (l.map Entry.av) c, i64 lv, .str s] h = some (.ret (.lst 22 (M.map Entry.av) false), h)) (many : Int) (hm : many = l.length - (if 0 < lv then 1 else 0)) (hm0 : 0 ≤ many * s.length ∧ many * s.length ≤ 10000) (h1 : 0 < lv → 1 ≤ l.length) (cV : ∀ h, C m 15 [.lst 22 (M.map Entry.av) false, i64 lv] h = some (.ret (.bool true), h)) (a b : Int) (y : Str) (ha : a = n + s.length) (hb : b = w + many * s.length) (hy : y = s ++ x)
    (cS2 : ∀ h, C m 12 [.lst 22 (M.map Entry.av) false, i64 lv] h = some (.ret (.tup [i64 a, i64 0]), h)) (cW2 : ∀ h, C m 13 [.lst 22 (M.map Entry.av) false, i64 lv] h = some (.ret (.tup [i64 b, i64 0]), h))
    (cP2 : ∀ h, C m 14 [.lst 22 (M.map Entry.av) false, i64 lv] h = some (.ret (.tup [.str y, i64 0]), h)) : C (m + 1) 4 [.lst sz (l.map Entry.av) c, i64 lv, .str s] h = some (.ret (.bool true), h) := by
  refine fun_pure F4 rfl rfl rfl (pure_lst entry_pure l rfl) ?_
  conv => whnf
  refine clI (cs _) ?_
  conv => whnf
  refine clI (cfew _) ?_
  conv => whnf
  refine brd (fun a => absurd a (by omega)) (fun a => ?_)
  conv => whnf
  refine cutI (by decide) rfl (t := ⟨[(0, .lst sz (l.map Entry.av) c), (1, i64 lv), (2, .str s), (7, .bool true)], [], []⟩) ⟨⟨rfl, rfl, rfl, rfl⟩, rfl, rfl⟩ ?_
  conv => whnf
  refine clI (cS _) ?_
  conv => whnf
  refine clI (cW _) ?_
  conv => whnf
  refine clI (cP _) ?_
  conv => whnf
  refine cutI (by decide) rfl (t := ⟨[(0, .lst sz (l.map Entry.av) c), (1, i64 lv), (2, .str s), (7, .bool true), (8, i64 n), (9, i64 0), (10, i64 w), (11, i64 0), (12, .str x), (13, i64 0)], [], []⟩) ⟨⟨rfl, rfl, rfl, rfl, rfl, rfl, rfl, rfl, rfl, rfl⟩, rfl, rfl⟩ ?_
  conv => whnf
  refine brd (fun a => absurd a (by omega)) (fun a => ?_)
  conv => whnf
  refine cutI (by decide) rfl (t := ⟨[(0, .lst sz (l.map Entry.av) c), (1, i64 lv), (2, .str s), (7, .bool true), (8, i64 n), (10, i64 w), (12, .str x)], [], []⟩) ⟨⟨rfl, rfl, rfl, rfl, rfl, rfl, rfl⟩, rfl, rfl⟩ ?_
  conv => whnf
  refine clI (cB _) ?_
  conv => whnf
  refine clI (cV _) ?_
  have rest : ∀ s' : LS, LS.sub ⟨[(1, i64 lv), (2, .str s), (7, .bool true), (8, i64 n), (10, i64 w), (12, .str x), (14, .lst 22 (M.map Entry.av) false), (15, i64 many)], [], []⟩ s' → OkR Try.prog (C m) cfg0.inl KK 142 8 (cutOf (cutOf (cutOf (cutOf c4)))) s' (RetQ Try.prog [.tmp 6] fun v' h' => frz h' 64 v' = some (.bool true)) := fun s' hs' => by
    refine cutI (by decide) rfl hs' ?_
    conv => whnf
    refine clI (cS2 _) ?_
    conv => whnf
    refine clI (cW2 _) ?_
    conv => whnf
    refine clI (cP2 _) ?_
    conv => whnf
    refine zI (wrap_i64 (by omega) (by omega)) ?_
    conv => whnf
    refine bre (fun _ => ?_) (fun q => absurd ha q)
    conv => whnf
    refine zI (wrap_i64 (by omega) (by omega)) ?_
    conv => whnf
    refine zI (wrap_i64 (by omega) (by omega)) ?_
    conv => whnf
    refine bre (fun _ => ?_) (fun q => absurd hb q)
    conv => whnf
    refine ⟨by omega, ?_⟩
    conv => whnf
    exact ⟨rfl, [.bool (y == s ++ x)], by rfl, frz_bool (by simp [hy])⟩
  conv => whnf
  refine brd (fun p => ?_) (fun p => ?_)
  · conv => whnf
    refine zI (z := many) (by rw [List.length_map, wrap_i64 (by omega) (by omega), hm, if_pos p]) ?_
    exact rest _ ⟨⟨rfl, rfl, rfl, rfl, rfl, rfl, rfl, rfl⟩, rfl, rfl⟩
  · rw [if_neg p, Int.sub_zero] at hm
    subst hm
    exact rest _ ⟨⟨rfl, rfl, rfl, rfl, rfl, rfl, rfl, lenI _ _⟩, rfl, rfl⟩
end Go.Proofs
