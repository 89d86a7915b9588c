/- The looked-up text of the functions. -/
import Derived.Test.YtfddiediieblhaaT0
namespace Go.Proofs
open Go Go.Abs
/-- The chapter's examples: shown by themselves. -/
def sum0 : FuncId → List AV → Option AV := fun f args => cond (Nat.beq f 7) (match args with | [] => some (.bool true) | _ => none) none
def cfg0 : Cfg := ⟨inl0, sum0⟩
noncomputable abbrev C (n : Nat) : CallF := CN Try.prog cfg0 n
-- 104 functions
/- f5 understory/understorylaw04.PageCapacity: 108 temporaries, depth 7, 3 parameters, results [t6] -/
def c5 : RC :=
  (.seq (.ops [⟨some 6, none, .op (.mv (.c (.bool false)))⟩])
  (.seq (.ops [⟨some 16, none, .op (.callF 7 [])⟩,
    ⟨some 7, none, .op (.mv (.t 16))⟩])
  (.seq (.seq (.ops [⟨some 17, none, .op (.mv (.t 0))⟩,
    ⟨some 18, none, .op (.callF 11 [(.t 17)])⟩,
    ⟨some 19, none, .op (.un .not (.t 18))⟩])
  (.cond (.t 19)
    (.seq (.ops [⟨some 20, none, .op (.mv (.t 7))⟩,
      ⟨some 6, none, .op (.mv (.t 20))⟩])
    .ret)
    .skip))
  (.seq (.ops [⟨some 22, none, .op (.mv (.t 0))⟩,
    ⟨some 23, none, .op (.mv (.t 1))⟩,
    ⟨some 24, none, .op (.callF 13 [(.t 22), (.t 23)])⟩,
    ⟨some 21, none, .op (.mv (.t 24))⟩,
    ⟨some 25, none, .op (.extract (.t 21) 0)⟩,
    ⟨some 26, none, .op (.extract (.t 21) 1)⟩,
    ⟨some 8, none, .op (.mv (.t 25))⟩,
    ⟨some 9, none, .op (.mv (.t 26))⟩])
  (.seq (.ops [⟨some 27, none, .op (.mv (.t 2))⟩,
    ⟨some 28, none, .op (.toInt .i64 (.t 27))⟩,
    ⟨some 29, none, .op (.mv (.t 0))⟩,
    ⟨some 30, none, .op (.lenL (.t 29))⟩,
    ⟨some 31, none, .op (.bin .add (.t 30) (.c (.int .i64 1)))⟩,
    ⟨some 32, none, .op (.bin .rem (.t 28) (.t 31))⟩,
    ⟨some 10, none, .op (.mv (.t 32))⟩])
  (.seq (.ops [⟨some 34, none, .op (.mv (.t 0))⟩,
    ⟨some 35, none, .op (.mv (.t 10))⟩,
    ⟨some 36, none, .op (.sliceL 22 (.t 34) none (some (.t 35)) none)⟩,
    ⟨some 37, none, .op (.mv (.t 1))⟩,
    ⟨some 38, none, .op (.callF 13 [(.t 36), (.t 37)])⟩,
    ⟨some 33, none, .op (.mv (.t 38))⟩,
    ⟨some 39, none, .op (.extract (.t 33) 0)⟩,
    ⟨some 40, none, .op (.extract (.t 33) 1)⟩,
    ⟨some 11, none, .op (.mv (.t 39))⟩,
    ⟨some 12, none, .op (.mv (.t 40))⟩])
  (.seq (.ops [⟨some 42, none, .op (.mv (.t 0))⟩,
    ⟨some 43, none, .op (.mv (.t 10))⟩,
    ⟨some 44, none, .op (.sliceL 22 (.t 42) (some (.t 43)) none none)⟩,
    ⟨some 45, none, .op (.mv (.t 1))⟩,
    ⟨some 46, none, .op (.callF 13 [(.t 44), (.t 45)])⟩,
    ⟨some 41, none, .op (.mv (.t 46))⟩,
    ⟨some 47, none, .op (.extract (.t 41) 0)⟩,
    ⟨some 48, none, .op (.extract (.t 41) 1)⟩,
    ⟨some 13, none, .op (.mv (.t 47))⟩,
    ⟨some 14, none, .op (.mv (.t 48))⟩])
  (.seq (.seq (.ops [⟨some 49, none, .op (.mv (.t 9))⟩,
    ⟨some 50, none, .op (.bin .eql (.t 49) (.c (.int .i64 0)))⟩,
    ⟨some 51, none, .op (.mv (.t 12))⟩,
    ⟨some 52, none, .op (.bin .eql (.t 51) (.c (.int .i64 0)))⟩,
    ⟨some 53, none, .op (.mv (.t 52))⟩,
    ⟨some 54, some (53, true), .op (.mv (.t 14))⟩,
    ⟨some 55, some (53, true), .op (.bin .eql (.t 54) (.c (.int .i64 0)))⟩,
    ⟨some 56, none, .op (.pick (.t 53) (.t 55) (.c (.bool false)))⟩,
    ⟨some 57, none, .op (.cmp true 4 (.t 50) (.t 56))⟩,
    ⟨some 58, none, .op (.mv (.t 57))⟩,
    ⟨some 59, some (58, false), .op (.mv (.t 9))⟩,
    ⟨some 60, some (58, false), .op (.bin .eql (.t 59) (.c (.int .i64 0)))⟩,
    ⟨some 61, some (58, false), .op (.mv (.t 60))⟩,
    ⟨some 62, some (61, true), .op (.mv (.t 8))⟩,
    ⟨some 63, some (61, true), .op (.mv (.t 11))⟩,
    ⟨some 64, some (61, true), .op (.mv (.t 13))⟩,
    ⟨some 65, some (61, true), .op (.bin .add (.t 63) (.t 64))⟩,
    ⟨some 66, some (61, true), .op (.bin .sub (.t 65) (.c (.int .i64 6)))⟩,
    ⟨some 67, some (61, true), .op (.bin .neq (.t 62) (.t 66))⟩,
    ⟨some 68, some (58, false), .op (.pick (.t 61) (.t 67) (.c (.bool false)))⟩,
    ⟨some 69, none, .op (.pick (.t 58) (.c (.bool true)) (.t 68))⟩])
  (.cond (.t 69)
    (.seq (.ops [⟨some 6, none, .op (.mv (.c (.bool false)))⟩])
    .ret)
    .skip))
  (.cut (.seq (.ops [⟨some 15, none, .op (.mv (.c (.int .i64 4)))⟩])
  (.seq (.seq (.ops [⟨some 70, none, .op (.mv (.t 1))⟩,
    ⟨some 71, none, .op (.bin .gtr (.t 70) (.c (.int .i64 0)))⟩])
  (.cond (.t 71)
    (.ops [⟨some 15, none, .op (.mv (.c (.int .i64 6)))⟩])
    .skip))
  (.seq (.seq (.ops [⟨some 72, none, .op (.mv (.t 0))⟩,
    ⟨some 73, none, .op (.mv (.t 1))⟩,
    ⟨some 74, none, .op (.callF 15 [(.t 72), (.t 73)])⟩,
    ⟨some 75, none, .op (.mv (.t 74))⟩,
    ⟨some 76, some (75, true), .op (.mv (.t 0))⟩,
    ⟨some 77, some (75, true), .op (.lenL (.t 76))⟩,
    ⟨some 78, some (75, true), .op (.mv (.t 15))⟩,
    ⟨some 79, some (75, true), .op (.bin .leq (.t 77) (.t 78))⟩,
    ⟨some 80, none, .op (.pick (.t 75) (.t 79) (.c (.bool false)))⟩,
    ⟨some 81, none, .op (.mv (.t 80))⟩,
    ⟨some 82, some (81, true), .op (.mv (.t 0))⟩,
    ⟨some 83, some (81, true), .op (.mv (.t 1))⟩,
    ⟨some 84, some (81, true), .op (.callF 17 [(.t 82), (.t 83)])⟩,
    ⟨some 85, some (81, true), .op (.un .not (.t 84))⟩,
    ⟨some 86, none, .op (.pick (.t 81) (.t 85) (.c (.bool false)))⟩])
  (.cond (.t 86)
    (.seq (.ops [⟨some 6, none, .op (.mv (.c (.bool false)))⟩])
    .ret)
    .skip))
  (.seq (.ops [⟨some 87, none, .op (.mv (.t 7))⟩,
    ⟨some 88, none, .op (.mv (.t 87))⟩,
    ⟨some 89, some (88, true), .op (.mv (.t 0))⟩,
    ⟨some 90, some (88, true), .op (.mv (.t 1))⟩,
    ⟨some 91, some (88, true), .op (.callF 17 [(.t 89), (.t 90)])⟩,
    ⟨some 92, some (88, true), .op (.un .not (.t 91))⟩,
    ⟨some 93, some (88, true), .op (.mv (.t 92))⟩,
    ⟨some 94, some (93, false), .op (.mv (.t 0))⟩,
    ⟨some 95, some (93, false), .op (.mv (.t 1))⟩,
    ⟨some 96, some (93, false), .op (.callF 15 [(.t 94), (.t 95)])⟩,
    ⟨some 97, some (93, false), .op (.mv (.t 96))⟩,
    ⟨some 98, some (97, true), .op (.mv (.t 9))⟩,
    ⟨some 99, some (97, true), .op (.bin .eql (.t 98) (.c (.int .i64 0)))⟩,
    ⟨some 100, some (93, false), .op (.pick (.t 97) (.t 99) (.c (.bool false)))⟩,
    ⟨some 101, some (93, false), .op (.mv (.t 100))⟩,
    ⟨some 102, some (101, true), .op (.mv (.t 8))⟩,
    ⟨some 103, some (101, true), .op (.callF 18 [])⟩,
    ⟨some 104, some (101, true), .op (.bin .leq (.t 102) (.t 103))⟩,
    ⟨some 105, some (93, false), .op (.pick (.t 101) (.t 104) (.c (.bool false)))⟩,
    ⟨some 106, some (88, true), .op (.pick (.t 93) (.c (.bool true)) (.t 105))⟩,
    ⟨some 107, none, .op (.pick (.t 88) (.t 106) (.c (.bool false)))⟩,
    ⟨some 6, none, .op (.mv (.t 107))⟩])
  .ret)))))))))))))
theorem F5 : FI 5 3 108 7 [.tmp 6] c5 := ⟨⟨Try.f5, Try.func5, by kernel_rfl, by kernel_rfl, by kernel_rfl⟩, by kernel_rfl, by decide, by kernel_rfl⟩
/- f11 understory/understorylaw04.few: 33 temporaries, depth 6, 1 parameters, results [t2] -/
def c11 : RC :=
  (.seq (.ops [⟨some 2, none, .op (.mv (.c (.bool false)))⟩])
  (.seq (.seq (.ops [⟨some 3, none, .op (.mv (.c (.int .i64 0)))⟩])
  (.block 0
    (.loop
      (.seq (.seq (.ops [⟨some 4, none, .op (.mv (.t 3))⟩,
        ⟨some 5, none, .op (.mv (.t 0))⟩,
        ⟨some 6, none, .op (.lenL (.t 5))⟩,
        ⟨some 7, none, .op (.bin .lss (.t 4) (.t 6))⟩,
        ⟨some 8, none, .op (.mv (.t 7))⟩,
        ⟨some 9, some (8, true), .op (.mv (.t 3))⟩,
        ⟨some 10, some (8, true), .op (.bin .leq (.t 9) (.c (.int .i64 100)))⟩,
        ⟨some 11, none, .op (.pick (.t 8) (.t 10) (.c (.bool false)))⟩])
      (.cond (.t 11)
        .skip
        (.exit 0)))
      (.seq (.block 1
        (.seq (.ops [⟨some 14, none, .op (.mv (.t 0))⟩,
          ⟨some 15, none, .op (.mv (.t 3))⟩,
          ⟨some 16, none, .op (.indexAddrL 22 (.t 14) (.t 15))⟩,
          ⟨some 17, none, .op (.fieldAddr 0 (.t 16))⟩,
          ⟨some 18, none, .op (.load false 1 (.t 17))⟩,
          ⟨some 19, none, .op (.lenS (.t 18))⟩,
          ⟨some 20, none, .op (.bin .gtr (.t 19) (.c (.int .i64 300)))⟩,
          ⟨some 21, none, .op (.mv (.t 20))⟩,
          ⟨some 22, some (21, false), .op (.mv (.t 0))⟩,
          ⟨some 23, some (21, false), .op (.mv (.t 3))⟩,
          ⟨some 24, some (21, false), .op (.indexAddrL 22 (.t 22) (.t 23))⟩,
          ⟨some 25, some (21, false), .op (.fieldAddr 1 (.t 24))⟩,
          ⟨some 26, some (21, false), .op (.load false 1 (.t 25))⟩,
          ⟨some 27, some (21, false), .op (.lenS (.t 26))⟩,
          ⟨some 28, some (21, false), .op (.bin .gtr (.t 27) (.c (.int .i64 300)))⟩,
          ⟨some 29, none, .op (.pick (.t 21) (.c (.bool true)) (.t 28))⟩])
        (.cond (.t 29)
          (.seq (.ops [⟨some 2, none, .op (.mv (.c (.bool false)))⟩])
          .ret)
          .skip)))
      (.ops [⟨some 12, none, .op (.mv (.t 3))⟩,
        ⟨some 13, none, .op (.bin .add (.t 12) (.c (.int .i64 1)))⟩,
        ⟨some 3, none, .op (.mv (.t 13))⟩]))))))
  (.cut (.seq (.ops [⟨some 30, none, .op (.mv (.t 0))⟩,
    ⟨some 31, none, .op (.lenL (.t 30))⟩,
    ⟨some 32, none, .op (.bin .leq (.t 31) (.c (.int .i64 100)))⟩,
    ⟨some 2, none, .op (.mv (.t 32))⟩])
  .ret))))
theorem F11 : FI 11 1 33 6 [.tmp 2] c11 := ⟨⟨Try.f11, Try.func11, by kernel_rfl, by kernel_rfl, by kernel_rfl⟩, by kernel_rfl, by decide, by kernel_rfl⟩
/- f12 understory/page.Size: 37 temporaries, depth 6, 2 parameters, results [t4, t5] -/
def c12 : RC :=
  (.seq (.ops [⟨some 4, none, .op (.mv (.c (.int .i64 0)))⟩,
    ⟨some 5, none, .op (.mv (.c (.int .i64 0)))⟩])
  (.seq (.seq (.ops [⟨some 10, none, .op (.mv (.t 0))⟩,
    ⟨some 11, none, .op (.mv (.t 1))⟩,
    ⟨some 12, none, .op (.callF 15 [(.t 10), (.t 11)])⟩,
    ⟨some 13, none, .op (.un .not (.t 12))⟩])
  (.cond (.t 13)
    (.seq (.ops [⟨some 4, none, .op (.mv (.c (.int .i64 0)))⟩,
      ⟨some 5, none, .op (.mv (.c (.int .i64 2)))⟩])
    .ret)
    .skip))
  (.seq (.ops [⟨some 15, none, .op (.mv (.t 0))⟩,
    ⟨some 16, none, .op (.mv (.t 1))⟩,
    ⟨some 17, none, .op (.callF 13 [(.t 15), (.t 16)])⟩,
    ⟨some 14, none, .op (.mv (.t 17))⟩,
    ⟨some 18, none, .op (.extract (.t 14) 0)⟩,
    ⟨some 19, none, .op (.extract (.t 14) 1)⟩,
    ⟨some 6, none, .op (.mv (.t 18))⟩,
    ⟨some 7, none, .op (.mv (.t 19))⟩])
  (.seq (.ops [⟨some 20, none, .op (.mv (.t 0))⟩,
    ⟨some 21, none, .op (.mv (.t 1))⟩,
    ⟨some 22, none, .op (.callF 37 [(.t 20), (.t 21)])⟩,
    ⟨some 23, none, .op (.lenS (.t 22))⟩,
    ⟨some 8, none, .op (.mv (.t 23))⟩])
  (.seq (.ops [⟨some 24, none, .op (.mv (.t 0))⟩,
    ⟨some 25, none, .op (.lenL (.t 24))⟩,
    ⟨some 9, none, .op (.mv (.t 25))⟩])
  (.seq (.seq (.ops [⟨some 26, none, .op (.mv (.t 1))⟩,
    ⟨some 27, none, .op (.bin .gtr (.t 26) (.c (.int .i64 0)))⟩])
  (.cond (.t 27)
    (.ops [⟨some 28, none, .op (.mv (.t 9))⟩,
      ⟨some 29, none, .op (.bin .sub (.t 28) (.c (.int .i64 1)))⟩,
      ⟨some 9, none, .op (.mv (.t 29))⟩])
    .skip))
  (.seq (.ops [⟨some 30, none, .op (.mv (.t 6))⟩,
    ⟨some 31, none, .op (.mv (.t 9))⟩,
    ⟨some 32, none, .op (.mv (.t 8))⟩,
    ⟨some 33, none, .op (.bin .mul (.t 31) (.t 32))⟩,
    ⟨some 34, none, .op (.bin .sub (.t 30) (.t 33))⟩,
    ⟨some 35, none, .op (.mv (.t 8))⟩,
    ⟨some 36, none, .op (.bin .add (.t 34) (.t 35))⟩,
    ⟨some 4, none, .op (.mv (.t 36))⟩,
    ⟨some 5, none, .op (.mv (.c (.int .i64 0)))⟩])
  .ret)))))))
theorem F12 : FI 12 2 37 6 [.tmp 4, .tmp 5] c12 := ⟨⟨Try.f12, Try.func12, by kernel_rfl, by kernel_rfl, by kernel_rfl⟩, by kernel_rfl, by decide, by kernel_rfl⟩
/- f13 understory/page.Weight: 33 temporaries, depth 6, 2 parameters, results [t4, t5] -/
def c13 : RC :=
  (.seq (.ops [⟨some 4, none, .op (.mv (.c (.int .i64 0)))⟩,
    ⟨some 5, none, .op (.mv (.c (.int .i64 0)))⟩])
  (.seq (.seq (.ops [⟨some 11, none, .op (.mv (.t 1))⟩,
    ⟨some 12, none, .op (.callF 38 [(.t 11), (.c (.int .i64 0)), (.c (.int .i64 20))])⟩,
    ⟨some 13, none, .op (.un .not (.t 12))⟩])
  (.cond (.t 13)
    (.seq (.ops [⟨some 4, none, .op (.mv (.c (.int .i64 0)))⟩,
      ⟨some 5, none, .op (.mv (.c (.int .i64 2)))⟩])
    .ret)
    .skip))
  (.seq (.ops [⟨some 6, none, .op (.mv (.c (.int .i64 6)))⟩])
  (.seq (.seq (.ops [⟨some 14, none, .op (.mv (.t 0))⟩,
    ⟨some 15, none, .op (.lenL (.t 14))⟩,
    ⟨some 16, none, .op (.mv (.c (.int .i64 0)))⟩])
  (.block 0
    (.loop
      (.seq (.ops [⟨some 17, none, .op (.bin .lss (.t 16) (.t 15))⟩])
      (.seq (.cond (.t 17)
        .skip
        (.exit 0))
      (.seq (.block 1
        (.seq (.ops [⟨some 18, none, .op (.indexAddrL 22 (.t 14) (.t 16))⟩,
          ⟨some 19, none, .op (.load true 22 (.t 18))⟩,
          ⟨some 8, none, .op (.alloc 51 [(.str []), (.str []), (.int .i64 0), (.int .i64 0), (.int .i64 0), (.int .i64 0), (.int .u8 0), (.int .u8 0), (.int .u8 0), (.int .u8 0), (.int .u8 0), (.int .u8 0), (.int .u8 0), (.int .u8 0), (.int .u8 0), (.int .u8 0), (.int .u8 0), (.int .u8 0), (.int .u8 0), (.int .u8 0), (.int .u8 0), (.int .u8 0)])⟩,
          ⟨none, none, .op (.store 22 (.t 8) (.t 19))⟩])
        (.seq (.ops [⟨some 21, none, .op (.load true 22 (.t 8))⟩,
          ⟨some 22, none, .op (.mv (.t 1))⟩,
          ⟨some 23, none, .op (.callF 39 [(.t 21), (.t 22)])⟩,
          ⟨some 20, none, .op (.mv (.t 23))⟩,
          ⟨some 24, none, .op (.extract (.t 20) 0)⟩,
          ⟨some 25, none, .op (.extract (.t 20) 1)⟩,
          ⟨some 9, none, .op (.mv (.t 24))⟩,
          ⟨some 10, none, .op (.mv (.t 25))⟩])
        (.seq (.seq (.ops [⟨some 26, none, .op (.mv (.t 10))⟩,
          ⟨some 27, none, .op (.un .not (.t 26))⟩])
        (.cond (.t 27)
          (.seq (.ops [⟨some 4, none, .op (.mv (.c (.int .i64 0)))⟩,
            ⟨some 5, none, .op (.mv (.c (.int .i64 2)))⟩])
          .ret)
          .skip))
        (.ops [⟨some 28, none, .op (.mv (.t 6))⟩,
          ⟨some 29, none, .op (.mv (.t 9))⟩,
          ⟨some 30, none, .op (.bin .add (.t 28) (.t 29))⟩,
          ⟨some 6, none, .op (.mv (.t 30))⟩])))))
      (.ops [⟨some 31, none, .op (.bin .add (.t 16) (.c (.int .i64 1)))⟩,
        ⟨some 16, none, .op (.mv (.t 31))⟩])))))))
  (.cut (.seq (.ops [⟨some 32, none, .op (.mv (.t 6))⟩,
    ⟨some 4, none, .op (.mv (.t 32))⟩,
    ⟨some 5, none, .op (.mv (.c (.int .i64 0)))⟩])
  .ret))))))
theorem F13 : FI 13 2 33 6 [.tmp 4, .tmp 5] c13 := ⟨⟨Try.f13, Try.func13, by kernel_rfl, by kernel_rfl, by kernel_rfl⟩, by kernel_rfl, by decide, by kernel_rfl⟩
/- f14 understory/page.Prefix: 13 temporaries, depth 4, 2 parameters, results [t4, t5] -/
def c14 : RC :=
  (.seq (.ops [⟨some 4, none, .op (.mv (.c (.str [])))⟩,
    ⟨some 5, none, .op (.mv (.c (.int .i64 0)))⟩])
  (.seq (.seq (.ops [⟨some 6, none, .op (.mv (.t 0))⟩,
    ⟨some 7, none, .op (.mv (.t 1))⟩,
    ⟨some 8, none, .op (.callF 15 [(.t 6), (.t 7)])⟩,
    ⟨some 9, none, .op (.un .not (.t 8))⟩])
  (.cond (.t 9)
    (.seq (.ops [⟨some 4, none, .op (.mv (.c (.str [])))⟩,
      ⟨some 5, none, .op (.mv (.c (.int .i64 2)))⟩])
    .ret)
    .skip))
  (.seq (.ops [⟨some 10, none, .op (.mv (.t 0))⟩,
    ⟨some 11, none, .op (.mv (.t 1))⟩,
    ⟨some 12, none, .op (.callF 37 [(.t 10), (.t 11)])⟩,
    ⟨some 4, none, .op (.mv (.t 12))⟩,
    ⟨some 5, none, .op (.mv (.c (.int .i64 0)))⟩])
  .ret)))
theorem F14 : FI 14 2 13 4 [.tmp 4, .tmp 5] c14 := ⟨⟨Try.f14, Try.func14, by kernel_rfl, by kernel_rfl, by kernel_rfl⟩, by kernel_rfl, by decide, by kernel_rfl⟩
/- f15 understory/page.Valid: 78 temporaries, depth 7, 2 parameters, results [t4] -/
def c15 : RC :=
  (.seq (.ops [⟨some 4, none, .op (.mv (.c (.bool false)))⟩])
  (.seq (.seq (.ops [⟨some 7, none, .op (.mv (.t 1))⟩,
    ⟨some 8, none, .op (.callF 38 [(.t 7), (.c (.int .i64 0)), (.c (.int .i64 20))])⟩,
    ⟨some 9, none, .op (.un .not (.t 8))⟩,
    ⟨some 10, none, .op (.mv (.t 9))⟩,
    ⟨some 11, some (10, false), .op (.mv (.t 0))⟩,
    ⟨some 12, some (10, false), .op (.lenL (.t 11))⟩,
    ⟨some 13, some (10, false), .op (.bin .eql (.t 12) (.c (.int .i64 0)))⟩,
    ⟨some 14, none, .op (.pick (.t 10) (.c (.bool true)) (.t 13))⟩,
    ⟨some 15, none, .op (.mv (.t 14))⟩,
    ⟨some 16, some (15, false), .op (.mv (.t 1))⟩,
    ⟨some 17, some (15, false), .op (.bin .gtr (.t 16) (.c (.int .i64 0)))⟩,
    ⟨some 18, some (15, false), .op (.mv (.t 17))⟩,
    ⟨some 19, some (18, true), .op (.mv (.t 0))⟩,
    ⟨some 20, some (18, true), .op (.lenL (.t 19))⟩,
    ⟨some 21, some (18, true), .op (.bin .lss (.t 20) (.c (.int .i64 2)))⟩,
    ⟨some 22, some (18, true), .op (.mv (.t 21))⟩,
    ⟨some 23, some (22, false), .op (.mv (.t 0))⟩,
    ⟨some 24, some (22, false), .op (.indexAddrL 22 (.t 23) (.c (.int .i64 0)))⟩,
    ⟨some 25, some (22, false), .op (.fieldAddr 0 (.t 24))⟩,
    ⟨some 26, some (22, false), .op (.load false 1 (.t 25))⟩,
    ⟨some 27, some (22, false), .op (.bin .neq (.t 26) (.c (.str [])))⟩,
    ⟨some 28, some (18, true), .op (.pick (.t 22) (.c (.bool true)) (.t 27))⟩,
    ⟨some 29, some (15, false), .op (.pick (.t 18) (.t 28) (.c (.bool false)))⟩,
    ⟨some 30, none, .op (.pick (.t 15) (.c (.bool true)) (.t 29))⟩])
  (.cond (.t 30)
    (.seq (.ops [⟨some 4, none, .op (.mv (.c (.bool false)))⟩])
    .ret)
    .skip))
  (.seq (.seq (.ops [⟨some 31, none, .op (.mv (.t 0))⟩,
    ⟨some 32, none, .op (.lenL (.t 31))⟩,
    ⟨some 33, none, .op (.mv (.c (.int .i64 0)))⟩])
  (.block 0
    (.loop
      (.seq (.ops [⟨some 34, none, .op (.bin .lss (.t 33) (.t 32))⟩])
      (.seq (.cond (.t 34)
        .skip
        (.exit 0))
      (.seq (.block 1
        (.seq (.ops [⟨some 35, none, .op (.mv (.t 33))⟩,
          ⟨some 36, none, .op (.indexAddrL 22 (.t 31) (.t 33))⟩,
          ⟨some 37, none, .op (.load true 22 (.t 36))⟩,
          ⟨some 6, none, .op (.alloc 51 [(.str []), (.str []), (.int .i64 0), (.int .i64 0), (.int .i64 0), (.int .i64 0), (.int .u8 0), (.int .u8 0), (.int .u8 0), (.int .u8 0), (.int .u8 0), (.int .u8 0), (.int .u8 0), (.int .u8 0), (.int .u8 0), (.int .u8 0), (.int .u8 0), (.int .u8 0), (.int .u8 0), (.int .u8 0), (.int .u8 0), (.int .u8 0)])⟩,
          ⟨some 5, none, .op (.mv (.t 35))⟩,
          ⟨none, none, .op (.store 22 (.t 6) (.t 37))⟩])
        (.block 2
          (.seq (.seq (.ops [⟨some 39, none, .op (.mv (.t 1))⟩,
            ⟨some 40, none, .op (.bin .eql (.t 39) (.c (.int .i64 0)))⟩,
            ⟨some 41, none, .op (.mv (.t 40))⟩,
            ⟨some 42, some (41, true), .op (.load true 22 (.t 6))⟩,
            ⟨some 43, some (41, true), .op (.callF 40 [(.t 42)])⟩,
            ⟨some 44, some (41, true), .op (.bin .eql (.t 43) (.c (.int .i64 0)))⟩,
            ⟨some 45, none, .op (.pick (.t 41) (.t 44) (.c (.bool false)))⟩,
            ⟨some 38, none, .op (.mv (.t 45))⟩])
          (.cond (.t 38)
            .skip
            (.ops [⟨some 46, none, .op (.mv (.t 1))⟩,
              ⟨some 47, none, .op (.bin .gtr (.t 46) (.c (.int .i64 0)))⟩,
              ⟨some 48, none, .op (.mv (.t 47))⟩,
              ⟨some 49, some (48, true), .op (.load true 22 (.t 6))⟩,
              ⟨some 50, some (48, true), .op (.callF 41 [(.t 49)])⟩,
              ⟨some 51, some (48, true), .op (.un .not (.t 50))⟩,
              ⟨some 52, some (48, true), .op (.mv (.t 51))⟩,
              ⟨some 53, some (52, false), .op (.mv (.t 5))⟩,
              ⟨some 54, some (52, false), .op (.bin .gtr (.t 53) (.c (.int .i64 0)))⟩,
              ⟨some 55, some (52, false), .op (.mv (.t 54))⟩,
              ⟨some 56, some (55, true), .op (.fieldAddr 0 (.t 6))⟩,
              ⟨some 57, some (55, true), .op (.load false 1 (.t 56))⟩,
              ⟨some 58, some (55, true), .op (.bin .eql (.t 57) (.c (.str [])))⟩,
              ⟨some 59, some (52, false), .op (.pick (.t 55) (.t 58) (.c (.bool false)))⟩,
              ⟨some 60, some (48, true), .op (.pick (.t 52) (.c (.bool true)) (.t 59))⟩,
              ⟨some 61, none, .op (.pick (.t 48) (.t 60) (.c (.bool false)))⟩,
              ⟨some 38, none, .op (.mv (.t 61))⟩])))
          (.cond (.t 38)
            (.seq (.ops [⟨some 4, none, .op (.mv (.c (.bool false)))⟩])
            .ret)
            (.seq (.draw [(⟨some 63, none, .op (.mv (.t 5))⟩, 0),
              (⟨some 64, none, .op (.bin .gtr (.t 63) (.c (.int .i64 0)))⟩, 0),
              (⟨some 65, none, .op (.mv (.t 64))⟩, 0),
              (⟨some 66, some (65, true), .op (.mv (.t 0))⟩, 0),
              (⟨some 67, some (65, true), .op (.mv (.t 5))⟩, 0),
              (⟨some 68, some (65, true), .op (.bin .sub (.t 67) (.c (.int .i64 1)))⟩, 0),
              (⟨some 69, some (65, true), .op (.indexAddrL 22 (.t 66) (.t 68))⟩, 0),
              (⟨some 70, some (65, true), .op (.fieldAddr 0 (.t 69))⟩, 0),
              (⟨some 71, some (65, true), .op (.load false 1 (.t 70))⟩, 1),
              (⟨some 72, some (65, true), .op (.fieldAddr 0 (.t 6))⟩, 0),
              (⟨some 73, some (65, true), .op (.load false 1 (.t 72))⟩, 1),
              (⟨some 74, some (65, true), .op (.callF 42 [(.t 71), (.t 73)])⟩, 0),
              (⟨some 75, some (65, true), .op (.bin .geq (.t 74) (.c (.int .i64 0)))⟩, 0),
              (⟨some 76, none, .op (.pick (.t 65) (.t 75) (.c (.bool false)))⟩, 0),
              (⟨some 62, none, .op (.mv (.t 76))⟩, 0)])
            (.cond (.t 62)
              (.seq (.ops [⟨some 4, none, .op (.mv (.c (.bool false)))⟩])
              .ret)
              .skip)))))))
      (.ops [⟨some 77, none, .op (.bin .add (.t 33) (.c (.int .i64 1)))⟩,
        ⟨some 33, none, .op (.mv (.t 77))⟩])))))))
  (.cut (.seq (.ops [⟨some 4, none, .op (.mv (.c (.bool true)))⟩])
  .ret)))))
theorem F15 : FI 15 2 78 7 [.tmp 4] c15 := ⟨⟨Try.f15, Try.func15, by kernel_rfl, by kernel_rfl, by kernel_rfl⟩, by kernel_rfl, by decide, by kernel_rfl⟩
/- f16 understory/understorylaw04.behind: 36 temporaries, depth 6, 3 parameters, results [t6] -/
def c16 : RC :=
  (.seq (.ops [⟨some 6, none, .op (.mv (.c (.lst 0 [] true)))⟩])
  (.seq (.ops [⟨some 9, none, .op (.mkLst 22 true 0 [(.str []), (.str []), (.int .i64 0), (.int .i64 0), (.int .i64 0), (.int .i64 0), (.int .u8 0), (.int .u8 0), (.int .u8 0), (.int .u8 0), (.int .u8 0), (.int .u8 0), (.int .u8 0), (.int .u8 0), (.int .u8 0), (.int .u8 0), (.int .u8 0), (.int .u8 0), (.int .u8 0), (.int .u8 0), (.int .u8 0), (.int .u8 0)] [])⟩,
    ⟨some 10, none, .op (.mv (.t 0))⟩,
    ⟨some 11, none, .op (.app 51 22 (.t 9) (.t 10))⟩,
    ⟨some 7, none, .op (.mv (.t 11))⟩])
  (.seq (.seq (.ops [⟨some 8, none, .op (.mv (.c (.int .i64 0)))⟩])
  (.block 0
    (.loop
      (.seq (.seq (.ops [⟨some 12, none, .op (.mv (.t 8))⟩,
        ⟨some 13, none, .op (.mv (.t 7))⟩,
        ⟨some 14, none, .op (.lenL (.t 13))⟩,
        ⟨some 15, none, .op (.bin .lss (.t 12) (.t 14))⟩])
      (.cond (.t 15)
        .skip
        (.exit 0)))
      (.seq (.block 1
        (.seq (.ops [⟨some 18, none, .op (.mv (.t 1))⟩,
          ⟨some 19, none, .op (.bin .eql (.t 18) (.c (.int .i64 0)))⟩,
          ⟨some 20, none, .op (.mv (.t 19))⟩,
          ⟨some 21, some (20, false), .op (.mv (.t 8))⟩,
          ⟨some 22, some (20, false), .op (.bin .gtr (.t 21) (.c (.int .i64 0)))⟩,
          ⟨some 23, none, .op (.pick (.t 20) (.c (.bool true)) (.t 22))⟩])
        (.cond (.t 23)
          (.cut (.ops [⟨some 24, none, .op (.mv (.t 7))⟩,
            ⟨some 25, none, .op (.mv (.t 8))⟩,
            ⟨some 26, none, .op (.mv (.t 2))⟩,
            ⟨some 27, none, .op (.mv (.t 7))⟩,
            ⟨some 28, none, .op (.mv (.t 8))⟩,
            ⟨some 29, none, .op (.indexAddrL 22 (.t 27) (.t 28))⟩,
            ⟨some 30, none, .op (.fieldAddr 0 (.t 29))⟩,
            ⟨some 31, none, .op (.load false 1 (.t 30))⟩,
            ⟨some 32, none, .op (.bin .add (.t 26) (.t 31))⟩,
            ⟨some 33, none, .op (.indexAddrL 22 (.t 24) (.t 25))⟩,
            ⟨some 34, none, .op (.fieldAddr 0 (.t 33))⟩,
            ⟨none, none, .op (.store 1 (.t 34) (.t 32))⟩]))
          .skip)))
      (.cut (.ops [⟨some 16, none, .op (.mv (.t 8))⟩,
        ⟨some 17, none, .op (.bin .add (.t 16) (.c (.int .i64 1)))⟩,
        ⟨some 8, none, .op (.mv (.t 17))⟩])))))))
  (.cut (.seq (.ops [⟨some 35, none, .op (.mv (.t 7))⟩,
    ⟨some 6, none, .op (.mv (.t 35))⟩])
  .ret)))))
theorem F16 : FI 16 3 36 6 [.tmp 6] c16 := ⟨⟨Try.f16, Try.func16, by kernel_rfl, by kernel_rfl, by kernel_rfl⟩, by kernel_rfl, by decide, by kernel_rfl⟩
/- f17 understory/page.Fits: 19 temporaries, depth 5, 2 parameters, results [t4] -/
def c17 : RC :=
  (.seq (.ops [⟨some 4, none, .op (.mv (.c (.bool false)))⟩])
  (.seq (.seq (.ops [⟨some 7, none, .op (.mv (.t 0))⟩,
    ⟨some 8, none, .op (.mv (.t 1))⟩,
    ⟨some 9, none, .op (.callF 15 [(.t 7), (.t 8)])⟩,
    ⟨some 10, none, .op (.un .not (.t 9))⟩])
  (.cond (.t 10)
    (.seq (.ops [⟨some 4, none, .op (.mv (.c (.bool false)))⟩])
    .ret)
    .skip))
  (.seq (.ops [⟨some 12, none, .op (.mv (.t 0))⟩,
    ⟨some 13, none, .op (.mv (.t 1))⟩,
    ⟨some 14, none, .op (.callF 13 [(.t 12), (.t 13)])⟩,
    ⟨some 11, none, .op (.mv (.t 14))⟩,
    ⟨some 15, none, .op (.extract (.t 11) 0)⟩,
    ⟨some 16, none, .op (.extract (.t 11) 1)⟩,
    ⟨some 5, none, .op (.mv (.t 15))⟩,
    ⟨some 6, none, .op (.mv (.t 16))⟩])
  (.seq (.ops [⟨some 17, none, .op (.mv (.t 5))⟩,
    ⟨some 18, none, .op (.bin .leq (.t 17) (.c (.int .i64 496)))⟩,
    ⟨some 4, none, .op (.mv (.t 18))⟩])
  .ret))))
theorem F17 : FI 17 2 19 5 [.tmp 4] c17 := ⟨⟨Try.f17, Try.func17, by kernel_rfl, by kernel_rfl, by kernel_rfl⟩, by kernel_rfl, by decide, by kernel_rfl⟩
/- f18 understory/page.Capacity: 1 temporaries, depth 2, 0 parameters, results [t0] -/
def c18 : RC :=
  (.seq (.ops [⟨some 0, none, .op (.mv (.c (.int .i64 0)))⟩])
  (.seq (.ops [⟨some 0, none, .op (.mv (.c (.int .i64 496)))⟩])
  .ret))
theorem F18 : FI 18 0 1 2 [.tmp 0] c18 := ⟨⟨Try.f18, Try.func18, by kernel_rfl, by kernel_rfl, by kernel_rfl⟩, by kernel_rfl, by decide, by kernel_rfl⟩
/- f37 understory/page.shared: 31 temporaries, depth 6, 2 parameters, results [t4] -/
def c37 : RC :=
  (.seq (.ops [⟨some 4, none, .op (.mv (.c (.str [])))⟩])
  (.seq (.seq (.ops [⟨some 8, none, .op (.mv (.t 1))⟩,
    ⟨some 9, none, .op (.bin .gtr (.t 8) (.c (.int .i64 0)))⟩])
  (.cond (.t 9)
    (.ops [⟨some 10, none, .op (.mv (.t 0))⟩,
      ⟨some 11, none, .op (.sliceL 22 (.t 10) (some (.c (.int .i64 1))) none none)⟩,
      ⟨some 0, none, .op (.mv (.t 11))⟩])
    .skip))
  (.cut (.seq (.ops [⟨some 12, none, .op (.mv (.t 0))⟩,
    ⟨some 13, none, .op (.indexAddrL 22 (.t 12) (.c (.int .i64 0)))⟩,
    ⟨some 14, none, .op (.fieldAddr 0 (.t 13))⟩,
    ⟨some 15, none, .op (.load false 1 (.t 14))⟩,
    ⟨some 5, none, .op (.mv (.t 15))⟩])
  (.seq (.seq (.ops [⟨some 16, none, .op (.mv (.t 0))⟩,
    ⟨some 17, none, .op (.sliceL 22 (.t 16) (some (.c (.int .i64 1))) none none)⟩,
    ⟨some 18, none, .op (.lenL (.t 17))⟩,
    ⟨some 19, none, .op (.mv (.c (.int .i64 0)))⟩])
  (.block 0
    (.loop
      (.seq (.ops [⟨some 20, none, .op (.bin .lss (.t 19) (.t 18))⟩])
      (.seq (.cond (.t 20)
        .skip
        (.exit 0))
      (.seq (.block 1
        (.seq (.ops [⟨some 21, none, .op (.indexAddrL 22 (.t 17) (.t 19))⟩,
          ⟨some 22, none, .op (.load true 22 (.t 21))⟩,
          ⟨some 7, none, .op (.alloc 51 [(.str []), (.str []), (.int .i64 0), (.int .i64 0), (.int .i64 0), (.int .i64 0), (.int .u8 0), (.int .u8 0), (.int .u8 0), (.int .u8 0), (.int .u8 0), (.int .u8 0), (.int .u8 0), (.int .u8 0), (.int .u8 0), (.int .u8 0), (.int .u8 0), (.int .u8 0), (.int .u8 0), (.int .u8 0), (.int .u8 0), (.int .u8 0)])⟩,
          ⟨none, none, .op (.store 22 (.t 7) (.t 22))⟩])
        (.ops [⟨some 23, none, .op (.mv (.t 5))⟩,
          ⟨some 24, none, .op (.mv (.t 5))⟩,
          ⟨some 25, none, .op (.fieldAddr 0 (.t 7))⟩,
          ⟨some 26, none, .op (.load false 1 (.t 25))⟩,
          ⟨some 27, none, .op (.callF 64 [(.t 24), (.t 26)])⟩,
          ⟨some 28, none, .op (.sliceS (.t 23) none (some (.t 27)))⟩,
          ⟨some 5, none, .op (.mv (.t 28))⟩])))
      (.ops [⟨some 29, none, .op (.bin .add (.t 19) (.c (.int .i64 1)))⟩,
        ⟨some 19, none, .op (.mv (.t 29))⟩])))))))
  (.cut (.seq (.ops [⟨some 30, none, .op (.mv (.t 5))⟩,
    ⟨some 4, none, .op (.mv (.t 30))⟩])
  .ret)))))))
theorem F37 : FI 37 2 31 6 [.tmp 4] c37 := ⟨⟨Try.f37, Try.func37, by kernel_rfl, by kernel_rfl, by kernel_rfl⟩, by kernel_rfl, by decide, by kernel_rfl⟩
/- f38 understory/page.within: 15 temporaries, depth 5, 3 parameters, results [t6] -/
def c38 : RC :=
  (.seq (.ops [⟨some 6, none, .op (.mv (.c (.bool false)))⟩])
  (.seq (.ops [⟨some 7, none, .op (.mv (.t 1))⟩,
    ⟨some 8, none, .op (.mv (.t 0))⟩,
    ⟨some 9, none, .op (.bin .leq (.t 7) (.t 8))⟩,
    ⟨some 10, none, .op (.mv (.t 9))⟩,
    ⟨some 11, some (10, true), .op (.mv (.t 0))⟩,
    ⟨some 12, some (10, true), .op (.mv (.t 2))⟩,
    ⟨some 13, some (10, true), .op (.bin .leq (.t 11) (.t 12))⟩,
    ⟨some 14, none, .op (.pick (.t 10) (.t 13) (.c (.bool false)))⟩,
    ⟨some 6, none, .op (.mv (.t 14))⟩])
  .ret))
theorem F38 : FI 38 3 15 5 [.tmp 6] c38 := ⟨⟨Try.f38, Try.func38, by kernel_rfl, by kernel_rfl, by kernel_rfl⟩, by kernel_rfl, by decide, by kernel_rfl⟩
/- f39 understory/page.weigh: 38 temporaries, depth 6, 2 parameters, results [t4, t5] -/
def c39 : RC :=
  (.seq (.ops [⟨some 2, none, .op (.box 51 (.t 0))⟩,
    ⟨some 4, none, .op (.mv (.c (.int .i64 0)))⟩,
    ⟨some 5, none, .op (.mv (.c (.bool false)))⟩])
  (.seq (.seq (.ops [⟨some 6, none, .op (.mv (.t 1))⟩,
    ⟨some 7, none, .op (.bin .gtr (.t 6) (.c (.int .i64 0)))⟩])
  (.cond (.t 7)
    (.seq (.draw [(⟨some 8, none, .op (.fieldAddr 0 (.t 2))⟩, 0),
      (⟨some 9, none, .op (.load false 1 (.t 8))⟩, 1),
      (⟨some 10, none, .op (.lenS (.t 9))⟩, 0),
      (⟨some 11, none, .op (.bin .add (.t 10) (.c (.int .i64 27)))⟩, 0),
      (⟨some 12, none, .op (.load true 22 (.t 2))⟩, 1),
      (⟨some 13, none, .op (.callF 41 [(.t 12)])⟩, 0),
      (⟨some 4, none, .op (.mv (.t 11))⟩, 0),
      (⟨some 5, none, .op (.mv (.t 13))⟩, 0)])
    .ret)
    .skip))
  (.seq (.seq (.ops [⟨some 14, none, .op (.load true 22 (.t 2))⟩,
    ⟨some 15, none, .op (.callF 40 [(.t 14)])⟩])
  (.block 0
    (.seq (.ops [⟨some 17, none, .op (.bin .eql (.t 15) (.c (.int .i64 1)))⟩,
      ⟨some 16, none, .op (.mv (.t 17))⟩])
    (.cond (.t 16)
      (.seq (.ops [⟨some 18, none, .op (.fieldAddr 0 (.t 2))⟩,
        ⟨some 19, none, .op (.load false 1 (.t 18))⟩,
        ⟨some 20, none, .op (.lenS (.t 19))⟩,
        ⟨some 21, none, .op (.fieldAddr 1 (.t 2))⟩,
        ⟨some 22, none, .op (.load false 1 (.t 21))⟩,
        ⟨some 23, none, .op (.lenS (.t 22))⟩,
        ⟨some 24, none, .op (.bin .add (.t 20) (.t 23))⟩,
        ⟨some 25, none, .op (.bin .add (.t 24) (.c (.int .i64 5)))⟩,
        ⟨some 4, none, .op (.mv (.t 25))⟩,
        ⟨some 5, none, .op (.mv (.c (.bool true)))⟩])
      .ret)
      (.seq (.ops [⟨some 27, none, .op (.bin .eql (.t 15) (.c (.int .i64 2)))⟩,
        ⟨some 26, none, .op (.mv (.t 27))⟩])
      (.cond (.t 26)
        (.seq (.ops [⟨some 28, none, .op (.fieldAddr 0 (.t 2))⟩,
          ⟨some 29, none, .op (.load false 1 (.t 28))⟩,
          ⟨some 30, none, .op (.lenS (.t 29))⟩,
          ⟨some 31, none, .op (.bin .add (.t 30) (.c (.int .i64 27)))⟩,
          ⟨some 4, none, .op (.mv (.t 31))⟩,
          ⟨some 5, none, .op (.mv (.c (.bool true)))⟩])
        .ret)
        (.seq (.ops [⟨some 33, none, .op (.bin .eql (.t 15) (.c (.int .i64 3)))⟩,
          ⟨some 32, none, .op (.mv (.t 33))⟩])
        (.cond (.t 32)
          (.seq (.ops [⟨some 34, none, .op (.fieldAddr 0 (.t 2))⟩,
            ⟨some 35, none, .op (.load false 1 (.t 34))⟩,
            ⟨some 36, none, .op (.lenS (.t 35))⟩,
            ⟨some 37, none, .op (.bin .add (.t 36) (.c (.int .i64 29)))⟩,
            ⟨some 4, none, .op (.mv (.t 37))⟩,
            ⟨some 5, none, .op (.mv (.c (.bool true)))⟩])
          .ret)
          .skip))))))))
  (.seq (.ops [⟨some 4, none, .op (.mv (.c (.int .i64 0)))⟩,
    ⟨some 5, none, .op (.mv (.c (.bool false)))⟩])
  .ret))))
theorem F39 : FI 39 2 38 6 [.tmp 4, .tmp 5] c39 := ⟨⟨Try.f39, Try.func39, by kernel_rfl, by kernel_rfl, by kernel_rfl⟩, by kernel_rfl, by decide, by kernel_rfl⟩
/- f40 understory/page.formOf: 83 temporaries, depth 7, 1 parameters, results [t2] -/
def c40 : RC :=
  (.seq (.ops [⟨some 1, none, .op (.box 51 (.t 0))⟩,
    ⟨some 2, none, .op (.mv (.c (.int .i64 0)))⟩])
  (.seq (.ops [⟨some 3, none, .op (.alloc 49 [(.int .u8 0), (.int .u8 0), (.int .u8 0), (.int .u8 0), (.int .u8 0), (.int .u8 0), (.int .u8 0), (.int .u8 0), (.int .u8 0), (.int .u8 0), (.int .u8 0), (.int .u8 0), (.int .u8 0), (.int .u8 0), (.int .u8 0), (.int .u8 0)])⟩])
  (.seq (.block 0
    (.seq (.ops [⟨some 5, none, .op (.fieldAddr 0 (.t 1))⟩,
      ⟨some 6, none, .op (.load false 1 (.t 5))⟩,
      ⟨some 7, none, .op (.lenS (.t 6))⟩,
      ⟨some 8, none, .op (.callF 38 [(.t 7), (.c (.int .i64 1)), (.c (.int .i64 48))])⟩,
      ⟨some 9, none, .op (.un .not (.t 8))⟩,
      ⟨some 4, none, .op (.mv (.t 9))⟩])
    (.cond (.t 4)
      (.seq (.ops [⟨some 2, none, .op (.mv (.c (.int .i64 0)))⟩])
      .ret)
      (.seq (.ops [⟨some 11, none, .op (.fieldAddr 2 (.t 1))⟩,
        ⟨some 12, none, .op (.load false 1 (.t 11))⟩,
        ⟨some 13, none, .op (.bin .eql (.t 12) (.c (.int .i64 0)))⟩,
        ⟨some 14, none, .op (.mv (.t 13))⟩,
        ⟨some 15, some (14, true), .op (.fieldAddr 3 (.t 1))⟩,
        ⟨some 16, some (14, true), .op (.load false 1 (.t 15))⟩,
        ⟨some 17, some (14, true), .op (.bin .eql (.t 16) (.c (.int .i64 0)))⟩,
        ⟨some 18, none, .op (.pick (.t 14) (.t 17) (.c (.bool false)))⟩,
        ⟨some 19, none, .op (.mv (.t 18))⟩,
        ⟨some 20, some (19, true), .op (.fieldAddr 4 (.t 1))⟩,
        ⟨some 21, some (19, true), .op (.load false 1 (.t 20))⟩,
        ⟨some 22, some (19, true), .op (.bin .eql (.t 21) (.c (.int .i64 0)))⟩,
        ⟨some 23, none, .op (.pick (.t 19) (.t 22) (.c (.bool false)))⟩,
        ⟨some 24, none, .op (.mv (.t 23))⟩,
        ⟨some 25, some (24, true), .op (.fieldAddr 5 (.t 1))⟩,
        ⟨some 26, some (24, true), .op (.load false 1 (.t 25))⟩,
        ⟨some 27, some (24, true), .op (.bin .eql (.t 26) (.c (.int .i64 0)))⟩,
        ⟨some 28, none, .op (.pick (.t 24) (.t 27) (.c (.bool false)))⟩,
        ⟨some 29, none, .op (.mv (.t 28))⟩,
        ⟨some 30, some (29, true), .op (.fieldAddr 6 (.t 1))⟩,
        ⟨some 31, some (29, true), .op (.load true 16 (.t 30))⟩,
        ⟨some 32, some (29, true), .op (.load true 16 (.t 3))⟩,
        ⟨some 33, some (29, true), .op (.cmp false 49 (.t 31) (.t 32))⟩,
        ⟨some 34, none, .op (.pick (.t 29) (.t 33) (.c (.bool false)))⟩,
        ⟨some 35, none, .op (.mv (.t 34))⟩,
        ⟨some 36, some (35, true), .op (.fieldAddr 1 (.t 1))⟩,
        ⟨some 37, some (35, true), .op (.load false 1 (.t 36))⟩,
        ⟨some 38, some (35, true), .op (.lenS (.t 37))⟩,
        ⟨some 39, some (35, true), .op (.bin .leq (.t 38) (.c (.int .i64 64)))⟩,
        ⟨some 40, none, .op (.pick (.t 35) (.t 39) (.c (.bool false)))⟩,
        ⟨some 10, none, .op (.mv (.t 40))⟩])
      (.cond (.t 10)
        (.seq (.ops [⟨some 2, none, .op (.mv (.c (.int .i64 1)))⟩])
        .ret)
        (.seq (.ops [⟨some 42, none, .op (.fieldAddr 1 (.t 1))⟩,
          ⟨some 43, none, .op (.load false 1 (.t 42))⟩,
          ⟨some 44, none, .op (.bin .neq (.t 43) (.c (.str [])))⟩,
          ⟨some 41, none, .op (.mv (.t 44))⟩])
        (.cond (.t 41)
          (.seq (.ops [⟨some 2, none, .op (.mv (.c (.int .i64 0)))⟩])
          .ret)
          (.seq (.ops [⟨some 46, none, .op (.fieldAddr 4 (.t 1))⟩,
            ⟨some 47, none, .op (.load false 1 (.t 46))⟩,
            ⟨some 48, none, .op (.bin .eql (.t 47) (.c (.int .i64 0)))⟩,
            ⟨some 49, none, .op (.mv (.t 48))⟩,
            ⟨some 50, some (49, true), .op (.fieldAddr 5 (.t 1))⟩,
            ⟨some 51, some (49, true), .op (.load false 1 (.t 50))⟩,
            ⟨some 52, some (49, true), .op (.bin .eql (.t 51) (.c (.int .i64 0)))⟩,
            ⟨some 53, none, .op (.pick (.t 49) (.t 52) (.c (.bool false)))⟩,
            ⟨some 54, none, .op (.mv (.t 53))⟩,
            ⟨some 55, some (54, true), .op (.fieldAddr 2 (.t 1))⟩,
            ⟨some 56, some (54, true), .op (.load false 1 (.t 55))⟩,
            ⟨some 57, some (54, true), .op (.callF 51 [(.t 56)])⟩,
            ⟨some 58, none, .op (.pick (.t 54) (.t 57) (.c (.bool false)))⟩,
            ⟨some 59, none, .op (.mv (.t 58))⟩,
            ⟨some 60, some (59, true), .op (.fieldAddr 3 (.t 1))⟩,
            ⟨some 61, some (59, true), .op (.load false 1 (.t 60))⟩,
            ⟨some 62, some (59, true), .op (.callF 38 [(.t 61), (.c (.int .i64 65)), (.c (.int .i64 4000))])⟩,
            ⟨some 63, none, .op (.pick (.t 59) (.t 62) (.c (.bool false)))⟩,
            ⟨some 45, none, .op (.mv (.t 63))⟩])
          (.cond (.t 45)
            (.seq (.ops [⟨some 2, none, .op (.mv (.c (.int .i64 2)))⟩])
            .ret)
            (.seq (.ops [⟨some 65, none, .op (.fieldAddr 2 (.t 1))⟩,
              ⟨some 66, none, .op (.load false 1 (.t 65))⟩,
              ⟨some 67, none, .op (.bin .eql (.t 66) (.c (.int .i64 0)))⟩,
              ⟨some 68, none, .op (.mv (.t 67))⟩,
              ⟨some 69, some (68, true), .op (.fieldAddr 3 (.t 1))⟩,
              ⟨some 70, some (68, true), .op (.load false 1 (.t 69))⟩,
              ⟨some 71, some (68, true), .op (.bin .eql (.t 70) (.c (.int .i64 0)))⟩,
              ⟨some 72, none, .op (.pick (.t 68) (.t 71) (.c (.bool false)))⟩,
              ⟨some 73, none, .op (.mv (.t 72))⟩,
              ⟨some 74, some (73, true), .op (.fieldAddr 4 (.t 1))⟩,
              ⟨some 75, some (73, true), .op (.load false 1 (.t 74))⟩,
              ⟨some 76, some (73, true), .op (.callF 51 [(.t 75)])⟩,
              ⟨some 77, none, .op (.pick (.t 73) (.t 76) (.c (.bool false)))⟩,
              ⟨some 78, none, .op (.mv (.t 77))⟩,
              ⟨some 79, some (78, true), .op (.fieldAddr 5 (.t 1))⟩,
              ⟨some 80, some (78, true), .op (.load false 1 (.t 79))⟩,
              ⟨some 81, some (78, true), .op (.callF 38 [(.t 80), (.c (.int .i64 1)), (.c (.int .i64 2147483647))])⟩,
              ⟨some 82, none, .op (.pick (.t 78) (.t 81) (.c (.bool false)))⟩,
              ⟨some 64, none, .op (.mv (.t 82))⟩])
            (.cond (.t 64)
              (.seq (.ops [⟨some 2, none, .op (.mv (.c (.int .i64 3)))⟩])
              .ret)
              .skip)))))))))))
  (.seq (.ops [⟨some 2, none, .op (.mv (.c (.int .i64 0)))⟩])
  .ret))))
theorem F40 : FI 40 1 83 7 [.tmp 2] c40 := ⟨⟨Try.f40, Try.func40, by kernel_rfl, by kernel_rfl, by kernel_rfl⟩, by kernel_rfl, by decide, by kernel_rfl⟩
/- f41 understory/page.branches: 32 temporaries, depth 6, 1 parameters, results [t2] -/
def c41 : RC :=
  (.seq (.ops [⟨some 1, none, .op (.box 51 (.t 0))⟩,
    ⟨some 2, none, .op (.mv (.c (.bool false)))⟩])
  (.seq (.ops [⟨some 3, none, .op (.fieldAddr 0 (.t 1))⟩,
    ⟨some 4, none, .op (.load false 1 (.t 3))⟩,
    ⟨some 5, none, .op (.lenS (.t 4))⟩,
    ⟨some 6, none, .op (.bin .leq (.t 5) (.c (.int .i64 48)))⟩,
    ⟨some 7, none, .op (.mv (.t 6))⟩,
    ⟨some 8, some (7, true), .op (.fieldAddr 1 (.t 1))⟩,
    ⟨some 9, some (7, true), .op (.load false 1 (.t 8))⟩,
    ⟨some 10, some (7, true), .op (.bin .eql (.t 9) (.c (.str [])))⟩,
    ⟨some 11, none, .op (.pick (.t 7) (.t 10) (.c (.bool false)))⟩,
    ⟨some 12, none, .op (.mv (.t 11))⟩,
    ⟨some 13, some (12, true), .op (.fieldAddr 2 (.t 1))⟩,
    ⟨some 14, some (12, true), .op (.load false 1 (.t 13))⟩,
    ⟨some 15, some (12, true), .op (.bin .eql (.t 14) (.c (.int .i64 0)))⟩,
    ⟨some 16, none, .op (.pick (.t 12) (.t 15) (.c (.bool false)))⟩,
    ⟨some 17, none, .op (.mv (.t 16))⟩,
    ⟨some 18, some (17, true), .op (.fieldAddr 3 (.t 1))⟩,
    ⟨some 19, some (17, true), .op (.load false 1 (.t 18))⟩,
    ⟨some 20, some (17, true), .op (.bin .eql (.t 19) (.c (.int .i64 0)))⟩,
    ⟨some 21, none, .op (.pick (.t 17) (.t 20) (.c (.bool false)))⟩,
    ⟨some 22, none, .op (.mv (.t 21))⟩,
    ⟨some 23, some (22, true), .op (.fieldAddr 4 (.t 1))⟩,
    ⟨some 24, some (22, true), .op (.load false 1 (.t 23))⟩,
    ⟨some 25, some (22, true), .op (.callF 51 [(.t 24)])⟩,
    ⟨some 26, none, .op (.pick (.t 22) (.t 25) (.c (.bool false)))⟩,
    ⟨some 27, none, .op (.mv (.t 26))⟩,
    ⟨some 28, some (27, true), .op (.fieldAddr 5 (.t 1))⟩,
    ⟨some 29, some (27, true), .op (.load false 1 (.t 28))⟩,
    ⟨some 30, some (27, true), .op (.callF 38 [(.t 29), (.c (.int .i64 1)), (.c (.int .i64 2147483647))])⟩,
    ⟨some 31, none, .op (.pick (.t 27) (.t 30) (.c (.bool false)))⟩,
    ⟨some 2, none, .op (.mv (.t 31))⟩])
  .ret))
theorem F41 : FI 41 1 32 6 [.tmp 2] c41 := ⟨⟨Try.f41, Try.func41, by kernel_rfl, by kernel_rfl, by kernel_rfl⟩, by kernel_rfl, by decide, by kernel_rfl⟩
/- f42 understory/enc.Compare: 8 temporaries, depth 4, 2 parameters, results [t4] -/
def c42 : RC :=
  (.seq (.ops [⟨some 4, none, .op (.mv (.c (.int .i64 0)))⟩])
  (.seq (.ops [⟨some 5, none, .op (.mv (.t 0))⟩,
    ⟨some 6, none, .op (.mv (.t 1))⟩,
    ⟨some 7, none, .op (.callF 65 [(.t 5), (.t 6)])⟩,
    ⟨some 4, none, .op (.mv (.t 7))⟩])
  .ret))
theorem F42 : FI 42 2 8 4 [.tmp 4] c42 := ⟨⟨Try.f42, Try.func42, by kernel_rfl, by kernel_rfl, by kernel_rfl⟩, by kernel_rfl, by decide, by kernel_rfl⟩
/- f51 understory/page.numbered: 5 temporaries, depth 3, 1 parameters, results [t2] -/
def c51 : RC :=
  (.seq (.ops [⟨some 2, none, .op (.mv (.c (.bool false)))⟩])
  (.seq (.ops [⟨some 3, none, .op (.mv (.t 0))⟩,
    ⟨some 4, none, .op (.callF 38 [(.t 3), (.c (.int .i64 2)), (.c (.int .i64 4095))])⟩,
    ⟨some 2, none, .op (.mv (.t 4))⟩])
  .ret))
theorem F51 : FI 51 1 5 3 [.tmp 2] c51 := ⟨⟨Try.f51, Try.func51, by kernel_rfl, by kernel_rfl, by kernel_rfl⟩, by kernel_rfl, by decide, by kernel_rfl⟩
/- f64 understory/enc.Prefix: 25 temporaries, depth 5, 2 parameters, results [t4] -/
def c64 : RC :=
  (.seq (.ops [⟨some 4, none, .op (.mv (.c (.int .i64 0)))⟩])
  (.seq (.ops [⟨some 5, none, .op (.mv (.c (.int .i64 0)))⟩])
  (.seq (.block 0
    (.loop
      (.seq (.seq (.draw [(⟨some 6, none, .op (.mv (.t 5))⟩, 0),
        (⟨some 7, none, .op (.mv (.t 0))⟩, 0),
        (⟨some 8, none, .op (.lenS (.t 7))⟩, 0),
        (⟨some 9, none, .op (.mv (.t 1))⟩, 0),
        (⟨some 10, none, .op (.lenS (.t 9))⟩, 0),
        (⟨some 11, none, .op (.raw { dst := (some 11), op := (.call { callee := .builtin .min, args := #[(.tmp 8), (.tmp 10)], argTypes := #[3, 3] }), type := 3, pos := "enc.go:39", after := #[⟨2, .data⟩, ⟨4, .data⟩], guard := none })⟩, 0),
        (⟨some 12, none, .op (.bin .lss (.t 6) (.t 11))⟩, 0),
        (⟨some 13, none, .op (.mv (.t 12))⟩, 0),
        (⟨some 14, some (13, true), .op (.mv (.t 0))⟩, 0),
        (⟨some 15, some (13, true), .op (.mv (.t 5))⟩, 0),
        (⟨some 16, some (13, true), .op (.indexS (.t 14) (.t 15))⟩, 0),
        (⟨some 17, some (13, true), .op (.mv (.t 1))⟩, 0),
        (⟨some 18, some (13, true), .op (.mv (.t 5))⟩, 0),
        (⟨some 19, some (13, true), .op (.indexS (.t 17) (.t 18))⟩, 0),
        (⟨some 20, some (13, true), .op (.bin .eql (.t 16) (.t 19))⟩, 0),
        (⟨some 21, none, .op (.pick (.t 13) (.t 20) (.c (.bool false)))⟩, 0)])
      (.cond (.t 21)
        .skip
        (.exit 0)))
      (.block 1
        (.ops [⟨some 22, none, .op (.mv (.t 5))⟩,
          ⟨some 23, none, .op (.bin .add (.t 22) (.c (.int .i64 1)))⟩,
          ⟨some 5, none, .op (.mv (.t 23))⟩])))))
  (.cut (.seq (.ops [⟨some 24, none, .op (.mv (.t 5))⟩,
    ⟨some 4, none, .op (.mv (.t 24))⟩])
  .ret)))))
theorem F64 : FI 64 2 25 5 [.tmp 4] c64 := ⟨⟨Try.f64, Try.func64, by kernel_rfl, by kernel_rfl, by kernel_rfl⟩, by kernel_rfl, by decide, by kernel_rfl⟩
/- f65 cmp.Compare[string]: 20 temporaries, depth 5, 2 parameters, results [t4] -/
def c65 : RC :=
  (.seq (.ops [⟨some 4, none, .op (.mv (.c (.int .i64 0)))⟩])
  (.seq (.ops [⟨some 7, none, .op (.mv (.t 0))⟩,
    ⟨some 8, none, .op (.callF 75 [(.t 7)])⟩,
    ⟨some 5, none, .op (.mv (.t 8))⟩])
  (.seq (.ops [⟨some 9, none, .op (.mv (.t 1))⟩,
    ⟨some 10, none, .op (.callF 75 [(.t 9)])⟩,
    ⟨some 6, none, .op (.mv (.t 10))⟩])
  (.seq (.seq (.ops [⟨some 11, none, .op (.mv (.t 5))⟩])
  (.cond (.t 11)
    (.seq (.seq (.ops [⟨some 12, none, .op (.mv (.t 6))⟩])
    (.cond (.t 12)
      (.seq (.ops [⟨some 4, none, .op (.mv (.c (.int .i64 0)))⟩])
      .ret)
      .skip))
    (.seq (.ops [⟨some 4, none, .op (.mv (.c (.int .i64 (-1))))⟩])
    .ret))
    .skip))
  (.seq (.seq (.ops [⟨some 13, none, .op (.mv (.t 6))⟩])
  (.cond (.t 13)
    (.seq (.ops [⟨some 4, none, .op (.mv (.c (.int .i64 1)))⟩])
    .ret)
    .skip))
  (.seq (.seq (.ops [⟨some 14, none, .op (.mv (.t 0))⟩,
    ⟨some 15, none, .op (.mv (.t 1))⟩,
    ⟨some 16, none, .op (.bin .lss (.t 14) (.t 15))⟩])
  (.cond (.t 16)
    (.seq (.ops [⟨some 4, none, .op (.mv (.c (.int .i64 (-1))))⟩])
    .ret)
    .skip))
  (.seq (.seq (.ops [⟨some 17, none, .op (.mv (.t 0))⟩,
    ⟨some 18, none, .op (.mv (.t 1))⟩,
    ⟨some 19, none, .op (.bin .gtr (.t 17) (.t 18))⟩])
  (.cond (.t 19)
    (.seq (.ops [⟨some 4, none, .op (.mv (.c (.int .i64 1)))⟩])
    .ret)
    .skip))
  (.seq (.ops [⟨some 4, none, .op (.mv (.c (.int .i64 0)))⟩])
  .ret))))))))
theorem F65 : FI 65 2 20 5 [.tmp 4] c65 := ⟨⟨Try.f65, Try.func65, by kernel_rfl, by kernel_rfl, by kernel_rfl⟩, by kernel_rfl, by decide, by kernel_rfl⟩
/- f75 cmp.isNaN[string]: 6 temporaries, depth 3, 1 parameters, results [t2] -/
def c75 : RC :=
  (.seq (.ops [⟨some 2, none, .op (.mv (.c (.bool false)))⟩])
  (.seq (.ops [⟨some 3, none, .op (.mv (.t 0))⟩,
    ⟨some 4, none, .op (.mv (.t 0))⟩,
    ⟨some 5, none, .op (.bin .neq (.t 3) (.t 4))⟩,
    ⟨some 2, none, .op (.mv (.t 5))⟩])
  .ret))
theorem F75 : FI 75 1 6 3 [.tmp 2] c75 := ⟨⟨Try.f75, Try.func75, by kernel_rfl, by kernel_rfl, by kernel_rfl⟩, by kernel_rfl, by decide, by kernel_rfl⟩
end Go.Proofs
