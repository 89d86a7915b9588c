/- Texts put together: Ga, Tc, Td, Te, Pa, Pb, Gb, Wf, Wg, Gc. -/
import Derived.Test.YtfddiediieblhaaSea7
import Derived.Test.YtfddiediieblhaaSea8
/- The looked-up text of the functions. -/
namespace Go.Proofs
open Go Go.Abs
-- 104 functions
/- f52 understory/page.plain: 22 temporaries, depth 5, 1 parameters, results [t2] -/
def c52 : RC :=
  (.seq (.ops [⟨some 1, none, .op (.box 25 (.t 0))⟩,
    ⟨some 2, none, .op (.mv (.c (.bool false)))⟩])
  (.seq (.ops [⟨some 3, none, .op (.fieldAddr 3 (.t 1))⟩,
    ⟨some 4, none, .op (.load false 1 (.t 3))⟩,
    ⟨some 5, none, .op (.bin .eql (.t 4) (.c (.int .i64 0)))⟩,
    ⟨some 6, none, .op (.mv (.t 5))⟩,
    ⟨some 7, some (6, true), .op (.fieldAddr 4 (.t 1))⟩,
    ⟨some 8, some (6, true), .op (.load false 1 (.t 7))⟩,
    ⟨some 9, some (6, true), .op (.bin .eql (.t 8) (.c (.int .i64 0)))⟩,
    ⟨some 10, none, .op (.pick (.t 6) (.t 9) (.c (.bool false)))⟩,
    ⟨some 11, none, .op (.mv (.t 10))⟩,
    ⟨some 12, some (11, true), .op (.fieldAddr 5 (.t 1))⟩,
    ⟨some 13, some (11, true), .op (.load false 1 (.t 12))⟩,
    ⟨some 14, some (11, true), .op (.un .not (.t 13))⟩,
    ⟨some 15, none, .op (.pick (.t 11) (.t 14) (.c (.bool false)))⟩,
    ⟨some 16, none, .op (.mv (.t 15))⟩,
    ⟨some 17, some (16, true), .op (.fieldAddr 6 (.t 1))⟩,
    ⟨some 18, some (16, true), .op (.load false 1 (.t 17))⟩,
    ⟨some 19, some (16, true), .op (.lenL (.t 18))⟩,
    ⟨some 20, some (16, true), .op (.bin .eql (.t 19) (.c (.int .i64 0)))⟩,
    ⟨some 21, none, .op (.pick (.t 16) (.t 20) (.c (.bool false)))⟩,
    ⟨some 2, none, .op (.mv (.t 21))⟩])
  .ret))
theorem F52 : FI 52 1 22 5 [.tmp 2] c52 := ⟨⟨Try.f52, Try.func52, by kernel_rfl, by kernel_rfl, by kernel_rfl⟩, by kernel_rfl, by decide, by kernel_rfl⟩
/- f53 understory/page.linked: 9 temporaries, depth 4, 1 parameters, results [t2] -/
def c53 : RC :=
  (.seq (.ops [⟨some 2, none, .op (.mv (.c (.bool false)))⟩])
  (.seq (.ops [⟨some 3, none, .op (.mv (.t 0))⟩,
    ⟨some 4, none, .op (.bin .eql (.t 3) (.c (.int .i64 0)))⟩,
    ⟨some 5, none, .op (.mv (.t 4))⟩,
    ⟨some 6, some (5, false), .op (.mv (.t 0))⟩,
    ⟨some 7, some (5, false), .op (.callF 51 [(.t 6)])⟩,
    ⟨some 8, none, .op (.pick (.t 5) (.c (.bool true)) (.t 7))⟩,
    ⟨some 2, none, .op (.mv (.t 8))⟩])
  .ret))
theorem F53 : FI 53 1 9 4 [.tmp 2] c53 := ⟨⟨Try.f53, Try.func53, by kernel_rfl, by kernel_rfl, by kernel_rfl⟩, by kernel_rfl, by decide, by kernel_rfl⟩
/- f54 understory/page.freed: 66 temporaries, depth 7, 1 parameters, results [t2] -/
def c54 : RC :=
  (.seq (.ops [⟨some 2, none, .op (.mv (.c (.bool false)))⟩])
  (.seq (.seq (.ops [⟨some 7, none, .op (.mv (.t 0))⟩,
    ⟨some 8, none, .op (.lenL (.t 7))⟩,
    ⟨some 9, none, .op (.mv (.c (.int .i64 0)))⟩])
  (.block 0
    (.loop
      (.seq (.ops [⟨some 10, none, .op (.bin .lss (.t 9) (.t 8))⟩])
      (.seq (.cond (.t 10)
        .skip
        (.exit 0))
      (.seq (.block 1
        (.seq (.ops [⟨some 11, none, .op (.mv (.t 9))⟩,
          ⟨some 12, none, .op (.indexAddrL 2 (.t 7) (.t 9))⟩,
          ⟨some 13, none, .op (.load true 2 (.t 12))⟩,
          ⟨some 4, none, .op (.alloc 109 [(.int .i64 0), (.lst 0 [] true)])⟩,
          ⟨some 3, none, .op (.mv (.t 11))⟩,
          ⟨none, none, .op (.store 2 (.t 4) (.t 13))⟩])
        (.seq (.seq (.draw [(⟨some 14, none, .op (.fieldAddr 0 (.t 4))⟩, 0),
          (⟨some 15, none, .op (.load false 1 (.t 14))⟩, 1),
          (⟨some 16, none, .op (.callF 38 [(.t 15), (.c (.int .i64 0)), (.c (.int .i64 1099511627776))])⟩, 0),
          (⟨some 17, none, .op (.un .not (.t 16))⟩, 0),
          (⟨some 18, none, .op (.mv (.t 17))⟩, 0),
          (⟨some 19, some (18, false), .op (.fieldAddr 1 (.t 4))⟩, 0),
          (⟨some 20, some (18, false), .op (.load false 1 (.t 19))⟩, 1),
          (⟨some 21, some (18, false), .op (.lenL (.t 20))⟩, 0),
          (⟨some 22, some (18, false), .op (.bin .eql (.t 21) (.c (.int .i64 0)))⟩, 0),
          (⟨some 23, none, .op (.pick (.t 18) (.c (.bool true)) (.t 22))⟩, 0),
          (⟨some 24, none, .op (.mv (.t 23))⟩, 0),
          (⟨some 25, some (24, false), .op (.mv (.t 3))⟩, 0),
          (⟨some 26, some (24, false), .op (.bin .gtr (.t 25) (.c (.int .i64 0)))⟩, 0),
          (⟨some 27, some (24, false), .op (.mv (.t 26))⟩, 0),
          (⟨some 28, some (27, true), .op (.mv (.t 0))⟩, 0),
          (⟨some 29, some (27, true), .op (.mv (.t 3))⟩, 0),
          (⟨some 30, some (27, true), .op (.bin .sub (.t 29) (.c (.int .i64 1)))⟩, 0),
          (⟨some 31, some (27, true), .op (.indexAddrL 2 (.t 28) (.t 30))⟩, 0),
          (⟨some 32, some (27, true), .op (.fieldAddr 0 (.t 31))⟩, 0),
          (⟨some 33, some (27, true), .op (.load false 1 (.t 32))⟩, 1),
          (⟨some 34, some (27, true), .op (.fieldAddr 0 (.t 4))⟩, 0),
          (⟨some 35, some (27, true), .op (.load false 1 (.t 34))⟩, 1),
          (⟨some 36, some (27, true), .op (.bin .geq (.t 33) (.t 35))⟩, 0),
          (⟨some 37, some (24, false), .op (.pick (.t 27) (.t 36) (.c (.bool false)))⟩, 0),
          (⟨some 38, none, .op (.pick (.t 24) (.c (.bool true)) (.t 37))⟩, 0)])
        (.cond (.t 38)
          (.seq (.ops [⟨some 2, none, .op (.mv (.c (.bool false)))⟩])
          .ret)
          .skip))
        (.cut (.seq (.ops [⟨some 39, none, .op (.fieldAddr 1 (.t 4))⟩,
          ⟨some 40, none, .op (.load false 1 (.t 39))⟩,
          ⟨some 41, none, .op (.lenL (.t 40))⟩,
          ⟨some 42, none, .op (.mv (.c (.int .i64 0)))⟩])
        (.block 2
          (.loop
            (.seq (.ops [⟨some 43, none, .op (.bin .lss (.t 42) (.t 41))⟩])
            (.seq (.cond (.t 43)
              .skip
              (.exit 2))
            (.seq (.block 3
              (.seq (.ops [⟨some 44, none, .op (.mv (.t 42))⟩,
                ⟨some 45, none, .op (.indexAddrL 1 (.t 40) (.t 42))⟩,
                ⟨some 46, none, .op (.load false 1 (.t 45))⟩,
                ⟨some 5, none, .op (.mv (.t 44))⟩,
                ⟨some 6, none, .op (.mv (.t 46))⟩])
              (.seq (.ops [⟨some 47, none, .op (.mv (.t 6))⟩,
                ⟨some 48, none, .op (.callF 51 [(.t 47)])⟩,
                ⟨some 49, none, .op (.un .not (.t 48))⟩,
                ⟨some 50, none, .op (.mv (.t 49))⟩,
                ⟨some 51, some (50, false), .op (.mv (.t 5))⟩,
                ⟨some 52, some (50, false), .op (.bin .gtr (.t 51) (.c (.int .i64 0)))⟩,
                ⟨some 53, some (50, false), .op (.mv (.t 52))⟩,
                ⟨some 54, some (53, true), .op (.fieldAddr 1 (.t 4))⟩,
                ⟨some 55, some (53, true), .op (.load false 1 (.t 54))⟩,
                ⟨some 56, some (53, true), .op (.mv (.t 5))⟩,
                ⟨some 57, some (53, true), .op (.bin .sub (.t 56) (.c (.int .i64 1)))⟩,
                ⟨some 58, some (53, true), .op (.indexAddrL 1 (.t 55) (.t 57))⟩,
                ⟨some 59, some (53, true), .op (.load false 1 (.t 58))⟩,
                ⟨some 60, some (53, true), .op (.mv (.t 6))⟩,
                ⟨some 61, some (53, true), .op (.bin .geq (.t 59) (.t 60))⟩,
                ⟨some 62, some (50, false), .op (.pick (.t 53) (.t 61) (.c (.bool false)))⟩,
                ⟨some 63, none, .op (.pick (.t 50) (.c (.bool true)) (.t 62))⟩])
              (.cond (.t 63)
                (.seq (.ops [⟨some 2, none, .op (.mv (.c (.bool false)))⟩])
                .ret)
                .skip))))
            (.ops [⟨some 64, none, .op (.bin .add (.t 42) (.c (.int .i64 1)))⟩,
              ⟨some 42, none, .op (.mv (.t 64))⟩])))))))))))
      (.cut (.ops [⟨some 65, none, .op (.bin .add (.t 9) (.c (.int .i64 1)))⟩,
        ⟨some 9, none, .op (.mv (.t 65))⟩]))))))))
  (.cut (.seq (.ops [⟨some 2, none, .op (.mv (.c (.bool true)))⟩])
  .ret))))
theorem F54 : FI 54 1 66 7 [.tmp 2] c54 := ⟨⟨Try.f54, Try.func54, by kernel_rfl, by kernel_rfl, by kernel_rfl⟩, by kernel_rfl, by decide, by kernel_rfl⟩
/- f55 understory/page.listed: 21 temporaries, depth 5, 1 parameters, results [t2] -/
def c55 : RC :=
  (.seq (.ops [⟨some 2, none, .op (.mv (.c (.int .i64 0)))⟩])
  (.seq (.ops [⟨some 3, none, .op (.mv (.c (.int .i64 6)))⟩])
  (.seq (.seq (.ops [⟨some 6, none, .op (.mv (.t 0))⟩,
    ⟨some 7, none, .op (.lenL (.t 6))⟩,
    ⟨some 8, none, .op (.mv (.c (.int .i64 0)))⟩])
  (.block 0
    (.loop
      (.seq (.ops [⟨some 9, none, .op (.bin .lss (.t 8) (.t 7))⟩])
      (.seq (.cond (.t 9)
        .skip
        (.exit 0))
      (.seq (.block 1
        (.seq (.ops [⟨some 10, none, .op (.indexAddrL 2 (.t 6) (.t 8))⟩,
          ⟨some 11, none, .op (.load true 2 (.t 10))⟩,
          ⟨some 5, none, .op (.alloc 109 [(.int .i64 0), (.lst 0 [] true)])⟩,
          ⟨none, none, .op (.store 2 (.t 5) (.t 11))⟩])
        (.ops [⟨some 12, none, .op (.mv (.t 3))⟩,
          ⟨some 13, none, .op (.fieldAddr 1 (.t 5))⟩,
          ⟨some 14, none, .op (.load false 1 (.t 13))⟩,
          ⟨some 15, none, .op (.lenL (.t 14))⟩,
          ⟨some 16, none, .op (.bin .mul (.c (.int .i64 4)) (.t 15))⟩,
          ⟨some 17, none, .op (.bin .add (.c (.int .i64 8)) (.t 16))⟩,
          ⟨some 18, none, .op (.bin .add (.t 12) (.t 17))⟩,
          ⟨some 3, none, .op (.mv (.t 18))⟩])))
      (.ops [⟨some 19, none, .op (.bin .add (.t 8) (.c (.int .i64 1)))⟩,
        ⟨some 8, none, .op (.mv (.t 19))⟩])))))))
  (.cut (.seq (.ops [⟨some 20, none, .op (.mv (.t 3))⟩,
    ⟨some 2, none, .op (.mv (.t 20))⟩])
  .ret)))))
theorem F55 : FI 55 1 21 5 [.tmp 2] c55 := ⟨⟨Try.f55, Try.func55, by kernel_rfl, by kernel_rfl, by kernel_rfl⟩, by kernel_rfl, by decide, by kernel_rfl⟩
/- f24 understory/page.Check: 102 temporaries, depth 7, 1 parameters, results [t2] -/
def c24 : RC :=
  (.seq (.ops [⟨some 1, none, .op (.box 25 (.t 0))⟩,
    ⟨some 2, none, .op (.mv (.c (.int .i64 0)))⟩])
  (.seq (.seq (.ops [⟨some 4, none, .op (.fieldAddr 1 (.t 1))⟩,
    ⟨some 5, none, .op (.load false 1 (.t 4))⟩,
    ⟨some 6, none, .op (.callF 51 [(.t 5)])⟩,
    ⟨some 7, none, .op (.un .not (.t 6))⟩,
    ⟨some 8, none, .op (.mv (.t 7))⟩,
    ⟨some 9, some (8, false), .op (.fieldAddr 2 (.t 1))⟩,
    ⟨some 10, some (8, false), .op (.load false 1 (.t 9))⟩,
    ⟨some 11, some (8, false), .op (.callF 38 [(.t 10), (.c (.int .i64 0)), (.c (.int .i64 1099511627776))])⟩,
    ⟨some 12, some (8, false), .op (.un .not (.t 11))⟩,
    ⟨some 13, none, .op (.pick (.t 8) (.c (.bool true)) (.t 12))⟩])
  (.cond (.t 13)
    (.seq (.ops [⟨some 2, none, .op (.mv (.c (.int .i64 2)))⟩])
    .ret)
    .skip))
  (.seq (.ops [⟨some 3, none, .op (.mv (.c (.bool false)))⟩])
  (.seq (.seq (.ops [⟨some 14, none, .op (.fieldAddr 0 (.t 1))⟩,
    ⟨some 15, none, .op (.load false 1 (.t 14))⟩])
  (.block 0
    (.seq (.seq (.ops [⟨some 17, none, .op (.bin .eql (.t 15) (.c (.int .i64 1)))⟩,
      ⟨some 16, none, .op (.mv (.t 17))⟩])
    (.cond (.t 16)
      .skip
      (.ops [⟨some 18, none, .op (.bin .eql (.t 15) (.c (.int .i64 2)))⟩,
        ⟨some 16, none, .op (.mv (.t 18))⟩])))
    (.cond (.t 16)
      (.ops [⟨some 19, none, .op (.fieldAddr 3 (.t 1))⟩,
        ⟨some 20, none, .op (.load false 1 (.t 19))⟩,
        ⟨some 21, none, .op (.callF 38 [(.t 20), (.c (.int .i64 0)), (.c (.int .i64 255))])⟩,
        ⟨some 22, none, .op (.mv (.t 21))⟩,
        ⟨some 23, some (22, true), .op (.fieldAddr 0 (.t 1))⟩,
        ⟨some 24, some (22, true), .op (.load false 1 (.t 23))⟩,
        ⟨some 25, some (22, true), .op (.bin .eql (.t 24) (.c (.int .i64 1)))⟩,
        ⟨some 26, some (22, true), .op (.fieldAddr 4 (.t 1))⟩,
        ⟨some 27, some (22, true), .op (.load false 1 (.t 26))⟩,
        ⟨some 28, some (22, true), .op (.bin .eql (.t 27) (.c (.int .i64 0)))⟩,
        ⟨some 29, some (22, true), .op (.cmp false 4 (.t 25) (.t 28))⟩,
        ⟨some 30, none, .op (.pick (.t 22) (.t 29) (.c (.bool false)))⟩,
        ⟨some 31, none, .op (.mv (.t 30))⟩,
        ⟨some 32, some (31, true), .op (.fieldAddr 6 (.t 1))⟩,
        ⟨some 33, some (31, true), .op (.load false 1 (.t 32))⟩,
        ⟨some 34, some (31, true), .op (.fieldAddr 4 (.t 1))⟩,
        ⟨some 35, some (31, true), .op (.load false 1 (.t 34))⟩,
        ⟨some 36, some (31, true), .op (.callF 17 [(.t 33), (.t 35)])⟩,
        ⟨some 37, none, .op (.pick (.t 31) (.t 36) (.c (.bool false)))⟩,
        ⟨some 38, none, .op (.mv (.t 37))⟩,
        ⟨some 39, some (38, true), .op (.fieldAddr 7 (.t 1))⟩,
        ⟨some 40, some (38, true), .op (.load false 1 (.t 39))⟩,
        ⟨some 41, some (38, true), .op (.bin .eql (.t 40) (.c (.int .i64 0)))⟩,
        ⟨some 42, none, .op (.pick (.t 38) (.t 41) (.c (.bool false)))⟩,
        ⟨some 43, none, .op (.mv (.t 42))⟩,
        ⟨some 44, some (43, true), .op (.fieldAddr 8 (.t 1))⟩,
        ⟨some 45, some (43, true), .op (.load false 1 (.t 44))⟩,
        ⟨some 46, some (43, true), .op (.bin .eql (.t 45) (.c (.str [])))⟩,
        ⟨some 47, none, .op (.pick (.t 43) (.t 46) (.c (.bool false)))⟩,
        ⟨some 48, none, .op (.mv (.t 47))⟩,
        ⟨some 49, some (48, true), .op (.fieldAddr 9 (.t 1))⟩,
        ⟨some 50, some (48, true), .op (.load false 1 (.t 49))⟩,
        ⟨some 51, some (48, true), .op (.lenL (.t 50))⟩,
        ⟨some 52, some (48, true), .op (.bin .eql (.t 51) (.c (.int .i64 0)))⟩,
        ⟨some 53, none, .op (.pick (.t 48) (.t 52) (.c (.bool false)))⟩,
        ⟨some 3, none, .op (.mv (.t 53))⟩])
      (.seq (.ops [⟨some 55, none, .op (.bin .eql (.t 15) (.c (.int .i64 3)))⟩,
        ⟨some 54, none, .op (.mv (.t 55))⟩])
      (.cond (.t 54)
        (.ops [⟨some 56, none, .op (.load true 10 (.t 1))⟩,
          ⟨some 57, none, .op (.callF 52 [(.t 56)])⟩,
          ⟨some 58, none, .op (.mv (.t 57))⟩,
          ⟨some 59, some (58, true), .op (.fieldAddr 7 (.t 1))⟩,
          ⟨some 60, some (58, true), .op (.load false 1 (.t 59))⟩,
          ⟨some 61, some (58, true), .op (.callF 53 [(.t 60)])⟩,
          ⟨some 62, none, .op (.pick (.t 58) (.t 61) (.c (.bool false)))⟩,
          ⟨some 63, none, .op (.mv (.t 62))⟩,
          ⟨some 64, some (63, true), .op (.fieldAddr 8 (.t 1))⟩,
          ⟨some 65, some (63, true), .op (.load false 1 (.t 64))⟩,
          ⟨some 66, some (63, true), .op (.lenS (.t 65))⟩,
          ⟨some 67, some (63, true), .op (.callF 38 [(.t 66), (.c (.int .i64 1)), (.c (.int .i64 490))])⟩,
          ⟨some 68, none, .op (.pick (.t 63) (.t 67) (.c (.bool false)))⟩,
          ⟨some 69, none, .op (.mv (.t 68))⟩,
          ⟨some 70, some (69, true), .op (.fieldAddr 9 (.t 1))⟩,
          ⟨some 71, some (69, true), .op (.load false 1 (.t 70))⟩,
          ⟨some 72, some (69, true), .op (.lenL (.t 71))⟩,
          ⟨some 73, some (69, true), .op (.bin .eql (.t 72) (.c (.int .i64 0)))⟩,
          ⟨some 74, none, .op (.pick (.t 69) (.t 73) (.c (.bool false)))⟩,
          ⟨some 3, none, .op (.mv (.t 74))⟩])
        (.seq (.ops [⟨some 76, none, .op (.bin .eql (.t 15) (.c (.int .i64 4)))⟩,
          ⟨some 75, none, .op (.mv (.t 76))⟩])
        (.cond (.t 75)
          (.ops [⟨some 77, none, .op (.load true 10 (.t 1))⟩,
            ⟨some 78, none, .op (.callF 52 [(.t 77)])⟩,
            ⟨some 79, none, .op (.mv (.t 78))⟩,
            ⟨some 80, some (79, true), .op (.fieldAddr 7 (.t 1))⟩,
            ⟨some 81, some (79, true), .op (.load false 1 (.t 80))⟩,
            ⟨some 82, some (79, true), .op (.callF 53 [(.t 81)])⟩,
            ⟨some 83, none, .op (.pick (.t 79) (.t 82) (.c (.bool false)))⟩,
            ⟨some 84, none, .op (.mv (.t 83))⟩,
            ⟨some 85, some (84, true), .op (.fieldAddr 8 (.t 1))⟩,
            ⟨some 86, some (84, true), .op (.load false 1 (.t 85))⟩,
            ⟨some 87, some (84, true), .op (.bin .eql (.t 86) (.c (.str [])))⟩,
            ⟨some 88, none, .op (.pick (.t 84) (.t 87) (.c (.bool false)))⟩,
            ⟨some 89, none, .op (.mv (.t 88))⟩,
            ⟨some 90, some (89, true), .op (.fieldAddr 9 (.t 1))⟩,
            ⟨some 91, some (89, true), .op (.load false 1 (.t 90))⟩,
            ⟨some 92, some (89, true), .op (.callF 54 [(.t 91)])⟩,
            ⟨some 93, none, .op (.pick (.t 89) (.t 92) (.c (.bool false)))⟩,
            ⟨some 94, none, .op (.mv (.t 93))⟩,
            ⟨some 95, some (94, true), .op (.fieldAddr 9 (.t 1))⟩,
            ⟨some 96, some (94, true), .op (.load false 1 (.t 95))⟩,
            ⟨some 97, some (94, true), .op (.callF 55 [(.t 96)])⟩,
            ⟨some 98, some (94, true), .op (.bin .leq (.t 97) (.c (.int .i64 496)))⟩,
            ⟨some 99, none, .op (.pick (.t 94) (.t 98) (.c (.bool false)))⟩,
            ⟨some 3, none, .op (.mv (.t 99))⟩])
          .skip))))))))
  (.seq (.seq (.ops [⟨some 100, none, .op (.mv (.t 3))⟩,
    ⟨some 101, none, .op (.un .not (.t 100))⟩])
  (.cond (.t 101)
    (.seq (.ops [⟨some 2, none, .op (.mv (.c (.int .i64 2)))⟩])
    .ret)
    .skip))
  (.seq (.ops [⟨some 2, none, .op (.mv (.c (.int .i64 0)))⟩])
  .ret))))))
theorem F24 : FI 24 1 102 7 [.tmp 2] c24 := ⟨⟨Try.f24, Try.func24, by kernel_rfl, by kernel_rfl, by kernel_rfl⟩, by kernel_rfl, by decide, by kernel_rfl⟩
/- f28 understory/page.bodyOf: 31 temporaries, depth 6, 1 parameters, results [t2] -/
def c28 : RC :=
  (.seq (.ops [⟨some 1, none, .op (.box 25 (.t 0))⟩,
    ⟨some 2, none, .op (.mv (.c .nili))⟩])
  (.seq (.seq (.ops [⟨some 3, none, .op (.fieldAddr 0 (.t 1))⟩,
    ⟨some 4, none, .op (.load false 1 (.t 3))⟩])
  (.block 0
    (.seq (.ops [⟨some 6, none, .op (.bin .eql (.t 4) (.c (.int .i64 3)))⟩,
      ⟨some 5, none, .op (.mv (.t 6))⟩])
    (.cond (.t 5)
      (.seq (.ops [⟨some 7, none, .op (.fieldAddr 7 (.t 1))⟩,
        ⟨some 8, none, .op (.load false 1 (.t 7))⟩,
        ⟨some 9, none, .op (.fieldAddr 8 (.t 1))⟩,
        ⟨some 10, none, .op (.load false 1 (.t 9))⟩,
        ⟨some 11, none, .op (.build [(.int .i64 0), (.str [])] [(0, 1, (.t 8)), (1, 1, (.t 10))])⟩,
        ⟨some 12, none, .op (.mkIfc 111 (.t 11))⟩,
        ⟨some 2, none, .op (.mv (.t 12))⟩])
      .ret)
      (.seq (.ops [⟨some 14, none, .op (.bin .eql (.t 4) (.c (.int .i64 4)))⟩,
        ⟨some 13, none, .op (.mv (.t 14))⟩])
      (.cond (.t 13)
        (.seq (.ops [⟨some 15, none, .op (.fieldAddr 7 (.t 1))⟩,
          ⟨some 16, none, .op (.load false 1 (.t 15))⟩,
          ⟨some 17, none, .op (.fieldAddr 9 (.t 1))⟩,
          ⟨some 18, none, .op (.load false 1 (.t 17))⟩,
          ⟨some 19, none, .op (.build [(.int .i64 0), (.lst 0 [] true)] [(0, 1, (.t 16)), (1, 1, (.t 18))])⟩,
          ⟨some 20, none, .op (.mkIfc 113 (.t 19))⟩,
          ⟨some 2, none, .op (.mv (.t 20))⟩])
        .ret)
        .skip))))))
  (.seq (.ops [⟨some 21, none, .op (.fieldAddr 3 (.t 1))⟩,
    ⟨some 22, none, .op (.load false 1 (.t 21))⟩,
    ⟨some 23, none, .op (.fieldAddr 4 (.t 1))⟩,
    ⟨some 24, none, .op (.load false 1 (.t 23))⟩,
    ⟨some 25, none, .op (.fieldAddr 5 (.t 1))⟩,
    ⟨some 26, none, .op (.load false 1 (.t 25))⟩,
    ⟨some 27, none, .op (.fieldAddr 6 (.t 1))⟩,
    ⟨some 28, none, .op (.load false 1 (.t 27))⟩,
    ⟨some 29, none, .op (.build [(.int .i64 0), (.int .i64 0), (.bool false), (.lst 0 [] true)] [(0, 1, (.t 22)), (1, 1, (.t 24)), (2, 1, (.t 26)), (3, 1, (.t 28))])⟩,
    ⟨some 30, none, .op (.mkIfc 115 (.t 29))⟩,
    ⟨some 2, none, .op (.mv (.t 30))⟩])
  .ret)))
theorem F28 : FI 28 1 31 6 [.tmp 2] c28 := ⟨⟨Try.f28, Try.func28, by kernel_rfl, by kernel_rfl, by kernel_rfl⟩, by kernel_rfl, by decide, by kernel_rfl⟩
/- f32 understory/page.ended: 21 temporaries, depth 5, 1 parameters, results [t2] -/
def c32 : RC :=
  (.seq (.ops [⟨some 2, none, .op (.mv (.c (.str [])))⟩])
  (.seq (.ops [⟨some 4, none, .op (.mv (.t 0))⟩,
    ⟨some 5, none, .op (.callF 60 [(.t 4)])⟩,
    ⟨some 3, none, .op (.mv (.t 5))⟩])
  (.seq (.ops [⟨some 6, none, .op (.mv (.t 0))⟩,
    ⟨some 7, none, .op (.mv (.t 3))⟩,
    ⟨some 8, none, .op (.toInt .u8 (.t 7))⟩,
    ⟨some 9, none, .op (.mv (.t 3))⟩,
    ⟨some 10, none, .op (.bin .shr (.t 9) (.c (.int .u64 8)))⟩,
    ⟨some 11, none, .op (.toInt .u8 (.t 10))⟩,
    ⟨some 12, none, .op (.mv (.t 3))⟩,
    ⟨some 13, none, .op (.bin .shr (.t 12) (.c (.int .u64 16)))⟩,
    ⟨some 14, none, .op (.toInt .u8 (.t 13))⟩,
    ⟨some 15, none, .op (.mv (.t 3))⟩,
    ⟨some 16, none, .op (.bin .shr (.t 15) (.c (.int .u64 24)))⟩,
    ⟨some 17, none, .op (.toInt .u8 (.t 16))⟩,
    ⟨some 18, none, .op (.mkLst 1 false 4 [(.int .u8 0)] [(0, 1, (.t 8)), (1, 1, (.t 11)), (2, 1, (.t 14)), (3, 1, (.t 17))])⟩,
    ⟨some 19, none, .op (.bytesStr (.t 18))⟩,
    ⟨some 20, none, .op (.bin .add (.t 6) (.t 19))⟩,
    ⟨some 2, none, .op (.mv (.t 20))⟩])
  .ret)))
theorem F32 : FI 32 1 21 5 [.tmp 2] c32 := ⟨⟨Try.f32, Try.func32, by kernel_rfl, by kernel_rfl, by kernel_rfl⟩, by kernel_rfl, by decide, by kernel_rfl⟩
/- f36 understory/page.blockOf: 8 temporaries, depth 4, 1 parameters, results [*t2] -/
def c36 : RC :=
  (.seq (.ops [⟨some 2, none, .op (.alloc 87 [(.int .u8 0), (.int .u8 0), (.int .u8 0), (.int .u8 0), (.int .u8 0), (.int .u8 0), (.int .u8 0), (.int .u8 0), (.int .u8 0), (.int .u8 0), (.int .u8 0), (.int .u8 0), (.int .u8 0), (.int .u8 0), (.int .u8 0), (.int .u8 0), (.int .u8 0), (.int .u8 0), (.int .u8 0), (.int .u8 0), (.int .u8 0), (.int .u8 0), (.int .u8 0), (.int .u8 0), (.int .u8 0), (.int .u8 0), (.int .u8 0), (.int .u8 0), (.int .u8 0), (.int .u8 0), (.int .u8 0), (.int .u8 0), (.int .u8 0), (.int .u8 0), (.int .u8 0), (.int .u8 0), (.int .u8 0), (.int .u8 0), (.int .u8 0), (.int .u8 0), (.int .u8 0), (.int .u8 0), (.int .u8 0), (.int .u8 0), (.int .u8 0), (.int .u8 0), (.int .u8 0), (.int .u8 0), (.int .u8 0), (.int .u8 0), (.int .u8 0), (.int .u8 0), (.int .u8 0), (.int .u8 0), (.int .u8 0), (.int .u8 0), (.int .u8 0), (.int .u8 0), (.int .u8 0), (.int .u8 0), (.int .u8 0), (.int .u8 0), (.int .u8 0), (.int .u8 0), (.int .u8 0), (.int .u8 0), (.int .u8 0), (.int .u8 0), (.int .u8 0), (.int .u8 0), (.int .u8 0), (.int .u8 0), (.int .u8 0), (.int .u8 0), (.int .u8 0), (.int .u8 0), (.int .u8 0), (.int .u8 0), (.int .u8 0), (.int .u8 0), (.int .u8 0), (.int .u8 0), (.int .u8 0), (.int .u8 0), (.int .u8 0), (.int .u8 0), (.int .u8 0), (.int .u8 0), (.int .u8 0), (.int .u8 0), (.int .u8 0), (.int .u8 0), (.int .u8 0), (.int .u8 0), (.int .u8 0), (.int .u8 0), (.int .u8 0), (.int .u8 0), (.int .u8 0), (.int .u8 0), (.int .u8 0), (.int .u8 0), (.int .u8 0), (.int .u8 0), (.int .u8 0), (.int .u8 0), (.int .u8 0), (.int .u8 0), (.int .u8 0), (.int .u8 0), (.int .u8 0), (.int .u8 0), (.int .u8 0), (.int .u8 0), (.int .u8 0), (.int .u8 0), (.int .u8 0), (.int .u8 0), (.int .u8 0), (.int .u8 0), (.int .u8 0), (.int .u8 0), (.int .u8 0), (.int .u8 0), (.int .u8 0), (.int .u8 0), (.int .u8 0), (.int .u8 0), (.int .u8 0), (.int .u8 0), (.int .u8 0), (.int .u8 0), (.int .u8 0), (.int .u8 0), (.int .u8 0), (.int .u8 0), (.int .u8 0), (.int .u8 0), (.int .u8 0), (.int .u8 0), (.int .u8 0), (.int .u8 0), (.int .u8 0), (.int .u8 0), (.int .u8 0), (.int .u8 0), (.int .u8 0), (.int .u8 0), (.int .u8 0), (.int .u8 0), (.int .u8 0), (.int .u8 0), (.int .u8 0), (.int .u8 0), (.int .u8 0), (.int .u8 0), (.int .u8 0), (.int .u8 0), (.int .u8 0), (.int .u8 0), (.int .u8 0), (.int .u8 0), (.int .u8 0), (.int .u8 0), (.int .u8 0), (.int .u8 0), (.int .u8 0), (.int .u8 0), (.int .u8 0), (.int .u8 0), (.int .u8 0), (.int .u8 0), (.int .u8 0), (.int .u8 0), (.int .u8 0), (.int .u8 0), (.int .u8 0), (.int .u8 0), (.int .u8 0), (.int .u8 0), (.int .u8 0), (.int .u8 0), (.int .u8 0), (.int .u8 0), (.int .u8 0), (.int .u8 0), (.int .u8 0), (.int .u8 0), (.int .u8 0), (.int .u8 0), (.int .u8 0), (.int .u8 0), (.int .u8 0), (.int .u8 0), (.int .u8 0), (.int .u8 0), (.int .u8 0), (.int .u8 0), (.int .u8 0), (.int .u8 0), (.int .u8 0), (.int .u8 0), (.int .u8 0), (.int .u8 0), (.int .u8 0), (.int .u8 0), (.int .u8 0), (.int .u8 0), (.int .u8 0), (.int .u8 0), (.int .u8 0), (.int .u8 0), (.int .u8 0), (.int .u8 0), (.int .u8 0), (.int .u8 0), (.int .u8 0), (.int .u8 0), (.int .u8 0), (.int .u8 0), (.int .u8 0), (.int .u8 0), (.int .u8 0), (.int .u8 0), (.int .u8 0), (.int .u8 0), (.int .u8 0), (.int .u8 0), (.int .u8 0), (.int .u8 0), (.int .u8 0), (.int .u8 0), (.int .u8 0), (.int .u8 0), (.int .u8 0), (.int .u8 0), (.int .u8 0), (.int .u8 0), (.int .u8 0), (.int .u8 0), (.int .u8 0), (.int .u8 0), (.int .u8 0), (.int .u8 0), (.int .u8 0), (.int .u8 0), (.int .u8 0), (.int .u8 0), (.int .u8 0), (.int .u8 0), (.int .u8 0), (.int .u8 0), (.int .u8 0), (.int .u8 0), (.int .u8 0), (.int .u8 0), (.int .u8 0), (.int .u8 0), (.int .u8 0), (.int .u8 0), (.int .u8 0), (.int .u8 0), (.int .u8 0), (.int .u8 0), (.int .u8 0), (.int .u8 0), (.int .u8 0), (.int .u8 0), (.int .u8 0), (.int .u8 0), (.int .u8 0), (.int .u8 0), (.int .u8 0), (.int .u8 0), (.int .u8 0), (.int .u8 0), (.int .u8 0), (.int .u8 0), (.int .u8 0), (.int .u8 0), (.int .u8 0), (.int .u8 0), (.int .u8 0), (.int .u8 0), (.int .u8 0), (.int .u8 0), (.int .u8 0), (.int .u8 0), (.int .u8 0), (.int .u8 0), (.int .u8 0), (.int .u8 0), (.int .u8 0), (.int .u8 0), (.int .u8 0), (.int .u8 0), (.int .u8 0), (.int .u8 0), (.int .u8 0), (.int .u8 0), (.int .u8 0), (.int .u8 0), (.int .u8 0), (.int .u8 0), (.int .u8 0), (.int .u8 0), (.int .u8 0), (.int .u8 0), (.int .u8 0), (.int .u8 0), (.int .u8 0), (.int .u8 0), (.int .u8 0), (.int .u8 0), (.int .u8 0), (.int .u8 0), (.int .u8 0), (.int .u8 0), (.int .u8 0), (.int .u8 0), (.int .u8 0), (.int .u8 0), (.int .u8 0), (.int .u8 0), (.int .u8 0), (.int .u8 0), (.int .u8 0), (.int .u8 0), (.int .u8 0), (.int .u8 0), (.int .u8 0), (.int .u8 0), (.int .u8 0), (.int .u8 0), (.int .u8 0), (.int .u8 0), (.int .u8 0), (.int .u8 0), (.int .u8 0), (.int .u8 0), (.int .u8 0), (.int .u8 0), (.int .u8 0), (.int .u8 0), (.int .u8 0), (.int .u8 0), (.int .u8 0), (.int .u8 0), (.int .u8 0), (.int .u8 0), (.int .u8 0), (.int .u8 0), (.int .u8 0), (.int .u8 0), (.int .u8 0), (.int .u8 0), (.int .u8 0), (.int .u8 0), (.int .u8 0), (.int .u8 0), (.int .u8 0), (.int .u8 0), (.int .u8 0), (.int .u8 0), (.int .u8 0), (.int .u8 0), (.int .u8 0), (.int .u8 0), (.int .u8 0), (.int .u8 0), (.int .u8 0), (.int .u8 0), (.int .u8 0), (.int .u8 0), (.int .u8 0), (.int .u8 0), (.int .u8 0), (.int .u8 0), (.int .u8 0), (.int .u8 0), (.int .u8 0), (.int .u8 0), (.int .u8 0), (.int .u8 0), (.int .u8 0), (.int .u8 0), (.int .u8 0), (.int .u8 0), (.int .u8 0), (.int .u8 0), (.int .u8 0), (.int .u8 0), (.int .u8 0), (.int .u8 0), (.int .u8 0), (.int .u8 0), (.int .u8 0), (.int .u8 0), (.int .u8 0), (.int .u8 0), (.int .u8 0), (.int .u8 0), (.int .u8 0), (.int .u8 0), (.int .u8 0), (.int .u8 0), (.int .u8 0), (.int .u8 0), (.int .u8 0), (.int .u8 0), (.int .u8 0), (.int .u8 0), (.int .u8 0), (.int .u8 0), (.int .u8 0), (.int .u8 0), (.int .u8 0), (.int .u8 0), (.int .u8 0), (.int .u8 0), (.int .u8 0), (.int .u8 0), (.int .u8 0), (.int .u8 0), (.int .u8 0), (.int .u8 0), (.int .u8 0), (.int .u8 0), (.int .u8 0), (.int .u8 0), (.int .u8 0), (.int .u8 0), (.int .u8 0), (.int .u8 0), (.int .u8 0), (.int .u8 0), (.int .u8 0), (.int .u8 0), (.int .u8 0), (.int .u8 0), (.int .u8 0), (.int .u8 0), (.int .u8 0), (.int .u8 0), (.int .u8 0), (.int .u8 0), (.int .u8 0), (.int .u8 0), (.int .u8 0), (.int .u8 0), (.int .u8 0), (.int .u8 0), (.int .u8 0), (.int .u8 0), (.int .u8 0), (.int .u8 0), (.int .u8 0), (.int .u8 0), (.int .u8 0), (.int .u8 0), (.int .u8 0), (.int .u8 0), (.int .u8 0), (.int .u8 0), (.int .u8 0), (.int .u8 0), (.int .u8 0), (.int .u8 0), (.int .u8 0), (.int .u8 0), (.int .u8 0), (.int .u8 0), (.int .u8 0), (.int .u8 0), (.int .u8 0), (.int .u8 0), (.int .u8 0), (.int .u8 0), (.int .u8 0), (.int .u8 0), (.int .u8 0), (.int .u8 0), (.int .u8 0), (.int .u8 0), (.int .u8 0), (.int .u8 0), (.int .u8 0), (.int .u8 0), (.int .u8 0), (.int .u8 0), (.int .u8 0), (.int .u8 0), (.int .u8 0), (.int .u8 0), (.int .u8 0), (.int .u8 0), (.int .u8 0), (.int .u8 0), (.int .u8 0), (.int .u8 0), (.int .u8 0), (.int .u8 0), (.int .u8 0), (.int .u8 0), (.int .u8 0), (.int .u8 0), (.int .u8 0), (.int .u8 0), (.int .u8 0), (.int .u8 0), (.int .u8 0), (.int .u8 0)])⟩])
  (.seq (.ops [⟨some 3, none, .op (.alloc 87 [(.int .u8 0), (.int .u8 0), (.int .u8 0), (.int .u8 0), (.int .u8 0), (.int .u8 0), (.int .u8 0), (.int .u8 0), (.int .u8 0), (.int .u8 0), (.int .u8 0), (.int .u8 0), (.int .u8 0), (.int .u8 0), (.int .u8 0), (.int .u8 0), (.int .u8 0), (.int .u8 0), (.int .u8 0), (.int .u8 0), (.int .u8 0), (.int .u8 0), (.int .u8 0), (.int .u8 0), (.int .u8 0), (.int .u8 0), (.int .u8 0), (.int .u8 0), (.int .u8 0), (.int .u8 0), (.int .u8 0), (.int .u8 0), (.int .u8 0), (.int .u8 0), (.int .u8 0), (.int .u8 0), (.int .u8 0), (.int .u8 0), (.int .u8 0), (.int .u8 0), (.int .u8 0), (.int .u8 0), (.int .u8 0), (.int .u8 0), (.int .u8 0), (.int .u8 0), (.int .u8 0), (.int .u8 0), (.int .u8 0), (.int .u8 0), (.int .u8 0), (.int .u8 0), (.int .u8 0), (.int .u8 0), (.int .u8 0), (.int .u8 0), (.int .u8 0), (.int .u8 0), (.int .u8 0), (.int .u8 0), (.int .u8 0), (.int .u8 0), (.int .u8 0), (.int .u8 0), (.int .u8 0), (.int .u8 0), (.int .u8 0), (.int .u8 0), (.int .u8 0), (.int .u8 0), (.int .u8 0), (.int .u8 0), (.int .u8 0), (.int .u8 0), (.int .u8 0), (.int .u8 0), (.int .u8 0), (.int .u8 0), (.int .u8 0), (.int .u8 0), (.int .u8 0), (.int .u8 0), (.int .u8 0), (.int .u8 0), (.int .u8 0), (.int .u8 0), (.int .u8 0), (.int .u8 0), (.int .u8 0), (.int .u8 0), (.int .u8 0), (.int .u8 0), (.int .u8 0), (.int .u8 0), (.int .u8 0), (.int .u8 0), (.int .u8 0), (.int .u8 0), (.int .u8 0), (.int .u8 0), (.int .u8 0), (.int .u8 0), (.int .u8 0), (.int .u8 0), (.int .u8 0), (.int .u8 0), (.int .u8 0), (.int .u8 0), (.int .u8 0), (.int .u8 0), (.int .u8 0), (.int .u8 0), (.int .u8 0), (.int .u8 0), (.int .u8 0), (.int .u8 0), (.int .u8 0), (.int .u8 0), (.int .u8 0), (.int .u8 0), (.int .u8 0), (.int .u8 0), (.int .u8 0), (.int .u8 0), (.int .u8 0), (.int .u8 0), (.int .u8 0), (.int .u8 0), (.int .u8 0), (.int .u8 0), (.int .u8 0), (.int .u8 0), (.int .u8 0), (.int .u8 0), (.int .u8 0), (.int .u8 0), (.int .u8 0), (.int .u8 0), (.int .u8 0), (.int .u8 0), (.int .u8 0), (.int .u8 0), (.int .u8 0), (.int .u8 0), (.int .u8 0), (.int .u8 0), (.int .u8 0), (.int .u8 0), (.int .u8 0), (.int .u8 0), (.int .u8 0), (.int .u8 0), (.int .u8 0), (.int .u8 0), (.int .u8 0), (.int .u8 0), (.int .u8 0), (.int .u8 0), (.int .u8 0), (.int .u8 0), (.int .u8 0), (.int .u8 0), (.int .u8 0), (.int .u8 0), (.int .u8 0), (.int .u8 0), (.int .u8 0), (.int .u8 0), (.int .u8 0), (.int .u8 0), (.int .u8 0), (.int .u8 0), (.int .u8 0), (.int .u8 0), (.int .u8 0), (.int .u8 0), (.int .u8 0), (.int .u8 0), (.int .u8 0), (.int .u8 0), (.int .u8 0), (.int .u8 0), (.int .u8 0), (.int .u8 0), (.int .u8 0), (.int .u8 0), (.int .u8 0), (.int .u8 0), (.int .u8 0), (.int .u8 0), (.int .u8 0), (.int .u8 0), (.int .u8 0), (.int .u8 0), (.int .u8 0), (.int .u8 0), (.int .u8 0), (.int .u8 0), (.int .u8 0), (.int .u8 0), (.int .u8 0), (.int .u8 0), (.int .u8 0), (.int .u8 0), (.int .u8 0), (.int .u8 0), (.int .u8 0), (.int .u8 0), (.int .u8 0), (.int .u8 0), (.int .u8 0), (.int .u8 0), (.int .u8 0), (.int .u8 0), (.int .u8 0), (.int .u8 0), (.int .u8 0), (.int .u8 0), (.int .u8 0), (.int .u8 0), (.int .u8 0), (.int .u8 0), (.int .u8 0), (.int .u8 0), (.int .u8 0), (.int .u8 0), (.int .u8 0), (.int .u8 0), (.int .u8 0), (.int .u8 0), (.int .u8 0), (.int .u8 0), (.int .u8 0), (.int .u8 0), (.int .u8 0), (.int .u8 0), (.int .u8 0), (.int .u8 0), (.int .u8 0), (.int .u8 0), (.int .u8 0), (.int .u8 0), (.int .u8 0), (.int .u8 0), (.int .u8 0), (.int .u8 0), (.int .u8 0), (.int .u8 0), (.int .u8 0), (.int .u8 0), (.int .u8 0), (.int .u8 0), (.int .u8 0), (.int .u8 0), (.int .u8 0), (.int .u8 0), (.int .u8 0), (.int .u8 0), (.int .u8 0), (.int .u8 0), (.int .u8 0), (.int .u8 0), (.int .u8 0), (.int .u8 0), (.int .u8 0), (.int .u8 0), (.int .u8 0), (.int .u8 0), (.int .u8 0), (.int .u8 0), (.int .u8 0), (.int .u8 0), (.int .u8 0), (.int .u8 0), (.int .u8 0), (.int .u8 0), (.int .u8 0), (.int .u8 0), (.int .u8 0), (.int .u8 0), (.int .u8 0), (.int .u8 0), (.int .u8 0), (.int .u8 0), (.int .u8 0), (.int .u8 0), (.int .u8 0), (.int .u8 0), (.int .u8 0), (.int .u8 0), (.int .u8 0), (.int .u8 0), (.int .u8 0), (.int .u8 0), (.int .u8 0), (.int .u8 0), (.int .u8 0), (.int .u8 0), (.int .u8 0), (.int .u8 0), (.int .u8 0), (.int .u8 0), (.int .u8 0), (.int .u8 0), (.int .u8 0), (.int .u8 0), (.int .u8 0), (.int .u8 0), (.int .u8 0), (.int .u8 0), (.int .u8 0), (.int .u8 0), (.int .u8 0), (.int .u8 0), (.int .u8 0), (.int .u8 0), (.int .u8 0), (.int .u8 0), (.int .u8 0), (.int .u8 0), (.int .u8 0), (.int .u8 0), (.int .u8 0), (.int .u8 0), (.int .u8 0), (.int .u8 0), (.int .u8 0), (.int .u8 0), (.int .u8 0), (.int .u8 0), (.int .u8 0), (.int .u8 0), (.int .u8 0), (.int .u8 0), (.int .u8 0), (.int .u8 0), (.int .u8 0), (.int .u8 0), (.int .u8 0), (.int .u8 0), (.int .u8 0), (.int .u8 0), (.int .u8 0), (.int .u8 0), (.int .u8 0), (.int .u8 0), (.int .u8 0), (.int .u8 0), (.int .u8 0), (.int .u8 0), (.int .u8 0), (.int .u8 0), (.int .u8 0), (.int .u8 0), (.int .u8 0), (.int .u8 0), (.int .u8 0), (.int .u8 0), (.int .u8 0), (.int .u8 0), (.int .u8 0), (.int .u8 0), (.int .u8 0), (.int .u8 0), (.int .u8 0), (.int .u8 0), (.int .u8 0), (.int .u8 0), (.int .u8 0), (.int .u8 0), (.int .u8 0), (.int .u8 0), (.int .u8 0), (.int .u8 0), (.int .u8 0), (.int .u8 0), (.int .u8 0), (.int .u8 0), (.int .u8 0), (.int .u8 0), (.int .u8 0), (.int .u8 0), (.int .u8 0), (.int .u8 0), (.int .u8 0), (.int .u8 0), (.int .u8 0), (.int .u8 0), (.int .u8 0), (.int .u8 0), (.int .u8 0), (.int .u8 0), (.int .u8 0), (.int .u8 0), (.int .u8 0), (.int .u8 0), (.int .u8 0), (.int .u8 0), (.int .u8 0), (.int .u8 0), (.int .u8 0), (.int .u8 0), (.int .u8 0), (.int .u8 0), (.int .u8 0), (.int .u8 0), (.int .u8 0), (.int .u8 0), (.int .u8 0), (.int .u8 0), (.int .u8 0), (.int .u8 0), (.int .u8 0), (.int .u8 0), (.int .u8 0), (.int .u8 0), (.int .u8 0), (.int .u8 0), (.int .u8 0), (.int .u8 0), (.int .u8 0), (.int .u8 0), (.int .u8 0), (.int .u8 0), (.int .u8 0), (.int .u8 0), (.int .u8 0), (.int .u8 0), (.int .u8 0), (.int .u8 0), (.int .u8 0), (.int .u8 0), (.int .u8 0), (.int .u8 0), (.int .u8 0), (.int .u8 0), (.int .u8 0), (.int .u8 0), (.int .u8 0), (.int .u8 0), (.int .u8 0), (.int .u8 0), (.int .u8 0), (.int .u8 0), (.int .u8 0), (.int .u8 0), (.int .u8 0), (.int .u8 0), (.int .u8 0), (.int .u8 0), (.int .u8 0), (.int .u8 0), (.int .u8 0), (.int .u8 0), (.int .u8 0), (.int .u8 0), (.int .u8 0), (.int .u8 0), (.int .u8 0), (.int .u8 0), (.int .u8 0), (.int .u8 0), (.int .u8 0), (.int .u8 0), (.int .u8 0), (.int .u8 0), (.int .u8 0), (.int .u8 0), (.int .u8 0), (.int .u8 0), (.int .u8 0), (.int .u8 0), (.int .u8 0), (.int .u8 0), (.int .u8 0), (.int .u8 0), (.int .u8 0), (.int .u8 0), (.int .u8 0), (.int .u8 0), (.int .u8 0), (.int .u8 0), (.int .u8 0), (.int .u8 0), (.int .u8 0), (.int .u8 0), (.int .u8 0), (.int .u8 0), (.int .u8 0), (.int .u8 0), (.int .u8 0), (.int .u8 0), (.int .u8 0), (.int .u8 0), (.int .u8 0), (.int .u8 0), (.int .u8 0), (.int .u8 0), (.int .u8 0), (.int .u8 0), (.int .u8 0), (.int .u8 0), (.int .u8 0), (.int .u8 0), (.int .u8 0), (.int .u8 0), (.int .u8 0), (.int .u8 0), (.int .u8 0), (.int .u8 0), (.int .u8 0), (.int .u8 0)])⟩])
  (.seq (.ops [⟨some 4, none, .op (.sliceP 512 1 (.t 3) none none none)⟩,
    ⟨some 5, none, .op (.mv (.t 0))⟩,
    ⟨some 6, none, .op (.cpy 1 (.t 4) (.t 5))⟩])
  (.seq (.ops [⟨some 7, none, .op (.load true 512 (.t 3))⟩,
    ⟨none, none, .op (.store 512 (.t 2) (.t 7))⟩])
  .ret))))
theorem F36 : FI 36 1 8 4 [.cell 2 87] c36 := ⟨⟨Try.f36, Try.func36, by kernel_rfl, by kernel_rfl, by kernel_rfl⟩, by kernel_rfl, by decide, by kernel_rfl⟩
/- f9 understory/page.Encode: 45 temporaries, depth 6, 1 parameters, results [t2, t3] -/
def c9 : RC :=
  (.seq (.ops [⟨some 1, none, .op (.box 25 (.t 0))⟩,
    ⟨some 2, none, .op (.mv (.c (.str [])))⟩,
    ⟨some 3, none, .op (.mv (.c (.int .i64 0)))⟩])
  (.seq (.seq (.ops [⟨some 5, none, .op (.load true 10 (.t 1))⟩,
    ⟨some 6, none, .op (.callF 24 [(.t 5)])⟩,
    ⟨some 7, none, .op (.bin .neq (.t 6) (.c (.int .i64 0)))⟩])
  (.cond (.t 7)
    (.seq (.ops [⟨some 2, none, .op (.mv (.c (.str [])))⟩,
      ⟨some 3, none, .op (.mv (.c (.int .i64 2)))⟩])
    .ret)
    .skip))
  (.seq (.ops [⟨some 8, none, .op (.build [.nilp, (.lst 0 [] true)] [])⟩,
    ⟨some 9, none, .op (.box 68 (.t 8))⟩,
    ⟨some 4, none, .op (.mv (.t 9))⟩])
  (.seq (.ops [⟨some 10, none, .op (.mv (.t 4))⟩,
    ⟨some 11, none, .op (.nilCheck (.t 10))⟩,
    ⟨some 12, none, .op (.fieldAddr 0 (.t 11))⟩,
    ⟨some 13, none, .op (.callF 26 [(.t 12), (.c (.int .u8 85))])⟩])
  (.seq (.ops [⟨some 14, none, .op (.mv (.t 4))⟩,
    ⟨some 15, none, .op (.fieldAddr 0 (.t 1))⟩,
    ⟨some 16, none, .op (.load false 1 (.t 15))⟩,
    ⟨some 17, none, .op (.callF 27 [(.t 14), (.t 16), (.c (.int .i64 1))])⟩])
  (.seq (.ops [⟨some 18, none, .op (.mv (.t 4))⟩,
    ⟨some 19, none, .op (.fieldAddr 1 (.t 1))⟩,
    ⟨some 20, none, .op (.load false 1 (.t 19))⟩,
    ⟨some 21, none, .op (.callF 27 [(.t 18), (.t 20), (.c (.int .i64 4))])⟩])
  (.seq (.ops [⟨some 22, none, .op (.mv (.t 4))⟩,
    ⟨some 23, none, .op (.fieldAddr 2 (.t 1))⟩,
    ⟨some 24, none, .op (.load false 1 (.t 23))⟩,
    ⟨some 25, none, .op (.callF 27 [(.t 22), (.t 24), (.c (.int .i64 6))])⟩])
  (.seq (.ops [⟨some 26, none, .op (.load true 10 (.t 1))⟩,
    ⟨some 27, none, .op (.callF 28 [(.t 26)])⟩,
    ⟨some 28, none, .op (.mv (.t 4))⟩,
    ⟨some 29, none, .op (.inv (.t 27) "understory/page.write" [(.t 28)])⟩])
  (.cut (.seq (.draw [(⟨some 30, none, .op (.mv (.t 4))⟩, 0),
    (⟨some 31, none, .op (.nilCheck (.t 30))⟩, 0),
    (⟨some 32, none, .op (.fieldAddr 0 (.t 31))⟩, 0),
    (⟨some 33, none, .op (.mv (.t 4))⟩, 0),
    (⟨some 34, none, .op (.nilCheck (.t 33))⟩, 0),
    (⟨some 35, none, .op (.fieldAddr 0 (.t 34))⟩, 0),
    (⟨some 36, none, .op (.callF 31 [(.t 35)])⟩, 2),
    (⟨some 37, none, .op (.bin .sub (.c (.int .i64 508)) (.t 36))⟩, 0),
    (⟨some 38, none, .op (.callF 30 [(.c (.str [0])), (.t 37)])⟩, 0),
    (⟨some 39, none, .op (.callF 29 [(.t 32), (.t 38)])⟩, 2)])
  (.seq (.ops [⟨some 40, none, .op (.mv (.t 4))⟩,
    ⟨some 41, none, .op (.nilCheck (.t 40))⟩,
    ⟨some 42, none, .op (.fieldAddr 0 (.t 41))⟩,
    ⟨some 43, none, .op (.callF 33 [(.t 42)])⟩,
    ⟨some 44, none, .op (.callF 32 [(.t 43)])⟩,
    ⟨some 2, none, .op (.mv (.t 44))⟩,
    ⟨some 3, none, .op (.mv (.c (.int .i64 0)))⟩])
  .ret)))))))))))
theorem F9 : FI 9 1 45 6 [.tmp 2, .tmp 3] c9 := ⟨⟨Try.f9, Try.func9, by kernel_rfl, by kernel_rfl, by kernel_rfl⟩, by kernel_rfl, by decide, by kernel_rfl⟩
end Go.Proofs
/- Contracts of functions of a page: weights of lists. -/
set_option linter.unusedVariables false
set_option linter.unusedSimpArgs false
namespace Go.Proofs
open Go Go.Abs
section
variable {n : Nat} {h : AHeap}

theorem weight_eq (hn : 5 ≤ n) (l : List Entry) (hl : l.length < 1099511627776) (he : ∀ e ∈ l, e.Ok) (lv : Int) (sz : Nat) (hz : l ≠ [] → sz = 22) (c : Bool) : C n 13 [.lst sz (l.map Entry.av) c, i64 lv] h = some (.ret (weightR l lv), h) := by
  obtain ⟨m, rfl⟩ : ∃ m, n = m + 1 := ⟨n - 1, by omega⟩
  refine fun_pure F13 rfl rfl rfl (pure_lst entry_pure l rfl) ?_
  conv => whnf
  refine clI (within_eq (by omega) _ _ _) ?_
  conv => whnf
  refine br (fun a => ?_) (fun a => ?_)
  · conv => whnf
    refine retP rfl (Eq.trans (frz_ii rfl rfl) (congrArg some ?_))
    simp at a; simp [weightR, weight, a]
  · simp at a
    conv => whnf
    refine loopI (by decide) rfl (α := Nat × Int × AHeap) (fun x => ⟨[(1, i64 lv), (6, i64 x.2.1), (14, .lst sz (l.map Entry.av) c), (15, i64 l.length), (16, i64 x.1)], x.2.2, []⟩)
      (fun x => x.1 ≤ l.length ∧ wsum lv (l.take x.1) = some (x.2.1 - 6) ∧ x.2.1 ≤ 6 + 117 * x.1 ∧ 6 ≤ x.2.1) (fun x => l.length - x.1) (0, 6, []) ?_ ?_ ?_ ?_
    · exact ⟨⟨rfl, rfl, rfl, lenI _ _, rfl⟩, rfl, rfl⟩
    · simp [wsum]
    · show l.length - 0 < KK; simp only [KK]; omega
    · rintro ⟨j, s, hp⟩ ⟨g1, g2, g3, g4⟩
      conv => whnf
      refine br (fun b => ?_) (fun b => ?_)
      · have hj : j < l.length := by simp at b; omega
        conv => whnf
        refine ixL entry_cells hj hz ?_
        conv => whnf
        refine stI (get_last _ _) (by rfl) (by rfl) (by rfl) (by rfl) ?_
        conv => whnf
        refine ldI (get_set_last _ _ _) ?_
        conv => whnf
        refine clI (weigh_eq (by omega) l[j] (he _ (List.getElem_mem hj)) lv) ?_
        conv => whnf
        have hw := wsum_take hj g2
        refine br (fun d => ?_) (fun d => ?_)
        · conv => whnf
          refine retP rfl (Eq.trans (frz_ii rfl rfl) (congrArg some ?_))
          simp at d
          simp [d] at hw
          simp [weightR, weight, a, wsum_none hw]
        · simp at d
          have hb := weigh_bound d
          simp [d] at hw
          simp only at g3 g4
          refine zI (wrap_i64 (z := s + weighW l[j] lv) (by omega) (by omega)) ?_
          conv => whnf
          refine zI (z := ((j + 1 : Nat) : Int)) (by rw [wrap_i64 (by omega) (by omega)]; rfl) ?_
          exact ⟨(j + 1, s + weighW l[j] lv, _), ⟨hj, hw.trans (congrArg some (by simp only; omega)), by simp only; omega, by simp only; omega⟩, by simp only; omega, ⟨rfl, rfl, rfl, rfl, rfl⟩, rfl, rfl⟩
      · have hj : j = l.length := by simp at b; omega
        subst hj
        rw [List.take_length] at g2
        conv => whnf
        refine cutI (by decide) rfl (t := ⟨[(6, i64 s)], hp, []⟩) ⟨rfl, rfl, rfl⟩ ?_
        conv => whnf
        refine retP rfl (Eq.trans (frz_ii rfl rfl) (congrArg some ?_))
        simp [weightR, weight, a, g2]; omega
end
end Go.Proofs
/- Contracts of functions of a page: valid entries. -/
set_option linter.unusedVariables false
set_option linter.unusedSimpArgs false
namespace Go.Proofs
open Go Go.Abs
instance : Inhabited Entry := ⟨⟨[], [], 0, 0, 0, 0, Dg.zero⟩⟩

def keyAt (l : List Entry) (j : Nat) : Str := (l.getD j default).key
/-- An entry is valid, behind those in front of it. -/
def vAt (lv : Int) (l : List Entry) (j : Nat) : Bool :=
  (if lv = 0 then formOf (l.getD j default) != 0 else branches (l.getD j default) && (j == 0 || keyAt l j != [])) && (j == 0 || decide (cmpS (keyAt l (j - 1)) (keyAt l j) < 0))
def valid (l : List Entry) (lv : Int) : Bool :=
  within lv 0 20 && l != [] && (lv == 0 || (decide (2 ≤ l.length) && keyAt l 0 == [])) && (List.range l.length).all (vAt lv l)

theorem valid_bad {l : List Entry} {lv : Int} {j : Nat} (hj : j < l.length) (hb : vAt lv l j = false) : valid l lv = false := by
  have : (List.range l.length).all (vAt lv l) = false := by
    rw [List.all_eq_false]
    exact ⟨j, List.mem_range.2 hj, by simp [hb]⟩
  simp [valid, this]
theorem valid_good {l : List Entry} {lv : Int} (h1 : within lv 0 20 = true) (h2 : l ≠ []) (h3 : lv = 0 ∨ (2 ≤ l.length ∧ keyAt l 0 = [])) (h4 : ∀ i, i < l.length → vAt lv l i = true) : valid l lv = true := by
  have : (List.range l.length).all (vAt lv l) = true := by
    rw [List.all_eq_true]
    exact fun i hi => h4 i (List.mem_range.1 hi)
  simp [valid, this, h1, h2]
  exact h3

theorem getD_at {l : List Entry} {j : Nat} (hj : j < l.length) : l[j] = l.getD j default := by simp [hj]

theorem vAt_unf {lv : Int} {l : List Entry} {j : Nat} (hj : j < l.length) : vAt lv l j = ((if lv = 0 then formOf l[j] != 0 else branches l[j] && (decide (j = 0) || l[j].key != [])) && (decide (j = 0) || decide (cmpS l[j - 1].key l[j].key < 0))) := by
  have h1 : l.getD j default = l[j] := by simp [hj]
  have h2 : l.getD (j - 1) default = l[j - 1] := by simp [show j - 1 < l.length by omega]
  have h3 : (j == 0) = decide (j = 0) := by by_cases e : j = 0 <;> simp [e]
  unfold vAt keyAt
  rw [h1, h2, h3]

section
variable {n : Nat} {h : AHeap}
theorem valid_loop {m : Nat} (hn : 4 ≤ m) (l : List Entry) (hl : l.length < 1099511627776) (lv : Int) (sz : Nat) (hz : l ≠ [] → sz = 22) (c : Bool) (W : 0 ≤ lv) {Q : Ex → LS → Prop} {s : LS}
    (hs : LS.sub ⟨[(0, .lst sz (l.map Entry.av) c), (1, i64 lv), (31, .lst sz (l.map Entry.av) c), (32, i64 l.length), (33, i64 0)], [], []⟩ s)
    (hE : (∀ i, i < l.length → vAt lv l i = true) → ∀ L hp, Q (.exit 0) ⟨L, hp, []⟩) (hR : ∀ j, j < l.length → vAt lv l j = false → ∀ L hp, lk L 4 = some (.bool false) → Q .ret ⟨L, hp, []⟩) :
    OkR Try.prog (C m) cfg0.inl KK 78 7 (.loop (c15.lp 0)) s Q := by
  refine loopI (by decide) rfl (α := Nat × AHeap) (fun x => ⟨[(0, .lst sz (l.map Entry.av) c), (1, i64 lv), (31, .lst sz (l.map Entry.av) c), (32, i64 l.length), (33, i64 x.1)], x.2, []⟩)
    (fun x => x.1 ≤ l.length ∧ ∀ i, i < x.1 → vAt lv l i = true) (fun x => l.length - x.1) (0, []) hs ?_ ?_ ?_
  · exact ⟨Nat.zero_le _, fun i hi => absurd hi (Nat.not_lt_zero _)⟩
  · show l.length - 0 < KK; simp only [KK]; omega
  · rintro ⟨j, hp⟩ ⟨g1, g2⟩
    simp only at g1 g2
    conv => whnf
    refine brd (fun b => ?_) (fun b => ?_)
    · have hj : j < l.length := by simp only at b; omega
      have hg : l.getD j default = l[j] := by simp [hj]
      have ext : vAt lv l j = true → ∀ i, i < j + 1 → vAt lv l i = true := fun hv i hi => by
        by_cases e : i = j
        · rw [e]; exact hv
        · exact g2 i (by omega)
      conv => whnf
      refine ixL entry_cells hj hz ?_
      conv => whnf
      refine stI (get_last _ _) (by rfl) (by rfl) (by rfl) (by rfl) ?_
      repeat' (conv => whnf); first
        | (exfalso; omega)
        | refine brd (fun _ => ?_) (fun _ => ?_)
        | refine bre (fun _ => ?_) (fun _ => ?_)
        | refine brn (fun _ => ?_) (fun _ => ?_)
        | refine ldI (get_set_last _ _ _) ?_
        | refine ixL entry_cells (l := l) (j := j - 1) (by omega) hz ?_
        | refine clI (formOf_eq (by omega) l[j]) ?_
        | refine clI (branches_eq (by omega) l[j]) ?_
        | refine clI (compare_eq (by omega) _ _) ?_
        | refine zI (z := ((j - 1 : Nat) : Int)) (by rw [wrap_i64 (by omega) (by omega)]; omega) ?_
        | refine zI (z := ((j + 1 : Nat) : Int)) (by rw [wrap_i64 (by omega) (by omega)]; rfl) ?_
        | refine hR j hj ?_ _ _ rfl
        | refine nxI (j + 1, _) ⟨hj, ext ?_⟩ (by simp only; omega) ⟨⟨rfl, rfl, rfl, rfl, rfl⟩, rfl, rfl⟩
      all_goals rw [vAt_unf hj]
      all_goals try simp only at *
      all_goals by_cases hj0 : j = 0
      all_goals simp_all
      all_goals omega
    · have hj : j = l.length := by simp only at b; omega
      subst hj
      conv => whnf
      exact hE g2 _ _
theorem valid_eq (hn : 5 ≤ n) (l : List Entry) (hl : l.length < 1099511627776) (lv : Int) (sz : Nat) (hz : l ≠ [] → sz = 22) (c : Bool) : C n 15 [.lst sz (l.map Entry.av) c, i64 lv] h = some (.ret (.bool (valid l lv)), h) := by
  obtain ⟨m, rfl⟩ : ∃ m, n = m + 1 := ⟨n - 1, by omega⟩
  refine fun_pure F15 rfl rfl rfl (pure_lst entry_pure l rfl) ?_
  conv => whnf
  refine clI (within_eq (by omega) _ _ _) ?_
  conv => whnf
  refine brn (fun a => ?_) (fun a => ?_)
  · conv => whnf
    refine retP rfl (frz_bool ?_)
    simp [valid, a]
  conv => whnf
  refine bre (fun b => ?_) (fun b => ?_)
  · conv => whnf
    refine retP rfl (frz_bool ?_)
    simp at b
    simp [valid, b]
  have hne : l ≠ [] := by intro e; subst e; simp at b
  have hsz := hz hne
  subst hsz
  have h0 : 0 < l.length := by cases l with | nil => exact (hne rfl).elim | cons => simp
  have k0 : l[0].key = keyAt l 0 := by simp [keyAt, h0]
  have W := within_iff.1 a
  conv => whnf
  refine brd (fun d => ?_) (fun d => ?_)
  · conv => whnf
    refine brd (fun f => ?_) (fun f => ?_)
    · conv => whnf
      refine retP rfl (frz_bool ?_)
      simp at f
      have : ¬ 2 ≤ l.length := by omega
      have : lv ≠ 0 := by omega
      simp [valid, *]
    · conv => whnf
      refine ixL entry_cells (j := 0) h0 (fun _ => rfl) ?_
      conv => whnf
      refine brq (fun g => ?_) (fun g => ?_)
      · conv => whnf
        refine retP rfl (frz_bool ?_)
        rw [k0] at g
        have : lv ≠ 0 := by omega
        simp [valid, *]
      · conv => whnf
        rw [k0] at g
        simp at f
        refine valid_loop (by omega) l hl lv 22 (fun _ => rfl) c (by omega) ⟨⟨rfl, rfl, rfl, lenI _ _, rfl⟩, rfl, rfl⟩ (fun e L hp => ?_) (fun j hj e L hp hk => ?_)
        · refine cutI (by decide) rfl (t := ⟨[], hp, []⟩) ⟨trivial, rfl, rfl⟩ ?_
          conv => whnf
          exact retP rfl (frz_bool (valid_good a hne (.inr ⟨by omega, g⟩) e).symm)
        · exact retK hk (frz_bool (valid_bad hj e).symm)
  · conv => whnf
    refine valid_loop (by omega) l hl lv 22 (fun _ => rfl) c (by omega) ⟨⟨rfl, rfl, rfl, lenI _ _, rfl⟩, rfl, rfl⟩ (fun e L hp => ?_) (fun j hj e L hp hk => ?_)
    · refine cutI (by decide) rfl (t := ⟨[], hp, []⟩) ⟨trivial, rfl, rfl⟩ ?_
      conv => whnf
      exact retP rfl (frz_bool (valid_good a hne (.inl (by omega)) e).symm)
    · exact retK hk (frz_bool (valid_bad hj e).symm)
end
end Go.Proofs
/- Contracts: few entries, entries that fit, the capacity. -/
set_option linter.unusedVariables false
set_option linter.unusedSimpArgs false
namespace Go.Proofs
open Go Go.Abs
def tiny (e : Entry) : Bool := decide (e.key.length ≤ 300) && decide (e.val.length ≤ 300)
def few (l : List Entry) : Bool := decide (l.length ≤ 100) && l.all tiny
theorem few_bad {l : List Entry} {j : Nat} (hj : j < l.length) (hb : tiny l[j] = false) : few l = false := by
  have : l.all tiny = false := by
    rw [List.all_eq_false]
    exact ⟨l[j], List.getElem_mem hj, by simp [hb]⟩
  simp [few, this]
theorem few_iff {l : List Entry} : few l = true ↔ l.length ≤ 100 ∧ ∀ e ∈ l, e.key.length ≤ 300 ∧ e.val.length ≤ 300 := by
  simp [few, tiny]
section
variable {n : Nat} {h : AHeap}
theorem few_loop {m : Nat} (l : List Entry) (sz : Nat) (hz : l ≠ [] → sz = 22) (c : Bool) {Q : Ex → LS → Prop} {s : LS}
    (hs : LS.sub ⟨[(0, .lst sz (l.map Entry.av) c), (3, i64 0)], [], []⟩ s)
    (hE : few l = decide (l.length ≤ 100) → ∀ L, lk L 0 = some (.lst sz (l.map Entry.av) c) → Q (.exit 0) ⟨L, [], []⟩) (hR : few l = false → ∀ L, lk L 2 = some (.bool false) → Q .ret ⟨L, [], []⟩) :
    OkR Try.prog (C m) cfg0.inl KK 33 6 (.loop (c11.lp 0)) s Q := by
  refine loopI (by decide) rfl (α := Nat) (fun x => ⟨[(0, .lst sz (l.map Entry.av) c), (3, i64 x)], [], []⟩)
    (fun x => (x ≤ l.length ∧ x ≤ 101) ∧ ∀ i (hi : i < l.length), i < x → tiny l[i] = true) (fun x => 101 - x) 0 hs ?_ ?_ ?_
  · exact ⟨⟨Nat.zero_le _, by omega⟩, fun i _ hi => absurd hi (Nat.not_lt_zero _)⟩
  · show 101 - 0 < KK; simp only [KK]; omega
  · rintro j ⟨⟨g1, g0⟩, g2⟩
    have ext : ∀ (hj : j < l.length), tiny l[j] = true → ∀ i (hi : i < l.length), i < j + 1 → tiny l[i] = true := fun hj hv i hi hi2 => by
      by_cases e : i = j
      · subst e; exact hv
      · exact g2 i hi (by omega)
    conv => whnf
    refine brd (fun b => ?_) (fun b => ?_)
    · have hj : j < l.length := by simp at b; omega
      conv => whnf
      refine brd (fun d => ?_) (fun d => ?_)
      · repeat' (conv => whnf); first
          | (exfalso; omega)
          | refine brd (fun _ => ?_) (fun _ => ?_)
          | refine ixL entry_cells hj hz ?_
          | refine zI (z := ((j + 1 : Nat) : Int)) (by rw [wrap_i64 (by omega) (by omega)]; rfl) ?_
          | refine hR (few_bad hj ?_) _ rfl
          | refine nxI (j + 1) ⟨⟨hj, by omega⟩, ext hj ?_⟩ (by omega) ⟨⟨rfl, rfl⟩, rfl, rfl⟩
        all_goals simp [tiny]; omega
      · conv => whnf
        refine hE ?_ _ rfl
        have : l.length > 100 := by omega
        simp [few, show ¬ l.length ≤ 100 by omega]
    · have hj : j = l.length := by simp at b; omega
      conv => whnf
      refine hE ?_ _ rfl
      have : l.all tiny = true := by
        rw [List.all_eq_true]
        intro e he
        obtain ⟨i, hi, rfl⟩ := List.getElem_of_mem he
        exact g2 i hi (by omega)
      simp [few, this]

theorem few_eq (hn : 1 ≤ n) (l : List Entry) (sz : Nat) (hz : l ≠ [] → sz = 22) (c : Bool) : C n 11 [.lst sz (l.map Entry.av) c] h = some (.ret (.bool (few l)), h) := by
  obtain ⟨m, rfl⟩ : ∃ m, n = m + 1 := ⟨n - 1, by omega⟩
  refine fun_pure F11 rfl rfl rfl (pure_lst entry_pure l rfl) ?_
  conv => whnf
  refine few_loop l sz hz c ⟨⟨rfl, rfl⟩, rfl, rfl⟩ (fun e L hk => ?_) (fun e L hk => ?_)
  · refine cutI (by decide) rfl (t := ⟨[(0, .lst sz (l.map Entry.av) c)], [], []⟩) ⟨hk, rfl, rfl⟩ ?_
    conv => whnf
    exact retP rfl (frz_bool (by rw [e]; simp; omega))
  · exact retK hk (frz_bool e.symm)

theorem capacity_eq (hn : 1 ≤ n) : C n 18 [] h = some (.ret (i64 496), h) := by
  obtain ⟨m, rfl⟩ : ∃ m, n = m + 1 := ⟨n - 1, by omega⟩
  refine fun_pure F18 rfl rfl rfl rfl ?_
  conv => whnf
  exact retP rfl (frz_int rfl)

def fits (l : List Entry) (lv : Int) : Bool := valid l lv && (match weight l lv with | some n => decide (n ≤ 496) | none => false)
theorem valid_iff {l : List Entry} {lv : Int} : valid l lv = true ↔ (0 ≤ lv ∧ lv ≤ 20) ∧ l ≠ [] ∧ (lv = 0 ∨ (2 ≤ l.length ∧ keyAt l 0 = [])) ∧ ∀ i, i < l.length → vAt lv l i = true := by
  simp [valid, within_iff, and_assoc]
theorem wsum_some {lv : Int} : ∀ {l : List Entry}, (∀ e ∈ l, weighB e lv = true) ↔ (∃ w, wsum lv l = some w)
  | [] => by simp [wsum]
  | e :: r => by
    simp only [List.mem_cons, forall_eq_or_imp, wsum]
    rw [wsum_some (l := r)]
    by_cases hw : weighB e lv = true
    · simp only [hw, if_true, true_and]
      constructor
      · rintro ⟨w, h⟩; exact ⟨_, by rw [h]; rfl⟩
      · rintro ⟨w, h⟩
        cases hr : wsum lv r with
        | none => rw [hr] at h; cases h
        | some x => exact ⟨x, rfl⟩
    · simp [hw]
theorem weigh_form {e : Entry} (hf : formOf e ≠ 0) : weighB e 0 = true := by
  have : formOf e = 0 ∨ formOf e = 1 ∨ formOf e = 2 ∨ formOf e = 3 := by
    unfold formOf
    repeat' (first | split)
    all_goals simp
  simp [weighB]; omega
theorem valid_weight {l : List Entry} {lv : Int} (hv : valid l lv = true) : ∃ w, weight l lv = some w := by
  obtain ⟨h1, h2, h3, h4⟩ := valid_iff.1 hv
  have : ∃ w, wsum lv l = some w := wsum_some.1 fun e he => by
    obtain ⟨j, hj, rfl⟩ := List.getElem_of_mem he
    have := h4 j hj
    rw [vAt_unf hj] at this
    by_cases e0 : lv = 0
    · subst e0
      simp at this
      exact weigh_form this.1
    · simp [e0] at this
      simp [weighB, show 0 < lv by omega, this.1.1]
  obtain ⟨w, hw⟩ := this
  exact ⟨6 + w, by simp [weight, hw, within_iff.2 h1]⟩
theorem fits_eq (hn : 6 ≤ n) (l : List Entry) (hl : l.length < 1099511627776) (he : ∀ e ∈ l, e.Ok) (lv : Int) (sz : Nat) (hz : l ≠ [] → sz = 22) (c : Bool) : C n 17 [.lst sz (l.map Entry.av) c, i64 lv] h = some (.ret (.bool (fits l lv)), h) := by
  obtain ⟨m, rfl⟩ : ∃ m, n = m + 1 := ⟨n - 1, by omega⟩
  refine fun_pure F17 rfl rfl rfl (pure_lst entry_pure l rfl) ?_
  conv => whnf
  refine clI (valid_eq (by omega) l hl lv sz hz c) ?_
  conv => whnf
  refine brn (fun a => ?_) (fun a => ?_)
  · conv => whnf
    exact retP rfl (frz_bool (by simp [fits, a]))
  · obtain ⟨w, hw⟩ := valid_weight a
    have e : weightR l lv = .tup [i64 w, i64 0] := by simp [weightR, hw]
    conv => whnf
    refine clI (Eq.trans (weight_eq (by omega) l hl he lv sz hz c) (by rw [e])) ?_
    conv => whnf
    exact retP rfl (frz_bool (by simp [fits, a, hw]))
end
end Go.Proofs
/- Contracts: shared prefixes and sizes. -/
set_option linter.unusedVariables false
set_option linter.unusedSimpArgs false
namespace Go.Proofs
open Go Go.Abs
/-- How long the common prefix is. -/
def cp : Str → Str → Nat
  | a :: x, b :: y => if a = b then cp x y + 1 else 0
  | _, _ => 0
theorem cp_le : ∀ (x y : Str), cp x y ≤ x.length ∧ cp x y ≤ y.length
  | [], _ => by simp [cp]
  | _ :: _, [] => by simp [cp]
  | a :: x, b :: y => by
    have := cp_le x y
    simp only [cp, List.length_cons]
    split <;> omega
theorem cp_next : ∀ (x y : Str) (n : Nat) (hx : n < x.length) (hy : n < y.length), x[n] = y[n] → cp x y = n + cp (x.drop n) (y.drop n) → cp x y = n + 1 + cp (x.drop (n + 1)) (y.drop (n + 1)) := fun x y n hx hy he h => by
  rw [h, List.drop_eq_getElem_cons hx, List.drop_eq_getElem_cons hy]
  simp [cp, he]
  omega
theorem cp_stop (x y : Str) (n : Nat) (hx : n < x.length) (hy : n < y.length) (he : x[n] ≠ y[n]) (h : cp x y = n + cp (x.drop n) (y.drop n)) : cp x y = n := by
  rw [h, List.drop_eq_getElem_cons hx, List.drop_eq_getElem_cons hy]
  simp [cp, he]
theorem cp_end (x y : Str) (n : Nat) (hn : x.length ≤ n ∨ y.length ≤ n) (h : cp x y = n + cp (x.drop n) (y.drop n)) : cp x y = n := by
  rw [h]
  rcases hn with hn | hn
  · rw [List.drop_of_length_le hn]; simp [cp]
  · rw [List.drop_of_length_le hn]
    cases x.drop n <;> simp [cp]
section
variable {n : Nat} {h : AHeap}
theorem u8_eq (a b : UInt8) : (((a.toNat : Int)) == ((b.toNat : Int))) = decide (a = b) := eq_u8 a b
theorem cprefix_eq (hn : 1 ≤ n) (x y : Str) (hx : x.length < 1099511627776) (hy : y.length < 1099511627776) : C n 64 [.str x, .str y] h = some (.ret (i64 (cp x y)), h) := by
  obtain ⟨m, rfl⟩ : ∃ m, n = m + 1 := ⟨n - 1, by omega⟩
  refine fun_pure F64 rfl rfl rfl rfl ?_
  conv => whnf
  refine loopI (by decide) rfl (α := Nat) (fun k => ⟨[(0, .str x), (1, .str y), (5, i64 k)], [], []⟩) (fun k => (k ≤ x.length ∧ k ≤ y.length) ∧ cp x y = k + cp (x.drop k) (y.drop k)) (fun k => x.length - k) 0 ⟨⟨rfl, rfl, rfl⟩, rfl, rfl⟩ (by simp) (by show x.length - 0 < KK; simp only [KK]; omega) ?_
  rintro k ⟨⟨k1, k2⟩, k3⟩
  have hmin : (if ((y.length : Nat) : Int) < ((x.length : Nat) : Int) then ((y.length : Nat) : Int) else ((x.length : Nat) : Int)) = ((min x.length y.length : Nat) : Int) := by
    split <;> omega
  conv => whnf
  refine ⟨_, hmin, ?_⟩
  conv => whnf
  refine brd (fun a => ?_) (fun a => ?_)
  · have hkx : k < x.length := by omega
    have hky : k < y.length := by omega
    conv => whnf
    refine strI (b := x[k]) (by omega) (by rw [Int.toNat_natCast]; exact List.getElem?_eq_getElem hkx) ?_
    conv => whnf
    refine strI (b := y[k]) (by omega) (by rw [Int.toNat_natCast]; exact List.getElem?_eq_getElem hky) ?_
    have e := u8_eq x[k] y[k]
    conv => whnf
    refine br (fun b => ?_) (fun b => ?_)
    · have b' : x[k] = y[k] := by simpa using e.symm.trans b
      conv => whnf
      refine zI (z := ((k + 1 : Nat) : Int)) (by rw [wrap_i64 (by omega) (by omega)]; rfl) ?_
      exact nxI (k + 1) ⟨⟨hkx, hky⟩, cp_next x y k hkx hky b' k3⟩ (by omega) ⟨⟨rfl, rfl, rfl⟩, rfl, rfl⟩
    · have b' : x[k] ≠ y[k] := by simpa using e.symm.trans b
      conv => whnf
      refine cutI (by decide) rfl (t := ⟨[(5, i64 k)], [], []⟩) ⟨rfl, rfl, rfl⟩ ?_
      conv => whnf
      exact retP rfl (frz_int (by rw [cp_stop x y k hkx hky b' k3]))
  · conv => whnf
    refine cutI (by decide) rfl (t := ⟨[(5, i64 k)], [], []⟩) ⟨rfl, rfl, rfl⟩ ?_
    conv => whnf
    exact retP rfl (frz_int (by rw [cp_end x y k (by omega) k3]))

/-- The shared prefix. -/
def pre2 (p k : Str) : Str := p.take (cp p k)
def tailE (l : List Entry) (lv : Int) : List Entry := if 0 < lv then l.drop 1 else l
def shared (l : List Entry) (lv : Int) : Str := ((tailE l lv).drop 1).foldl (fun p e => pre2 p e.key) ((tailE l lv).headD default).key

theorem shared_loop {m : Nat} (hm : 1 ≤ m) (l : List Entry) (hl : l.length < 1099511627776) (he : ∀ e ∈ l, e.Ok) (p0 : Str) (hp0 : p0.length < 1099511627776) (sz : Nat) (hz : l ≠ [] → sz = 22) (c : Bool) {Q : Ex → LS → Prop} {s : LS}
    (hs : LS.sub ⟨[(5, .str p0), (17, .lst sz (l.map Entry.av) c), (18, i64 l.length), (19, i64 0)], [], []⟩ s) (hE : ∀ L hp, lk L 5 = some (.str (l.foldl (fun p e => pre2 p e.key) p0)) → Q (.exit 0) ⟨L, hp, []⟩) :
    OkR Try.prog (C m) cfg0.inl KK 31 6 (.loop (c37.lp 0)) s Q := by
  refine loopI (by decide) rfl (α := Nat × Str × AHeap) (fun x => ⟨[(5, .str x.2.1), (17, .lst sz (l.map Entry.av) c), (18, i64 l.length), (19, i64 x.1)], x.2.2, []⟩)
    (fun x => x.1 ≤ l.length ∧ x.2.1 = (l.take x.1).foldl (fun p e => pre2 p e.key) p0 ∧ x.2.1.length < 1099511627776) (fun x => l.length - x.1) (0, p0, []) hs (by simpa using hp0) (by show l.length - 0 < KK; simp only [KK]; omega) ?_
  rintro ⟨j, p, hp⟩ ⟨g1, g2, g3⟩
  simp only at g1 g2 g3
  conv => whnf
  refine brd (fun b => ?_) (fun b => ?_)
  · simp only at b
    have hj : j < l.length := by omega
    have hst : pre2 p l[j].key = (l.take (j + 1)).foldl (fun p e => pre2 p e.key) p0 := by
      rw [List.take_succ_eq_append_getElem hj, List.foldl_append, ← g2]; rfl
    have hk := he _ (List.getElem_mem hj)
    have hle := (cp_le p l[j].key).1
    conv => whnf
    refine ixL entry_cells hj hz ?_
    conv => whnf
    refine stI (get_last _ _) (by rfl) (by rfl) (by rfl) (by rfl) ?_
    conv => whnf
    refine ldI (get_set_last _ _ _) ?_
    conv => whnf
    refine clI (cprefix_eq (by omega) p l[j].key g3 hk.1) ?_
    conv => whnf
    refine ss_hi hle ?_
    conv => whnf
    refine zI (z := ((j + 1 : Nat) : Int)) (by rw [wrap_i64 (by omega) (by omega)]; rfl) ?_
    refine nxI (j + 1, pre2 p l[j].key, _) ⟨hj, hst, by simp only [pre2, List.length_take]; omega⟩ (by simp only; omega) ⟨⟨rfl, rfl, rfl, rfl⟩, rfl, rfl⟩
  · simp only at b
    have : j = l.length := by omega
    subst this
    rw [List.take_length] at g2
    subst g2
    conv => whnf
    exact hE _ _ rfl

theorem head_at {l : List Entry} (h : 0 < l.length) : l[0] = l.headD default := by
  cases l with
  | nil => simp at h
  | cons a r => rfl
theorem shared_eq (hn : 2 ≤ n) (l : List Entry) (hl : l.length < 1099511627776) (he : ∀ e ∈ l, e.Ok) (lv : Int) (hne : 0 < (tailE l lv).length) (sz : Nat) (hz : l ≠ [] → sz = 22) (c : Bool) :
    C n 37 [.lst sz (l.map Entry.av) c, i64 lv] h = some (.ret (.str (shared l lv)), h) := by
  obtain ⟨m, rfl⟩ : ∃ m, n = m + 1 := ⟨n - 1, by omega⟩
  have go : ∀ (t : List Entry) (c' : Bool) (s' : LS), t = tailE l lv → LS.sub ⟨[(0, .lst 22 (t.map Entry.av) c')], [], []⟩ s' → OkR Try.prog (C m) cfg0.inl KK 31 6 (cutOf c37) s' (RetQ Try.prog [.tmp 4] fun v' h' => frz h' 64 v' = some (.str (shared l lv))) := fun t c' s' ht hs' => by
    have h0 : 0 < t.length := by rw [ht]; exact hne
    have het : ∀ e ∈ t, e.Ok := fun e h => he e (by
      subst ht
      unfold tailE at h
      split at h
      · exact List.mem_of_mem_drop h
      · exact h)
    have hlt : t.length ≤ l.length := by subst ht; unfold tailE; split <;> simp
    have hsh : ((t.drop 1).foldl (fun p e => pre2 p e.key) t[0].key) = shared l lv := by rw [head_at h0, ht]; rfl
    refine cutI (by decide) rfl hs' ?_
    conv => whnf
    refine ixL entry_cells (j := 0) h0 (fun _ => rfl) ?_
    conv => whnf
    refine slI (sl_lo _ t (fun _ => rfl) c' 1 h0) ?_
    conv => whnf
    refine shared_loop (by omega) (t.drop 1) (by simp; omega) (fun e h => het e (List.mem_of_mem_drop h)) t[0].key (het _ (List.getElem_mem h0)).1 22 (fun _ => rfl) _ ⟨⟨rfl, rfl, lenI _ _, rfl⟩, rfl, rfl⟩ (fun L hp hL => ?_)
    refine cutI (by decide) rfl (t := ⟨[(5, .str (shared l lv))], hp, []⟩) ⟨by rw [hsh] at hL; exact hL, rfl, rfl⟩ ?_
    conv => whnf
    exact retP rfl (frz_str rfl)
  refine fun_pure F37 rfl rfl rfl (pure_lst entry_pure l rfl) ?_
  conv => whnf
  refine brd (fun a => ?_) (fun a => ?_)
  · have ht : l.drop 1 = tailE l lv := by unfold tailE; rw [if_pos a]
    have hl1 : 1 ≤ l.length := by rw [← ht] at hne; simp at hne; omega
    conv => whnf
    refine slI (sl_lo _ l hz c 1 hl1) ?_
    exact go (l.drop 1) _ _ ht ⟨rfl, rfl, rfl⟩
  · have ht : l = tailE l lv := by unfold tailE; rw [if_neg a]
    have hsz : sz = 22 := hz (by intro e; subst e; rw [← ht] at hne; simp at hne)
    subst hsz
    exact go l c _ ht ⟨rfl, rfl, rfl⟩

theorem valid_tail {l : List Entry} {lv : Int} (hv : valid l lv = true) : 0 < (tailE l lv).length := by
  obtain ⟨h1, h2, h3, h4⟩ := valid_iff.1 hv
  unfold tailE
  split
  · simp; omega
  · cases l with
    | nil => exact (h2 rfl).elim
    | cons => simp
def sizeN (l : List Entry) (lv : Int) : Int := (weight l lv).getD 0 - (l.length - (if 0 < lv then 1 else 0)) * (shared l lv).length + (shared l lv).length
def sizeR (l : List Entry) (lv : Int) : AV := .tup [i64 (if valid l lv then sizeN l lv else 0), i64 (if valid l lv then 0 else 2)]
def prefR (l : List Entry) (lv : Int) : AV := .tup [.str (if valid l lv then shared l lv else []), i64 (if valid l lv then 0 else 2)]
theorem prefix_eq (hn : 6 ≤ n) (l : List Entry) (hl : l.length < 1099511627776) (he : ∀ e ∈ l, e.Ok) (lv : Int) (sz : Nat) (hz : l ≠ [] → sz = 22) (c : Bool) : C n 14 [.lst sz (l.map Entry.av) c, i64 lv] h = some (.ret (prefR l lv), h) := by
  obtain ⟨m, rfl⟩ : ∃ m, n = m + 1 := ⟨n - 1, by omega⟩
  refine fun_pure F14 rfl rfl rfl (pure_lst entry_pure l rfl) ?_
  conv => whnf
  refine clI (valid_eq (by omega) l hl lv sz hz c) ?_
  conv => whnf
  refine brn (fun a => ?_) (fun a => ?_)
  · conv => whnf
    exact retP rfl (frz_si (by simp [a]) (by simp [a]))
  · conv => whnf
    refine clI (shared_eq (by omega) l hl he lv (valid_tail a) sz hz c) ?_
    conv => whnf
    exact retP rfl (frz_si (by simp [a]) (by simp [a]))

theorem pre2_len (p k : Str) : (pre2 p k).length ≤ p.length := by simp [pre2]; omega
theorem fold_len : ∀ (l : List Entry) (p : Str), (l.foldl (fun p e => pre2 p e.key) p).length ≤ p.length
  | [], p => Nat.le_refl _
  | e :: r, p => Nat.le_trans (fold_len r _) (pre2_len p e.key)
end
end Go.Proofs
/- Contracts: sizes; entries behind a string. -/
set_option linter.unusedVariables false
set_option linter.unusedSimpArgs false
namespace Go.Proofs
open Go Go.Abs
theorem valid_key {l : List Entry} {lv : Int} (hv : valid l lv = true) : ∀ e ∈ l, e.key.length ≤ 48 := fun e he => by
  obtain ⟨h1, h2, h3, h4⟩ := valid_iff.1 hv
  obtain ⟨j, hj, rfl⟩ := List.getElem_of_mem he
  have := h4 j hj
  rw [vAt_unf hj] at this
  by_cases e0 : lv = 0
  · subst e0
    simp at this
    exact (form_key this.1).2
  · simp [e0, branches] at this
    omega
theorem shared_len {l : List Entry} {lv : Int} (hv : valid l lv = true) : (shared l lv).length ≤ 48 := by
  have h0 := valid_tail hv
  refine Nat.le_trans (fold_len _ _) ?_
  rw [← head_at h0]
  have hm : (tailE l lv)[0] ∈ l := by
    have : (tailE l lv)[0] ∈ tailE l lv := List.getElem_mem h0
    unfold tailE at this ⊢
    split at this <;> rename_i h
    · simp only [h, if_true]; exact List.mem_of_mem_drop this
    · simp only [h, if_false]; exact this
  exact valid_key hv _ hm
theorem weight_valid {l : List Entry} {lv : Int} (hv : valid l lv = true) : weightR l lv = .tup [i64 ((weight l lv).getD 0), i64 0] ∧ 6 ≤ (weight l lv).getD 0 ∧ (weight l lv).getD 0 ≤ 6 + 117 * l.length := by
  obtain ⟨w, hw⟩ := valid_weight hv
  refine ⟨by simp [weightR, hw], ?_⟩
  rw [hw]
  unfold weight at hw
  split at hw
  · cases hs : wsum lv l with
    | none => rw [hs] at hw; cases hw
    | some x =>
      rw [hs] at hw
      simp at hw
      have hb : ∀ {l : List Entry} {w : Int}, wsum lv l = some w → 0 ≤ w ∧ w ≤ 117 * l.length := fun {l} => by
        induction l with
        | nil => intro w h; simp [wsum] at h; subst h; simp
        | cons e r ih =>
          intro w h
          unfold wsum at h
          by_cases hw : weighB e lv = true
          · rw [if_pos hw] at h
            cases hr : wsum lv r with
            | none => rw [hr] at h; cases h
            | some x =>
              rw [hr] at h
              simp at h
              have := ih hr
              have := weigh_bound hw
              simp only [List.length_cons]
              omega
          · rw [if_neg hw] at h; cases h
      have := hb hs
      simp only [Option.getD_some]
      omega
  · cases hw
section
variable {n : Nat} {h : AHeap}
theorem size_walk {m : Nat} (l : List Entry) (hl : l.length < 1099511627776) (lv : Int) (sz : Nat) (c : Bool) (w : Int) (sh : Str) (hw : 6 ≤ w ∧ w ≤ 6 + 117 * l.length) (hs : sh.length ≤ 48) (h0 : 0 < l.length)
    (cv : ∀ h, C m 15 [.lst sz (l.map Entry.av) c, i64 lv] h = some (.ret (.bool true), h)) (cw : ∀ h, C m 13 [.lst sz (l.map Entry.av) c, i64 lv] h = some (.ret (.tup [i64 w, i64 0]), h)) (cs : ∀ h, C m 37 [.lst sz (l.map Entry.av) c, i64 lv] h = some (.ret (.str sh), h)) :
    C (m + 1) 12 [.lst sz (l.map Entry.av) c, i64 lv] h = some (.ret (.tup [i64 (w - (l.length - (if 0 < lv then 1 else 0)) * sh.length + sh.length), i64 0]), h) := by
  refine fun_pure F12 rfl rfl rfl (pure_lst entry_pure l rfl) ?_
  conv => whnf
  refine clI (cv _) ?_
  conv => whnf
  refine clI (cw _) ?_
  conv => whnf
  refine clI (cs _) ?_
  conv => whnf
  have hmul : ∀ k : Nat, k ≤ l.length → 0 ≤ (k : Int) * (sh.length : Int) ∧ (k : Int) * (sh.length : Int) ≤ 48 * 1099511627776 := fun k hk => by
    have h1 : k * sh.length ≤ 1099511627776 * 48 := Nat.mul_le_mul (by omega) hs
    have h2 : ((k * sh.length : Nat) : Int) = (k : Int) * (sh.length : Int) := Int.natCast_mul _ _
    rw [← h2]
    omega
  refine brd (fun a => ?_) (fun a => ?_)
  · have hm := hmul (l.length - 1) (by omega)
    conv => whnf
    refine zI (z := ((l.length - 1 : Nat) : Int)) (by rw [List.length_map, wrap_i64 (by omega) (by omega)]; omega) ?_
    conv => whnf
    refine zI (wrap_i64 (by omega) (by omega)) ?_
    conv => whnf
    refine zI (wrap_i64 (by omega) (by omega)) ?_
    conv => whnf
    refine zI (wrap_i64 (by omega) (by omega)) ?_
    conv => whnf
    refine retP rfl (frz_ii ?_ rfl)
    rw [if_pos a, show ((l.length - 1 : Nat) : Int) = (l.length : Int) - 1 by omega]
  · have hm := hmul l.length (Nat.le_refl _)
    conv => whnf
    refine zI (z := (l.length : Int) * (sh.length : Int)) (by rw [List.length_map, wrap_i64 (by omega) (by omega)]) ?_
    conv => whnf
    refine zI (wrap_i64 (by omega) (by omega)) ?_
    conv => whnf
    refine zI (wrap_i64 (by omega) (by omega)) ?_
    conv => whnf
    refine retP rfl (frz_ii ?_ rfl)
    rw [if_neg a, Int.sub_zero]

theorem size_eq (hn : 6 ≤ n) (l : List Entry) (hl : l.length < 1099511627776) (he : ∀ e ∈ l, e.Ok) (lv : Int) (sz : Nat) (hz : l ≠ [] → sz = 22) (c : Bool) : C n 12 [.lst sz (l.map Entry.av) c, i64 lv] h = some (.ret (sizeR l lv), h) := by
  obtain ⟨m, rfl⟩ : ∃ m, n = m + 1 := ⟨n - 1, by omega⟩
  by_cases a : valid l lv = true
  · obtain ⟨w1, w2⟩ := weight_valid a
    have h0 : 0 < l.length := by
      obtain ⟨_, h2, _⟩ := valid_iff.1 a
      cases l with
      | nil => exact (h2 rfl).elim
      | cons => simp
    rw [size_walk l hl lv sz c ((weight l lv).getD 0) (shared l lv) w2 (shared_len a) h0 (fun h => by rw [valid_eq (by omega) l hl lv sz hz c, a]) (fun h => by rw [weight_eq (by omega) l hl he lv sz hz c, w1]) (fun h => shared_eq (by omega) l hl he lv (valid_tail a) sz hz c)]
    simp [sizeR, sizeN, a]
  · have cv : ∀ h, C m 15 [.lst sz (l.map Entry.av) c, i64 lv] h = some (.ret (.bool false), h) := fun h => by rw [valid_eq (by omega) l hl lv sz hz c]; simp [a]
    refine fun_pure F12 rfl rfl rfl (pure_lst entry_pure l rfl) ?_
    conv => whnf
    refine clI (cv _) ?_
    conv => whnf
    exact retP rfl (frz_ii (by simp [a]) (by simp [a]))
end
end Go.Proofs
/- Contracts: pages that are well-formed. -/
set_option linter.unusedVariables false
set_option linter.unusedSimpArgs false
namespace Go.Proofs
open Go Go.Abs

structure Page where
  kind : Int
  no : Int
  ver : Int
  tree : Int
  level : Int
  top : Bool
  esh : Sh
  entries : List Entry
  next : Int
  data : Str
  fsh : Sh
  freed : List Freed
def Page.cells (p : Page) : List AV := [i64 p.kind, i64 p.no, i64 p.ver, i64 p.tree, i64 p.level, .bool p.top, .lst p.esh.sz (p.entries.map Entry.av) p.esh.c, i64 p.next, .str p.data, .lst p.fsh.sz (p.freed.map Freed.av) p.fsh.c]
def Page.av (p : Page) : AV := .agg p.cells
/-- Strings and lists are short enough for a machine; slices are held as they are. -/
structure Page.Ok (p : Page) : Prop where
  esz : p.entries ≠ [] → p.esh.sz = 22
  fsz : p.freed ≠ [] → p.fsh.sz = 2
  elen : p.entries.length < 1099511627776
  flen : p.freed.length < 1048576
  dlen : p.data.length < 1099511627776
  ent : ∀ e ∈ p.entries, e.Ok
  fr : ∀ f ∈ p.freed, f.Ok ∧ f.pages.length < 9223372036854775808
theorem page_cells (p : Page) : p.av.cells? = some p.cells := rfl
theorem freed_pure (f : Freed) : f.av.pureB = true := by
  show pureBs [i64 f.ver, .lst f.sh.sz (f.pages.map i64) f.sh.c] = true
  simp [pureBs, AV.pureB, pure_map (f := i64) (fun _ => rfl)]
theorem page_pure (p : Page) : p.av.pureB = true := by
  show pureBs p.cells = true
  simp [Page.cells, pureBs, AV.pureB, pure_map entry_pure, pure_map freed_pure]
theorem eq_bool (a b : Bool) : eqA Try.prog 20 4 (.bool a) (.bool b) = some (a == b) := by kernel_rfl

def linked (n : Int) : Bool := n == 0 || numbered n
def Page.plain (p : Page) : Bool := p.tree == 0 && (p.level == 0 && (!p.top && (p.entries.length : Int) == 0))
def pgAt (l : List Int) (k : Nat) : Bool := numbered (l.getD k 0) && (k == 0 || decide (l.getD (k - 1) 0 < l.getD k 0))
def pgsOk (l : List Int) : Bool := (List.range l.length).all (pgAt l)
instance : Inhabited Freed := ⟨⟨0, ⟨0, true⟩, []⟩⟩
def frAt (l : List Freed) (k : Nat) : Bool := (within (l.getD k default).ver 0 1099511627776 && (((l.getD k default).pages.length : Int) != 0 && (k == 0 || decide ((l.getD (k - 1) default).ver < (l.getD k default).ver)))) && pgsOk (l.getD k default).pages
def freedOk (l : List Freed) : Bool := (List.range l.length).all (frAt l)
def listed (l : List Freed) : Int := 6 + (l.map fun f => 8 + 4 * (f.pages.length : Int)).sum
def Page.check (p : Page) : Bool := numbered p.no && (within p.ver 0 1099511627776 && (if p.kind = 1 ∨ p.kind = 2 then within p.tree 0 255 && (((p.kind == 1) == (p.level == 0)) && (fits p.entries p.level && (p.next == 0 && (p.data == [] && (p.freed.length : Int) == 0))))
  else if p.kind = 3 then p.plain && (linked p.next && (within p.data.length 1 490 && (p.freed.length : Int) == 0)) else if p.kind = 4 then p.plain && (linked p.next && (p.data == [] && (freedOk p.freed && decide (listed p.freed ≤ 496)))) else false))

theorem all_bad {p : Nat → Bool} {n j : Nat} (hj : j < n) (hb : p j = false) : (List.range n).all p = false := by
  rw [List.all_eq_false]; exact ⟨j, List.mem_range.2 hj, by simp [hb]⟩
theorem all_good {p : Nat → Bool} {n : Nat} (h : ∀ i, i < n → p i = true) : (List.range n).all p = true := by
  rw [List.all_eq_true]; exact fun i hi => h i (List.mem_range.1 hi)
theorem all_next {p : Nat → Bool} {j : Nat} (h : ∀ i, i < j → p i = true) (hj : p j = true) : ∀ i, i < j + 1 → p i = true := fun i hi => by
  by_cases e : i = j
  · rw [e]; exact hj
  · exact h i (by omega)
theorem pgAt_unf {l : List Int} {j : Nat} (hj : j < l.length) : pgAt l j = (numbered l[j] && (decide (j = 0) || decide (l[j - 1] < l[j]))) := by
  have h1 : l.getD j 0 = l[j] := by simp [hj]
  have h2 : l.getD (j - 1) 0 = l[j - 1] := by simp [show j - 1 < l.length by omega]
  have h3 : (j == 0) = decide (j = 0) := by by_cases e : j = 0 <;> simp [e]
  unfold pgAt; rw [h1, h2, h3]
theorem frAt_unf {l : List Freed} {j : Nat} (hj : j < l.length) : frAt l j = ((within l[j].ver 0 1099511627776 && ((l[j].pages.length : Int) != 0 && (decide (j = 0) || decide (l[j - 1].ver < l[j].ver)))) && pgsOk l[j].pages) := by
  have h1 : l.getD j default = l[j] := by simp [hj]
  have h2 : l.getD (j - 1) default = l[j - 1] := by simp [show j - 1 < l.length by omega]
  have h3 : (j == 0) = decide (j = 0) := by by_cases e : j = 0 <;> simp [e]
  unfold frAt; rw [h1, h2, h3]

section
variable {n : Nat} {h : AHeap}
theorem plain_eq (hn : 1 ≤ n) (p : Page) : C n 52 [p.av] h = some (.ret (.bool p.plain), h) := by
  obtain ⟨m, rfl⟩ : ∃ m, n = m + 1 := ⟨n - 1, by omega⟩
  refine fun_pure F52 rfl rfl rfl (by simp [pureBs, page_pure]) ?_
  repeat' (conv => whnf); first
    | refine retP rfl (frz_bool ?_)
    | refine brd (fun _ => ?_) (fun _ => ?_)
    | refine bre (fun _ => ?_) (fun _ => ?_)
    | refine brq (fun _ => ?_) (fun _ => ?_)
    | refine brn (fun _ => ?_) (fun _ => ?_)
    | refine br (fun _ => ?_) (fun _ => ?_)
    | refine ldI (by rfl) ?_
    | refine ldI (get_set_last _ _ _) ?_
    | refine ldI (get_last _ _) ?_
    | refine stI (by rfl) (by rfl) (by rfl) (by rfl) (by rfl) ?_
    | refine stI (get_last _ _) (by rfl) (by rfl) (by rfl) (by rfl) ?_
    | refine cutS (by decide) rfl ?_
  all_goals simp_all [Page.plain]
theorem linked_eq (hn : 3 ≤ n) (k : Int) : C n 53 [i64 k] h = some (.ret (.bool (linked k)), h) := by
  obtain ⟨m, rfl⟩ : ∃ m, n = m + 1 := ⟨n - 1, by omega⟩
  refine fun_pure F53 rfl rfl rfl rfl ?_
  repeat' (conv => whnf); first
    | refine clI (numbered_eq (by omega) _) ?_
    | refine retP rfl (frz_bool ?_)
    | refine brd (fun _ => ?_) (fun _ => ?_)
    | refine bre (fun _ => ?_) (fun _ => ?_)
    | refine brq (fun _ => ?_) (fun _ => ?_)
    | refine brn (fun _ => ?_) (fun _ => ?_)
    | refine br (fun _ => ?_) (fun _ => ?_)
    | refine ldI (by rfl) ?_
    | refine ldI (get_set_last _ _ _) ?_
    | refine ldI (get_last _ _) ?_
    | refine stI (by rfl) (by rfl) (by rfl) (by rfl) (by rfl) ?_
    | refine stI (get_last _ _) (by rfl) (by rfl) (by rfl) (by rfl) ?_
    | refine cutS (by decide) rfl ?_
  all_goals simp_all [linked]
theorem listed_bound : ∀ (l : List Freed), (∀ f ∈ l, f.pages.length < 1048576) → 6 ≤ listed l ∧ listed l ≤ 6 + 4194312 * l.length
  | [], _ => by simp [listed]
  | f :: r, hf => by
    have h1 := listed_bound r fun g hg => hf g (List.mem_cons_of_mem _ hg)
    have h2 := hf f (List.mem_cons_self ..)
    simp only [listed, List.map_cons, List.sum_cons, List.length_cons] at h1 ⊢
    omega
theorem listed_take (l : List Freed) {j : Nat} (hj : j < l.length) : listed (l.take (j + 1)) = listed (l.take j) + (8 + 4 * (l[j].pages.length : Int)) := by
  rw [List.take_succ_eq_append_getElem hj]
  unfold listed
  rw [List.map_append, List.sum_append]
  simp only [List.map_cons, List.map_nil, List.sum_cons, List.sum_nil]
  omega
theorem listed_eq (hn : 1 ≤ n) (l : List Freed) (hl : l.length < 1048576) (hf : ∀ f ∈ l, f.Ok ∧ f.pages.length < 1048576) (sz : Nat) (hz : l ≠ [] → sz = 2) (c : Bool) : C n 55 [.lst sz (l.map Freed.av) c] h = some (.ret (i64 (listed l)), h) := by
  obtain ⟨m, rfl⟩ : ∃ m, n = m + 1 := ⟨n - 1, by omega⟩
  refine fun_pure F55 rfl rfl rfl (pure_lst freed_pure l rfl) ?_
  conv => whnf
  refine loopI (by decide) rfl (α := Nat × AHeap) (fun x => ⟨[(3, i64 (listed (l.take x.1))), (6, .lst sz (l.map Freed.av) c), (7, i64 l.length), (8, i64 x.1)], x.2, []⟩) (fun x => x.1 ≤ l.length) (fun x => l.length - x.1) (0, []) ⟨⟨rfl, rfl, lenI _ _, rfl⟩, rfl, rfl⟩ (Nat.zero_le _) (by show l.length - 0 < KK; simp only [KK]; omega) ?_
  rintro ⟨j, hp⟩ g1
  simp only at g1
  conv => whnf
  refine brd (fun a => ?_) (fun a => ?_)
  · have hj : j < l.length := by simp only at a; omega
    obtain ⟨k1, k2⟩ := hf _ (List.getElem_mem hj)
    have hb := listed_bound (l.take j) fun f h => (hf f (List.mem_of_mem_take h)).2
    rw [List.length_take] at hb
    have el : ((l[j].pages.map i64).length : Int) = (l[j].pages.length : Int) := by rw [List.length_map]
    conv => whnf
    refine ixL freed_cells hj hz ?_
    conv => whnf
    refine stI (get_last _ _) (by rfl) (by rfl) (by rfl) (by rfl) ?_
    conv => whnf
    refine ldI (get_set_last _ _ _) ?_
    conv => whnf
    refine zI (z := 4 * (l[j].pages.length : Int)) (by rw [el, wrap_i64 (by omega) (by omega)]) ?_
    conv => whnf
    refine zI (z := 8 + 4 * (l[j].pages.length : Int)) (wrap_i64 (by omega) (by omega)) ?_
    conv => whnf
    refine zI (z := listed (l.take (j + 1))) (by rw [listed_take l hj, wrap_i64 (by simp only; omega) (by simp only; omega)]) ?_
    conv => whnf
    refine zI (z := ((j + 1 : Nat) : Int)) (by rw [wrap_i64 (by omega) (by omega)]; rfl) ?_
    exact nxI (j + 1, _) hj (by simp only; omega) ⟨⟨rfl, rfl, rfl, rfl⟩, rfl, rfl⟩
  · have hj : j = l.length := by simp only at a; omega
    subst hj
    conv => whnf
    refine cutI (by decide) rfl (t := ⟨[(3, i64 (listed l))], hp, []⟩) ⟨by rw [List.take_length]; rfl, rfl, rfl⟩ ?_
    conv => whnf
    exact retP rfl (frz_int rfl)

/-- Pages that are in order are few. -/
theorem pgs_ge {l : List Int} (h : pgsOk l = true) : ∀ i (hi : i < l.length), (2 : Int) + i ≤ l[i] ∧ l[i] ≤ 4095
  | 0, hi => by
    have := List.all_eq_true.1 h 0 (List.mem_range.2 hi)
    rw [pgAt_unf hi] at this
    simp [numbered, within] at this
    omega
  | i + 1, hi => by
    have h0 := pgs_ge h i (by omega)
    have := List.all_eq_true.1 h (i + 1) (List.mem_range.2 hi)
    rw [pgAt_unf hi] at this
    simp [numbered, within] at this
    omega
theorem pgs_few {l : List Int} (h : pgsOk l = true) : l.length ≤ 4094 := by
  rcases Nat.eq_zero_or_pos l.length with e | e
  · omega
  · have := pgs_ge h (l.length - 1) (by omega)
    omega
theorem freed_few {l : List Freed} (h : freedOk l = true) (hf : ∀ f ∈ l, f.Ok ∧ f.pages.length < 9223372036854775808) : ∀ f ∈ l, f.Ok ∧ f.pages.length < 1048576 := fun f hm => by
  obtain ⟨i, hi, rfl⟩ := List.getElem_of_mem hm
  have := List.all_eq_true.1 h i (List.mem_range.2 hi)
  rw [frAt_unf hi, Bool.and_eq_true] at this
  have := pgs_few this.2
  exact ⟨(hf _ hm).1, by omega⟩
theorem pgs_loop {m : Nat} (hm : 2 ≤ m) (l : List Int) (hl : l.length < 9223372036854775808) (sz : Nat) (hz : l ≠ [] → sz = 1) (c : Bool) (f : Freed) (hf : f = ⟨f.ver, ⟨sz, c⟩, l⟩) {hp : AHeap} {E : Nat} (hE0 : hp[E]? = some (.cells 0 (some 109) f.cells 0)) {Q : Ex → LS → Prop} {s : LS} (v0 v7 v8 v9 : AV)
    (hs : LS.sub ⟨[(0, v0), (4, .ptr E 0 0), (7, v7), (8, v8), (9, v9), (40, .lst sz (l.map i64) c), (41, i64 l.length), (42, i64 0)], hp, []⟩ s)
    (hE : pgsOk l = true → ∀ L, subL [(0, v0), (7, v7), (8, v8), (9, v9)] L → Q (.exit 2) ⟨L, hp, []⟩) (hR : pgsOk l = false → ∀ L, lk L 2 = some (.bool false) → Q .ret ⟨L, hp, []⟩) :
    OkR Try.prog (C m) cfg0.inl KK 66 7 (.loop (c54.lp 1)) s Q := by
  refine loopI (by decide) rfl (α := Nat) (fun x => ⟨[(0, v0), (4, .ptr E 0 0), (7, v7), (8, v8), (9, v9), (40, .lst sz (l.map i64) c), (41, i64 l.length), (42, i64 x)], hp, []⟩) (fun x => x ≤ l.length ∧ ∀ i, i < x → pgAt l i = true) (fun x => l.length - x) 0 hs ⟨Nat.zero_le _, fun i hi => absurd hi (Nat.not_lt_zero _)⟩ (by show l.length - 0 < KK; simp only [KK]; omega) ?_
  rintro j ⟨g1, g2⟩
  have e0 : f.cells = [i64 f.ver, .lst sz (l.map i64) c] := by rw [hf]; rfl
  rw [e0] at hE0
  conv => whnf
  refine brd (fun a => ?_) (fun a => ?_)
  · have hj : j < l.length := by omega
    repeat' (conv => whnf); first
      | refine ixL (l := l) (j := j) i64_cells hj hz ?_
      | refine ixL (l := l) (j := j - 1) i64_cells (by omega) hz ?_
      | refine clI (numbered_eq (by omega) _) ?_
      | refine ldI hE0 ?_
      | refine zI (z := ((j - 1 : Nat) : Int)) (by rw [wrap_i64 (by omega) (by omega)]; omega) ?_
      | refine zI (z := ((j + 1 : Nat) : Int)) (by rw [wrap_i64 (by omega) (by omega)]; rfl) ?_
      | refine hR (all_bad hj ?_) _ rfl
      | refine nxI (j + 1) ⟨hj, all_next g2 ?_⟩ (by omega) ⟨⟨rfl, rfl, rfl, rfl, rfl, rfl, rfl, rfl⟩, rfl, rfl⟩
      | (exfalso; omega)
      | refine brd (fun _ => ?_) (fun _ => ?_)
      | refine bre (fun _ => ?_) (fun _ => ?_)
      | refine brq (fun _ => ?_) (fun _ => ?_)
      | refine brn (fun _ => ?_) (fun _ => ?_)
      | refine br (fun _ => ?_) (fun _ => ?_)
      | refine ldI (by rfl) ?_
      | refine ldI (get_set_last _ _ _) ?_
      | refine ldI (get_last _ _) ?_
      | refine stI (by rfl) (by rfl) (by rfl) (by rfl) (by rfl) ?_
      | refine stI (get_last _ _) (by rfl) (by rfl) (by rfl) (by rfl) ?_
      | refine zI (wrap_i64 (by omega) (by omega)) ?_
      | refine cutS (by decide) rfl ?_
    all_goals clear hf e0 hE0 hE hR hs
    all_goals rw [pgAt_unf hj]
    all_goals by_cases hj0 : j = 0
    all_goals simp_all
    all_goals omega
  · have hj : j = l.length := by omega
    subst hj
    conv => whnf
    exact hE (all_good g2) _ ⟨rfl, rfl, rfl, rfl⟩
theorem freed_eq (hn : 3 ≤ n) (l : List Freed) (hl : l.length < 1048576) (hf : ∀ f ∈ l, f.Ok ∧ f.pages.length < 9223372036854775808) (sz : Nat) (hz : l ≠ [] → sz = 2) (c : Bool) : C n 54 [.lst sz (l.map Freed.av) c] h = some (.ret (.bool (freedOk l)), h) := by
  obtain ⟨m, rfl⟩ : ∃ m, n = m + 1 := ⟨n - 1, by omega⟩
  refine fun_pure F54 rfl rfl rfl (pure_lst freed_pure l rfl) ?_
  conv => whnf
  refine loopI (by decide) rfl (α := Nat × AHeap) (fun x => ⟨[(0, .lst sz (l.map Freed.av) c), (7, .lst sz (l.map Freed.av) c), (8, i64 l.length), (9, i64 x.1)], x.2, []⟩) (fun x => x.1 ≤ l.length ∧ ∀ i, i < x.1 → frAt l i = true) (fun x => l.length - x.1) (0, []) ⟨⟨rfl, rfl, lenI _ _, rfl⟩, rfl, rfl⟩ ⟨Nat.zero_le _, fun i hi => absurd hi (Nat.not_lt_zero _)⟩ (by show l.length - 0 < KK; simp only [KK]; omega) ?_
  rintro ⟨j, hp⟩ ⟨g1, g2⟩
  simp only at g1 g2
  conv => whnf
  refine brd (fun a => ?_) (fun a => ?_)
  · have hj : j < l.length := by simp only at a; omega
    obtain ⟨k1, k2⟩ := hf _ (List.getElem_mem hj)
    have el : ((l[j].pages.map i64).length : Int) = (l[j].pages.length : Int) := by rw [List.length_map]
    conv => whnf
    refine ixL freed_cells hj hz ?_
    conv => whnf
    refine stI (get_last _ _) (by rfl) (by rfl) (by rfl) (by rfl) ?_
    have good : ∀ {Q : Ex → LS → Prop} (s' : LS), LS.sub ⟨[(0, .lst sz (l.map Freed.av) c), (4, .ptr hp.length 0 0), (7, .lst sz (l.map Freed.av) c), (8, i64 l.length), (9, i64 j)], ((hp ++ [AB.cells 0 (some 109) [i64 0, .lst 0 [] true] 0]).set hp.length (.cells 0 (some 109) l[j].cells 0)), []⟩ s' →
        (pgsOk l[j].pages = true → ∀ L, subL [(0, .lst sz (l.map Freed.av) c), (7, .lst sz (l.map Freed.av) c), (8, i64 l.length), (9, i64 j)] L → Q .norm ⟨L, ((hp ++ [AB.cells 0 (some 109) [i64 0, .lst 0 [] true] 0]).set hp.length (.cells 0 (some 109) l[j].cells 0)), []⟩) → (pgsOk l[j].pages = false → ∀ L, lk L 2 = some (.bool false) → Q .ret ⟨L, ((hp ++ [AB.cells 0 (some 109) [i64 0, .lst 0 [] true] 0]).set hp.length (.cells 0 (some 109) l[j].cells 0)), []⟩) →
        OkR Try.prog (C m) cfg0.inl KK 66 7 (cutOf (c54.lp 0)) s' Q := by
      intro Q s' hs' hT hF
      refine cutI (by decide) rfl hs' ?_
      conv => whnf
      refine ldI (get_set_last _ _ _) ?_
      conv => whnf
      refine pgs_loop (by omega) l[j].pages k2 l[j].sh.sz k1 l[j].sh.c l[j] rfl (get_set_last _ _ _) (.lst sz (l.map Freed.av) c) (.lst sz (l.map Freed.av) c) (i64 l.length) (i64 j) ⟨⟨rfl, rfl, rfl, rfl, rfl, rfl, lenI i64 _, rfl⟩, rfl, rfl⟩ (fun q L hL => ?_) (fun q L hk => ?_)
      · conv => whnf
        exact hT q L hL
      · conv => whnf
        exact hF q L hk
    repeat' (conv => whnf); first
      | refine ldI (get_set_last _ _ _) ?_
      | refine ixL (l := l) (j := j - 1) freed_cells (by omega) hz ?_
      | refine clI (within_eq (by omega) _ _ _) ?_
      | refine zI (z := ((j - 1 : Nat) : Int)) (by rw [wrap_i64 (by omega) (by omega)]; omega) ?_
      | refine zI (z := ((j + 1 : Nat) : Int)) (by rw [wrap_i64 (by omega) (by omega)]; rfl) ?_
      | refine good _ ⟨⟨rfl, rfl, rfl, rfl, rfl⟩, rfl, rfl⟩ (fun _ _ _ => ?_) (fun _ _ _ => ?_)
      | refine cutI (by decide) rfl (t := ⟨[(0, .lst sz (l.map Freed.av) c), (7, .lst sz (l.map Freed.av) c), (8, i64 l.length), (9, i64 j)], _, []⟩) ⟨(by assumption), rfl, rfl⟩ ?_
      | refine nxI (j + 1, _) ⟨hj, all_next g2 ?_⟩ (by simp only; omega) ⟨⟨rfl, rfl, rfl, rfl⟩, rfl, rfl⟩
      | refine retK (by assumption) (frz_bool (all_bad hj ?_).symm)
      | refine retP rfl (frz_bool (all_bad hj ?_).symm)
      | (exfalso; omega)
      | refine brd (fun _ => ?_) (fun _ => ?_)
      | refine bre (fun _ => ?_) (fun _ => ?_)
      | refine brq (fun _ => ?_) (fun _ => ?_)
      | refine brn (fun _ => ?_) (fun _ => ?_)
      | refine br (fun _ => ?_) (fun _ => ?_)
      | refine ldI (by rfl) ?_
      | refine ldI (get_set_last _ _ _) ?_
      | refine ldI (get_last _ _) ?_
      | refine stI (by rfl) (by rfl) (by rfl) (by rfl) (by rfl) ?_
      | refine stI (get_last _ _) (by rfl) (by rfl) (by rfl) (by rfl) ?_
      | refine zI (wrap_i64 (by omega) (by omega)) ?_
    all_goals clear good
    all_goals rw [frAt_unf hj]
    all_goals try simp only [el] at *
    all_goals by_cases hj0 : j = 0
    all_goals simp_all
    all_goals omega
  · have hj : j = l.length := by simp only at a; omega
    subst hj
    conv => whnf
    refine cutI (by decide) rfl (t := ⟨[], hp, []⟩) ⟨trivial, rfl, rfl⟩ ?_
    conv => whnf
    exact retP rfl (frz_bool (all_good g2).symm)
end
end Go.Proofs
/- Contracts: nodes that are written into a builder. -/
set_option linter.unusedVariables false
set_option linter.unusedSimpArgs false
namespace Go.Proofs
open Go Go.Abs

theorem cp_take : ∀ (x y : Str), x.take (cp x y) = y.take (cp x y)
  | [], y => by simp [cp]
  | a :: x, [] => by simp [cp]
  | a :: x, b :: y => by
    simp only [cp]
    split
    · rename_i h; subst h; simp [cp_take x y]
    · rfl
theorem pre2_left (p k : Str) : pre2 p k <+: p := List.take_prefix _ _
theorem pre2_right (p k : Str) : pre2 p k <+: k := by unfold pre2; rw [cp_take]; exact List.take_prefix _ _
theorem fold_prefix : ∀ (l : List Entry) (p : Str), l.foldl (fun p e => pre2 p e.key) p <+: p ∧ ∀ e ∈ l, l.foldl (fun p e => pre2 p e.key) p <+: e.key
  | [], p => ⟨List.prefix_refl _, fun e h => by cases h⟩
  | a :: r, p => by
    obtain ⟨h1, h2⟩ := fold_prefix r (pre2 p a.key)
    refine ⟨h1.trans (pre2_left _ _), fun e he => ?_⟩
    rcases List.mem_cons.1 he with rfl | he
    · exact h1.trans (pre2_right _ _)
    · exact h2 e he
theorem shared_prefix (l : List Entry) (lv : Int) : ∀ e ∈ tailE l lv, shared l lv <+: e.key := by
  intro e he
  unfold shared
  cases ht : tailE l lv with
  | nil => rw [ht] at he; cases he
  | cons a r =>
    rw [ht] at he
    obtain ⟨h1, h2⟩ := fold_prefix r a.key
    rcases List.mem_cons.1 he with rfl | he
    · exact h1
    · exact h2 e he
def cutAt (l : List Entry) (lv : Int) (i : Nat) : Nat := if i = 0 ∧ 0 < lv then 0 else (shared l lv).length
theorem cutAt_prefix {l : List Entry} {lv : Int} {i : Nat} (hi : i < l.length) (h : ¬ (i = 0 ∧ 0 < lv)) : shared l lv <+: l[i].key := by
  refine shared_prefix l lv _ ?_
  unfold tailE
  split
  · rename_i hl
    obtain ⟨k, rfl⟩ : ∃ k, i = k + 1 := ⟨i - 1, by omega⟩
    rw [List.mem_iff_getElem]
    exact ⟨k, by simp; omega, by simp [Nat.add_comm]⟩
  · exact List.getElem_mem hi
theorem cutAt_le {l : List Entry} {lv : Int} {i : Nat} (hi : i < l.length) : cutAt l lv i ≤ l[i].key.length := by
  unfold cutAt
  split
  · omega
  · rename_i h; exact (cutAt_prefix hi h).length_le

theorem nn_form {e : Entry} (hf : formOf e ≠ 0) : e.Nn ∧ e.key.length ≤ 48 ∧ e.val.length ≤ 64 := by
  have hk := form_key hf
  unfold formOf at hf
  split at hf
  · exact (hf rfl).elim
  split at hf
  · rename_i h
    simp [isShort] at h
    obtain ⟨⟨⟨⟨⟨h1, h2⟩, h3⟩, h4⟩, _⟩, h5⟩ := h
    exact ⟨⟨by omega, by omega, by omega, by omega⟩, by omega, h5⟩
  split at hf
  · exact (hf rfl).elim
  rename_i hv
  simp at hv
  split at hf
  · rename_i h
    simp [isLong, numbered, within] at h
    exact ⟨⟨by omega, by omega, by omega, by omega⟩, by omega, by simp [hv]⟩
  split at hf
  · rename_i h
    simp [isNest, numbered, within] at h
    exact ⟨⟨by omega, by omega, by omega, by omega⟩, by omega, by simp [hv]⟩
  · exact (hf rfl).elim
theorem nn_branch {e : Entry} (h : branches e = true) : e.Nn ∧ e.key.length ≤ 48 ∧ e.val.length ≤ 64 := by
  simp [branches, numbered, within] at h
  obtain ⟨⟨⟨⟨⟨h1, h2⟩, h3⟩, h4⟩, h5⟩, h6⟩ := h
  exact ⟨⟨by omega, by omega, by omega, by omega⟩, by omega, by simp [h2]⟩
theorem valid_nn {l : List Entry} {lv : Int} (hv : valid l lv = true) : ∀ e ∈ l, e.Nn ∧ e.key.length ≤ 48 ∧ e.val.length ≤ 64 := by
  obtain ⟨h1, h2, h3, h4⟩ := valid_iff.1 hv
  intro e he
  obtain ⟨j, hj, rfl⟩ := List.getElem_of_mem he
  have := h4 j hj
  rw [vAt_unf hj] at this
  by_cases e0 : lv = 0
  · subst e0
    simp at this
    exact nn_form this.1
  · simp [e0] at this
    exact nn_branch this.1.1

def entsB (l : List Entry) (lv : Int) (k : Nat) : Str := (List.range k).flatMap fun i => entB (cutAt l lv i) (l.getD i default) lv
def offsB (l : List Entry) (lv : Int) (base k : Nat) : Str := (List.range k).flatMap fun i => num (base + (entsB l lv i).length) 2
def nodeB (tree lv : Int) (top : Bool) (l : List Entry) (base : Nat) : Str :=
  num tree.toNat 1 ++ (num lv.toNat 1 ++ (num (if top then 1 else 0) 1 ++ (num (shared l lv).length 1 ++ (num l.length 2 ++ (shared l lv ++ (offsB l lv (base + 6 + (shared l lv).length + 2 * l.length) l.length ++ entsB l lv l.length))))))
theorem entsB_succ (l : List Entry) (lv : Int) {k : Nat} (hk : k < l.length) : entsB l lv (k + 1) = entsB l lv k ++ entB (cutAt l lv k) l[k] lv := by
  unfold entsB
  rw [List.range_succ, List.flatMap_append, List.flatMap_cons, List.flatMap_nil, List.append_nil, ← getD_at hk]
theorem offsB_succ (l : List Entry) (lv : Int) (base k : Nat) : offsB l lv base (k + 1) = offsB l lv base k ++ num (base + (entsB l lv k).length) 2 := by
  unfold offsB
  rw [List.range_succ, List.flatMap_append, List.flatMap_cons, List.flatMap_nil, List.append_nil]
theorem offsB_len (l : List Entry) (lv : Int) (base : Nat) : ∀ k, (offsB l lv base k).length = 2 * k
  | 0 => rfl
  | k + 1 => by rw [offsB_succ, List.length_append, offsB_len l lv base k, num_len]; omega
theorem entB_len (c : Nat) (e : Entry) (lv : Int) : (entB c e lv).length ≤ 27 + e.key.length + e.val.length ∧ 1 ≤ (entB c e lv).length := by
  have := restB_len e lv
  unfold entB
  simp only [List.length_append, num_len, List.length_drop]
  omega
theorem entsB_len {l : List Entry} {lv : Int} (hv : valid l lv = true) : ∀ k, k ≤ l.length → (entsB l lv k).length ≤ 140 * k
  | 0, _ => by simp [entsB]
  | k + 1, hk => by
    have h1 := entsB_len hv k (by omega)
    have h2 := entB_len (cutAt l lv k) l[k] lv
    have h3 := valid_nn hv _ (List.getElem_mem (show k < l.length by omega))
    rw [entsB_succ l lv (by omega), List.length_append]
    omega

theorem Wrote.other {hp h h' : AHeap} {a b : Nat} {F G GA GA' : List Nat} {s sA : Str} (w : Wrote hp h b F G s) (v : Wrote h h' a GA GA' sA) (h1 : ∀ x ∈ GA, hp.length ≤ x) (h2 : ∀ x ∈ G, x ∉ GA) : Wrote hp h' b F G s :=
  ⟨w.1.stays v.2.1 h2, w.2.1.trans v.2.1 (fun x hx => .inr (h1 x hx)), w.2.2⟩
/-- Two builders that have nothing in common. -/
theorem Wrote.apart {h h' : AHeap} {b : Nat} {F F' GA : List Nat} {s : Str} (w : Wrote h h' b F F' s) (hd : ∀ x ∈ GA, x ∉ F) (hl : ∀ x ∈ GA, x < h.length) : ∀ x ∈ GA, x ∉ F' := fun x hx hf => by
  rcases w.2.2 x hf with q | q
  · exact hd x hx q
  · have := hl x hx; omega
end Go.Proofs
/- Contracts: nodes that are written into a builder (the walk). -/
set_option linter.unusedVariables false
set_option linter.unusedSimpArgs false
namespace Go.Proofs
open Go Go.Abs
def zeroE : Entry := ⟨[], [], 0, 0, 0, 0, Dg.zero⟩
def nodeXs (tree lv : Int) (top : Bool) (l : List Entry) (sz : Nat) (c : Bool) : List AV := [i64 tree, i64 lv, .bool top, .lst sz (l.map Entry.av) c]
section
variable {n : Nat} {hp : AHeap} {b : Nat} {bs : Str} {F : List Nat} {K X : AV → AHeap → Prop}

theorem node_eq (hn : 5 ≤ n) (w : BW hp b bs F) (tree lv : Int) (top : Bool) (h0 : 0 ≤ tree) (l : List Entry) (sz : Nat) (hz : l ≠ [] → sz = 22) (c : Bool) (hv : valid l lv = true) (hl : l.length ≤ 1000) (hbs : bs.length ≤ 1000) :
    ∃ hp' F', C n 100 [.agg (nodeXs tree lv top l sz c), .ptr b 0 0] hp = some (.ret (.tup []), hp') ∧ Wrote hp hp' b F F' (bs ++ nodeB tree lv top l bs.length) := by
  obtain ⟨m, rfl⟩ : ∃ m, n = m + 1 := ⟨n - 1, by omega⟩
  have := fun_inlR (n := m) (c := cfg0) (args := [.agg (nodeXs tree lv top l sz c), .ptr b 0 0]) (h := hp) (R := fun v hp' => v = .tup [] ∧ ∃ F', Wrote hp hp' b F F' (bs ++ nodeB tree lv top l bs.length)) F100 rfl rfl ?_
  · obtain ⟨v, hp', e, rfl, F', hW⟩ := this
    exact ⟨hp', F', e, hW⟩
  obtain ⟨⟨lv0, lv20⟩, hne, _, _⟩ := valid_iff.1 hv
  have hnn := valid_nn hv
  have hpre := shared_len hv
  obtain ⟨w1, e1, ne1⟩ := w.app (.cells 0 (some 115) (nodeXs tree lv top l sz c) 0)
  conv => whnf
  refine ldI e1 ?_
  conv => whnf
  refine ldI e1 ?_
  conv => whnf
  refine clI (shared_eq (n := m) (by omega) l (by omega) (fun e h => by have := hnn e h; exact ⟨by omega, by omega⟩) lv (valid_tail hv) sz hz c) ?_
  conv => whnf
  refine ldI e1 ?_
  conv => whnf
  refine numC (n := m) (hp := hp ++ [.cells 0 (some 115) (nodeXs tree lv top l sz c) 0]) (by omega) w1 tree h0 1 (by omega) (by omega) fun h2 F2 w2 => ?_
  have e2 := (w2.keep e1 ne1).1
  have ne2 := (w2.keep e1 ne1).2
  conv => whnf
  refine ldI e2 ?_
  conv => whnf
  refine numC (n := m) (hp := h2) (by omega) w2.1 lv (by omega) 1 (by omega) (by simp only [List.length_append, num_len]; omega) fun h3 F3 w3 => ?_
  have e3 := (w3.keep e2 ne2).1
  have ne3 := (w3.keep e2 ne2).2
  have rest : ∀ (k : Int) (s' : LS), k = (if top then 1 else 0) → LS.sub ⟨[(1, .ptr b 0 0), (2, .ptr hp.length 0 0), (4, .str (shared l lv)), (5, i64 k)], h3, []⟩ s' →
      OkR Try.prog (C m) cfg0.inl KK 86 7 (cutOf c100) s' (RetQ Try.prog [] fun v hp' => v = .tup [] ∧ ∃ F', Wrote hp hp' b F F' (bs ++ nodeB tree lv top l bs.length)) := by
    intro k s' hk hs'
    have hk01 : 0 ≤ k ∧ k ≤ 1 := by subst hk; split <;> omega
    refine cutI (by decide) rfl hs' ?_
    conv => whnf
    refine numC (n := m) (hp := h3) (by omega) w3.1 k (by omega) 1 (by omega) (by simp only [List.length_append, num_len]; omega) fun h4 F4 w4 => ?_
    have e4 := (w4.keep e3 ne3).1
    have ne4 := (w4.keep e3 ne3).2
    conv => whnf
    refine numC (n := m) (hp := h4) (by omega) w4.1 ((shared l lv).length : Int) (by omega) 1 (by omega) (by simp only [List.length_append, num_len]; omega) fun h5 F5 w5 => ?_
    have e5 := (w5.keep e4 ne4).1
    have ne5 := (w5.keep e4 ne4).2
    conv => whnf
    refine ldI e5 ?_
    conv => whnf
    have el : ((l.map Entry.av).length : Int) = (l.length : Int) := by rw [List.length_map]
    rw [el]
    refine numC (n := m) (hp := h5) (by omega) w5.1 (l.length : Int) (by omega) 2 (by omega) (by simp only [List.length_append, num_len]; omega) fun h6 F6 w6 => ?_
    have e6 := (w6.keep e5 ne5).1
    have ne6 := (w6.keep e5 ne5).2
    conv => whnf
    refine strC (n := m) (hp := h6) (by omega) w6.1 (shared l lv) (by simp only [List.length_append, num_len]; omega) fun h7 F7 w7 => ?_
    have e7 := (w7.keep e6 ne6).1
    have ne7 := (w7.keep e6 ne6).2
    have W7 := ((w2.trans (w3.trans (w4.trans (w5.trans (w6.trans w7))))).of_app)
    obtain ⟨w8, a8, na8⟩ := w7.1.app (.cells 0 (some 68) [.nilp, .lst 0 [] true] 0)
    have e8 := get_app (x := .cells 0 (some 68) [.nilp, .lst 0 [] true] 0) e7
    have hA : h7.length ∉ F7 := na8
    have hlen : hp.length ≤ h7.length := W7.2.1.1
    have hlen8 : (bs ++ num tree.toNat 1 ++ num lv.toNat 1 ++ num k.toNat 1 ++ num ((shared l lv).length : Int).toNat 1 ++ num (l.length : Int).toNat 2 ++ shared l lv).length = bs.length + 6 + (shared l lv).length := by
      simp only [List.length_append, num_len]
    conv => whnf
    refine ldI e8 ?_
    conv => whnf
    rw [el]
    refine zI (z := 2 * (l.length : Int)) (wrap_i64 (by omega) (by omega)) ?_
    conv => whnf
    refine clI (Len_eq (n := m) (by omega) w8) ?_
    conv => whnf
    refine ⟨?_, ?_⟩
    · conv => whnf
      exact ldI e8 rfl
    conv => whnf
    refine zI (z := ((bs.length + 6 + (shared l lv).length + 2 * l.length : Nat) : Int)) (by rw [hlen8, wrap_i64 (by omega) (by omega)]; omega) ?_
    conv => whnf
    refine ldI e8 ?_
    conv => whnf
    refine loopI (by decide) rfl (α := Nat × List Nat × List Nat × AHeap) (fun x => ⟨[(1, .ptr b 0 0), (2, .ptr hp.length 0 0), (4, .str (shared l lv)), (6, .ptr h7.length 0 0), (7, i64 (bs.length + 6 + (shared l lv).length + 2 * l.length : Nat)), (53, .lst sz (l.map Entry.av) c), (54, i64 l.length), (55, i64 x.1)], x.2.2.2, []⟩)
      (fun x => x.1 ≤ l.length ∧ Wrote hp x.2.2.2 b F x.2.1 (bs ++ (num tree.toNat 1 ++ (num lv.toNat 1 ++ (num k.toNat 1 ++ (num (shared l lv).length 1 ++ (num l.length 2 ++ (shared l lv ++ offsB l lv (bs.length + 6 + (shared l lv).length + 2 * l.length) x.1))))))) ∧ BW x.2.2.2 h7.length (entsB l lv x.1) x.2.2.1 ∧
        (∀ y ∈ x.2.2.1, hp.length < y ∧ y ∉ x.2.1) ∧ x.2.2.2[hp.length]? = some (.cells 0 (some 115) (nodeXs tree lv top l sz c) 0) ∧ hp.length ∉ x.2.1) (fun x => l.length - x.1) (0, F7, [h7.length], h7 ++ [.cells 0 (some 68) [.nilp, .lst 0 [] true] 0]) ⟨⟨rfl, rfl, rfl, rfl, rfl, rfl, lenI _ _, rfl⟩, rfl, rfl⟩ ?_ (by show l.length - 0 < KK; simp only [KK]; omega) ?_
    · refine ⟨Nat.zero_le _, ?_, ⟨_, _, _, a8, .inl rfl, .inr rfl, .inl ⟨rfl, rfl, rfl⟩⟩, ?_, e8, ne7⟩
      · have W8 : Wrote hp (h7 ++ [.cells 0 (some 68) [.nilp, .lst 0 [] true] 0]) b F F7 _ := ⟨w8, W7.2.1.trans ((Keep.app h7 _ []).mono (by simp)) (fun x hx => .inl hx), W7.2.2⟩
        simpa [offsB, List.append_assoc] using W8
      · intro y hy
        simp at hy
        subst hy
        exact ⟨lt_of_get e7, hA⟩
    rintro ⟨j, G, GA, h⟩ ⟨g1, g2, g3, g4, g5, g6⟩
    simp only at g1 g2 g3 g4 g5 g6
    conv => whnf
    refine brd (fun a => ?_) (fun a => ?_)
    · have hj : j < l.length := by simp only at a; omega
      have hk' := hnn _ (List.getElem_mem hj)
      have hE1 := entsB_len hv j (by omega)
      have hO := offsB_len l lv (bs.length + 6 + (shared l lv).length + 2 * l.length) j
      obtain ⟨u0, x0, nx0⟩ := g2.1.app (.cells 0 (some 51) l[j].cells 0)
      have v0 := g3.stays (Keep.app h (.cells 0 (some 51) l[j].cells 0) []) (by simp)
      have nxA : h.length ∉ GA := fun q => by have := g3.lt _ q; omega
      have y0 := get_app (x := .cells 0 (some 51) l[j].cells 0) g5
      have es : (h ++ [AB.cells 0 (some 51) zeroE.cells 0]).set h.length (.cells 0 (some 51) l[j].cells 0) = h ++ [.cells 0 (some 51) l[j].cells 0] := by simp
      have u1 := es ▸ u0
      have x1 := es ▸ x0
      have v1 := es ▸ v0
      have y1 := es ▸ y0
      conv => whnf
      refine ixL entry_cells hj hz ?_
      conv => whnf
      refine stI (get_last _ _) (by rfl) (by rfl) (by rfl) (by rfl) ?_
      conv => whnf
      refine clI (Len_eq (n := m) (hp := (h ++ [AB.cells 0 (some 51) zeroE.cells 0]).set h.length (.cells 0 (some 51) l[j].cells 0)) (by omega) v1) ?_
      conv => whnf
      refine zI (z := (((bs.length + 6 + (shared l lv).length + 2 * l.length) + (entsB l lv j).length : Nat) : Int)) (by rw [wrap_i64 (by omega) (by omega)]; omega) ?_
      conv => whnf
      refine numC (n := m) (hp := (h ++ [AB.cells 0 (some 51) zeroE.cells 0]).set h.length (.cells 0 (some 51) l[j].cells 0)) (by omega) u1 _ (by omega) 2 (by omega) (by simp only [List.length_append, num_len, hO]; omega) fun h9 G9 w9 => ?_
      have x9 := (w9.keep x1 nx0).1
      have y9 := (w9.keep y1 g6).1
      have ny9 := (w9.keep y1 g6).2
      have v9 := v1.stays w9.2.1 fun x hx => (g4 x hx).2
      have w9' : Wrote h h9 b G G9 _ := Wrote.of_app (es ▸ w9)
      have W9 := g2.trans w9'
      have ap : ∀ x ∈ GA, x ∉ G9 := w9'.apart (fun x hx => (g4 x hx).2) g3.lt
      have call : ∀ {Q : Ex → LS → Prop} (cc : Nat) (s' : LS), cc = cutAt l lv j → LS.sub ⟨[(1, .ptr b 0 0), (2, .ptr hp.length 0 0), (4, .str (shared l lv)), (6, .ptr h7.length 0 0), (7, i64 ((bs.length + 6 + (shared l lv).length + 2 * l.length) : Nat)), (9, .ptr h.length 0 0), (10, i64 cc), (53, .lst sz (l.map Entry.av) c), (54, i64 l.length), (55, i64 j)], h9, []⟩ s' →
          (∀ h10 GA10, Wrote h9 h10 h7.length GA GA10 (entsB l lv j ++ entB (cutAt l lv j) l[j] lv) → ∀ L, subL [(1, .ptr b 0 0), (2, .ptr hp.length 0 0), (4, .str (shared l lv)), (6, .ptr h7.length 0 0), (7, i64 ((bs.length + 6 + (shared l lv).length + 2 * l.length) : Nat)), (53, .lst sz (l.map Entry.av) c), (54, i64 l.length), (55, i64 j)] L → Q .norm ⟨L, h10, []⟩) →
          OkR Try.prog (C m) cfg0.inl KK 86 7 (cutOf (c100.lp 0)) s' Q := by
        intro Q cc s' hcc hs' hQ
        subst hcc
        obtain ⟨h10, GA10, e10, w10⟩ := entry_eq (n := m) (by omega) v9 (nodeXs tree lv top l sz c) lv rfl rfl l[j] hk'.1 (cutAt l lv j) (cutAt_le hj) (by omega)
        refine cutI (by decide) rfl hs' ?_
        conv => whnf
        refine ldI y9 ?_
        conv => whnf
        refine ldI x9 ?_
        conv => whnf
        refine clI e10 ?_
        exact hQ h10 GA10 w10 _ ⟨rfl, rfl, rfl, rfl, rfl, rfl, rfl, rfl⟩
      have next : ∀ (L : LT) (h10 : AHeap) (GA10 : List Nat), Wrote h9 h10 h7.length GA GA10 (entsB l lv j ++ entB (cutAt l lv j) l[j] lv) →
          (Wrote hp h10 b F G9 (bs ++ (num tree.toNat 1 ++ (num lv.toNat 1 ++ (num k.toNat 1 ++ (num (shared l lv).length 1 ++ (num l.length 2 ++ (shared l lv ++ offsB l lv (bs.length + 6 + (shared l lv).length + 2 * l.length) (j + 1)))))))) ∧ BW h10 h7.length (entsB l lv (j + 1)) GA10 ∧
          (∀ y ∈ GA10, hp.length < y ∧ y ∉ G9) ∧ h10[hp.length]? = some (.cells 0 (some 115) (nodeXs tree lv top l sz c) 0) ∧ hp.length ∉ G9) := by
        intro L h10 GA10 w10
        refine ⟨?_, ?_, ?_, ?_, ny9⟩
        · have := W9.other w10 (fun x hx => by have := (g4 x hx).1; omega) (fun x hx q => ap x q hx)
          rw [offsB_succ]
          rw [Int.toNat_natCast] at this
          simpa only [List.append_assoc] using this
        · rw [entsB_succ l lv hj]; exact w10.1
        · intro y hy
          rcases w10.2.2 y hy with q | q
          · exact ⟨(g4 y q).1, ap y q⟩
          · refine ⟨?_, fun q2 => ?_⟩
            · have := lt_of_get y9; omega
            · have := W9.1.lt y q2; omega
        · exact (w10.keep y9 (fun q => by have := (g4 _ q).1; omega)).1
      conv => whnf
      refine bre (fun e => ?_) (fun e => ?_)
      · conv => whnf
        refine ldI y9 ?_
        conv => whnf
        refine brd (fun d => ?_) (fun d => ?_)
        · refine call 0 _ (by unfold cutAt; rw [if_pos ⟨by omega, d⟩]) ⟨⟨rfl, rfl, rfl, rfl, rfl, rfl, rfl, rfl, rfl, rfl⟩, rfl, rfl⟩ fun h10 GA10 w10 L hL => ?_
          refine cutI (by decide) rfl (t := ⟨[(1, .ptr b 0 0), (2, .ptr hp.length 0 0), (4, .str (shared l lv)), (6, .ptr h7.length 0 0), (7, i64 (bs.length + 6 + (shared l lv).length + 2 * l.length : Nat)), (53, .lst sz (l.map Entry.av) c), (54, i64 l.length), (55, i64 j)], h10, []⟩) ⟨hL, rfl, rfl⟩ ?_
          conv => whnf
          refine zI (z := ((j + 1 : Nat) : Int)) (by rw [wrap_i64 (by omega) (by omega)]; rfl) ?_
          exact nxI (j + 1, G9, GA10, h10) ⟨hj, next [] h10 GA10 w10⟩ (by simp only; omega) ⟨⟨rfl, rfl, rfl, rfl, rfl, rfl, rfl, rfl⟩, rfl, rfl⟩
        · refine call (shared l lv).length _ (by unfold cutAt; rw [if_neg (fun q => d q.2)]) ⟨⟨rfl, rfl, rfl, rfl, rfl, rfl, rfl, rfl, rfl, rfl⟩, rfl, rfl⟩ fun h10 GA10 w10 L hL => ?_
          refine cutI (by decide) rfl (t := ⟨[(1, .ptr b 0 0), (2, .ptr hp.length 0 0), (4, .str (shared l lv)), (6, .ptr h7.length 0 0), (7, i64 (bs.length + 6 + (shared l lv).length + 2 * l.length : Nat)), (53, .lst sz (l.map Entry.av) c), (54, i64 l.length), (55, i64 j)], h10, []⟩) ⟨hL, rfl, rfl⟩ ?_
          conv => whnf
          refine zI (z := ((j + 1 : Nat) : Int)) (by rw [wrap_i64 (by omega) (by omega)]; rfl) ?_
          exact nxI (j + 1, G9, GA10, h10) ⟨hj, next [] h10 GA10 w10⟩ (by simp only; omega) ⟨⟨rfl, rfl, rfl, rfl, rfl, rfl, rfl, rfl⟩, rfl, rfl⟩
      · conv => whnf
        refine call (shared l lv).length _ (by unfold cutAt; rw [if_neg (fun q => e (by omega))]) ⟨⟨rfl, rfl, rfl, rfl, rfl, rfl, rfl, rfl, rfl, rfl⟩, rfl, rfl⟩ fun h10 GA10 w10 L hL => ?_
        refine cutI (by decide) rfl (t := ⟨[(1, .ptr b 0 0), (2, .ptr hp.length 0 0), (4, .str (shared l lv)), (6, .ptr h7.length 0 0), (7, i64 (bs.length + 6 + (shared l lv).length + 2 * l.length : Nat)), (53, .lst sz (l.map Entry.av) c), (54, i64 l.length), (55, i64 j)], h10, []⟩) ⟨hL, rfl, rfl⟩ ?_
        conv => whnf
        refine zI (z := ((j + 1 : Nat) : Int)) (by rw [wrap_i64 (by omega) (by omega)]; rfl) ?_
        exact nxI (j + 1, G9, GA10, h10) ⟨hj, next [] h10 GA10 w10⟩ (by simp only; omega) ⟨⟨rfl, rfl, rfl, rfl, rfl, rfl, rfl, rfl⟩, rfl, rfl⟩
    · have hj : j = l.length := by simp only at a; omega
      subst hj
      have hne2 : entsB l lv l.length ≠ [] := by
        obtain ⟨q, hq⟩ : ∃ q, l.length = q + 1 := ⟨l.length - 1, by cases l with | nil => exact (hne rfl).elim | cons => simp⟩
        rw [hq, entsB_succ l lv (by omega)]
        intro e
        have := congrArg List.length e
        have h2 := (entB_len (cutAt l lv q) (l[q]'(by omega)) lv).2
        rw [List.length_append] at this
        simp only [List.length_nil] at this
        omega
      have hE1 := entsB_len hv l.length (by omega)
      have hO := offsB_len l lv (bs.length + 6 + (shared l lv).length + 2 * l.length) l.length
      obtain ⟨h10, e10, w10⟩ := String_eq (n := m) (by omega) g3 hne2 (by omega)
      have W10 := g2.other w10 (fun x hx => by have := (g4 x hx).1; omega) (fun x hx q => (g4 x q).2 hx)
      conv => whnf
      refine cutI (by decide) rfl (t := ⟨[(1, .ptr b 0 0), (6, .ptr h7.length 0 0)], h, []⟩) ⟨⟨rfl, rfl⟩, rfl, rfl⟩ ?_
      conv => whnf
      refine clI e10 ?_
      conv => whnf
      refine strC (n := m) (hp := h10) (by omega) W10.1 (entsB l lv l.length) (by simp only [List.length_append, num_len, hO]; omega) fun h11 F11 w11 => ?_
      conv => whnf
      refine ⟨rfl, [], rfl, rfl, F11, ?_⟩
      have := W10.trans w11
      have ht : k.toNat = if top then 1 else 0 := by subst hk; cases top <;> rfl
      unfold nodeB
      rw [← ht]
      simpa [List.append_assoc] using this
  conv => whnf
  refine ldI e3 ?_
  refine br (fun a => ?_) (fun a => ?_)
  · subst a
    conv => whnf
    exact rest 1 _ rfl ⟨⟨rfl, rfl, rfl, rfl⟩, rfl, rfl⟩
  · subst a
    conv => whnf
    exact rest 0 _ rfl ⟨⟨rfl, rfl, rfl, rfl⟩, rfl, rfl⟩
end
end Go.Proofs
/- Contracts: pages that are well-formed; their bodies; the ends of blocks. -/
set_option linter.unusedVariables false
set_option linter.unusedSimpArgs false
namespace Go.Proofs
open Go Go.Abs
section
variable {n : Nat} {h : AHeap}
theorem check_eq (hn : 7 ≤ n) (p : Page) (ok : p.Ok) : C n 24 [p.av] h = some (.ret (i64 (if p.check then 0 else 2)), h) := by
  obtain ⟨m, rfl⟩ : ∃ m, n = m + 1 := ⟨n - 1, by omega⟩
  obtain ⟨o1, o2, o3, o4, o5, o6, o7⟩ := ok
  refine fun_pure F24 rfl rfl rfl (by simp [pureBs, page_pure]) ?_
  repeat' (conv => whnf); first
    | refine clI (numbered_eq (by omega) _) ?_
    | refine clI (within_eq (by omega) _ _ _) ?_
    | refine clI (fits_eq (by omega) p.entries o3 o6 p.level p.esh.sz o1 p.esh.c) ?_
    | refine clI (plain_eq (by omega) p) ?_
    | refine clI (linked_eq (by omega) _) ?_
    | refine clI (freed_eq (by omega) p.freed o4 o7 p.fsh.sz o2 p.fsh.c) ?_
    | refine clI (listed_eq (by omega) p.freed o4 (freed_few (by assumption) o7) p.fsh.sz o2 p.fsh.c) ?_
    | refine eqI (eq_bool _ _) ?_
    | refine retP rfl (frz_int ?_)
    | refine brd (fun _ => ?_) (fun _ => ?_)
    | refine bre (fun _ => ?_) (fun _ => ?_)
    | refine brq (fun _ => ?_) (fun _ => ?_)
    | refine brn (fun _ => ?_) (fun _ => ?_)
    | refine br (fun _ => ?_) (fun _ => ?_)
    | refine ldI (by rfl) ?_
    | refine ldI (get_set_last _ _ _) ?_
    | refine ldI (get_last _ _) ?_
    | refine stI (by rfl) (by rfl) (by rfl) (by rfl) (by rfl) ?_
    | refine stI (get_last _ _) (by rfl) (by rfl) (by rfl) (by rfl) ?_
    | refine cutS (by decide) rfl ?_
  all_goals clear o1 o2 o3 o4 o5 o6 o7
  all_goals simp_all [Page.check]

def Page.body (p : Page) : AV := if p.kind = 3 then .ifc 111 (.agg [i64 p.next, .str p.data]) else if p.kind = 4 then .ifc 113 (.agg [i64 p.next, .lst p.fsh.sz (p.freed.map Freed.av) p.fsh.c]) else .ifc 115 (.agg (nodeXs p.tree p.level p.top p.entries p.esh.sz p.esh.c))
theorem body_eq (hn : 1 ≤ n) (p : Page) : C n 28 [p.av] h = some (.ret p.body, h) := by
  obtain ⟨m, rfl⟩ : ∃ m, n = m + 1 := ⟨n - 1, by omega⟩
  have fe : ∀ n, FrzOk (n + 3) (.lst p.esh.sz (p.entries.map Entry.av) p.esh.c) := fun n => frzOk_lst fun x hx => by
    obtain ⟨e, _, rfl⟩ := List.mem_map.1 hx
    exact frzOk_agg fun y hy => by
      simp [Entry.cells, Dg.cells] at hy
      rcases hy with rfl | rfl | rfl | rfl | rfl | rfl | hy
      · exact frzOk_str
      · exact frzOk_str
      · exact frzOk_int
      · exact frzOk_int
      · exact frzOk_int
      · exact frzOk_int
      · rcases hy with rfl | rfl | rfl | rfl | rfl | rfl | rfl | rfl | rfl | rfl | rfl | rfl | rfl | rfl | rfl | rfl <;> exact frzOk_int
  have ff : ∀ n, FrzOk (n + 5) (.lst p.fsh.sz (p.freed.map Freed.av) p.fsh.c) := fun n => frzOk_lst fun x hx => by
    obtain ⟨f, _, rfl⟩ := List.mem_map.1 hx
    exact frzOk_agg fun y hy => by
      simp [Freed.cells] at hy
      rcases hy with rfl | rfl
      · exact frzOk_int
      · exact frzOk_lst fun z hz => by
          obtain ⟨k, _, rfl⟩ := List.mem_map.1 hz
          exact frzOk_int
  refine fun_pure F28 rfl rfl rfl (by simp [pureBs, page_pure]) ?_
  repeat' (conv => whnf); first
    | refine retP rfl ?_
    | refine brd (fun _ => ?_) (fun _ => ?_)
    | refine bre (fun _ => ?_) (fun _ => ?_)
    | refine brq (fun _ => ?_) (fun _ => ?_)
    | refine brn (fun _ => ?_) (fun _ => ?_)
    | refine br (fun _ => ?_) (fun _ => ?_)
    | refine ldI (by rfl) ?_
    | refine ldI (get_set_last _ _ _) ?_
    | refine ldI (get_last _ _) ?_
    | refine stI (by rfl) (by rfl) (by rfl) (by rfl) (by rfl) ?_
    | refine stI (get_last _ _) (by rfl) (by rfl) (by rfl) (by rfl) ?_
    | refine cutS (by decide) rfl ?_
  · show frz _ 64 (.ifc 111 (.agg [i64 p.next, .str p.data])) = some p.body
    refine (frzOk_ifc (frzOk_agg (n := 62) fun y hy => ?_) _).trans (congrArg some ?_)
    · simp at hy
      rcases hy with rfl | rfl
      · exact frzOk_int
      · exact frzOk_str
    · simp_all [Page.body]
  · show frz _ 64 (.ifc 113 (.agg [i64 p.next, .lst p.fsh.sz (p.freed.map Freed.av) p.fsh.c])) = some p.body
    refine (frzOk_ifc (frzOk_agg (n := 62) fun y hy => ?_) _).trans (congrArg some ?_)
    · simp at hy
      rcases hy with rfl | rfl
      · exact frzOk_int
      · exact ff 57
    · simp_all [Page.body]
  · show frz _ 64 (.ifc 115 (.agg (nodeXs p.tree p.level p.top p.entries p.esh.sz p.esh.c))) = some p.body
    refine (frzOk_ifc (frzOk_agg (n := 62) fun y hy => ?_) _).trans (congrArg some ?_)
    · simp [nodeXs] at hy
      rcases hy with rfl | rfl | rfl | rfl
      · exact frzOk_int
      · exact frzOk_int
      · exact frzOk_bool
      · exact fe 59
    · simp_all [Page.body]

theorem low_u32 (c : UInt32) (k : Nat) (hk : k ≤ 3) : IntKind.u8.wrap (((c.toNat : Int)).fdiv (2 ^ (min ((8 * k : Nat) : Int).toNat IntKind.u32.bits))) = ((UInt8.ofNat (c.toNat / 256 ^ k)).toNat : Int) := by
  have h1 : min ((8 * k : Nat) : Int).toNat IntKind.u32.bits = 8 * k := by show min ((8 * k : Nat) : Int).toNat 32 = 8 * k; omega
  rw [h1, Int.fdiv_eq_ediv_of_nonneg _ (by exact Int.pow_nonneg (by decide))]
  have h2 : ((c.toNat : Int)) / (2 ^ (8 * k) : Int) = ((c.toNat / 256 ^ k : Nat) : Int) := by
    rw [show (256 : Nat) = 2 ^ 8 by rfl, ← Nat.pow_mul]
    norm_cast
  rw [h2]
  show (if (IntKind.u8.signed && decide (((c.toNat / 256 ^ k : Nat) : Int) % (2 ^ 8 : Int) ≥ (2 ^ (8 - 1) : Int))) = true then ((c.toNat / 256 ^ k : Nat) : Int) % (2 ^ 8 : Int) - 2 ^ 8 else ((c.toNat / 256 ^ k : Nat) : Int) % (2 ^ 8 : Int)) = _
  rw [if_neg (by simp [IntKind.signed]), UInt8.toNat_ofNat']
  omega
/-- The last four bytes of a block. -/
def crcB (s : Str) : Str := [UInt8.ofNat ((crc s).toNat / 256 ^ 0), UInt8.ofNat ((crc s).toNat / 256 ^ 1), UInt8.ofNat ((crc s).toNat / 256 ^ 2), UInt8.ofNat ((crc s).toNat / 256 ^ 3)]
theorem ended_eq (hn : 2 ≤ n) (s : Str) (hs : s.length < 1099511627776) : C n 32 [.str s] h = some (.ret (.str (s ++ crcB s)), h) := by
  obtain ⟨m, rfl⟩ : ∃ m, n = m + 1 := ⟨n - 1, by omega⟩
  refine fun_pure F32 rfl rfl rfl rfl ?_
  conv => whnf
  refine clI (crcC_eq (by omega) s hs) ?_
  conv => whnf
  refine zI (z := ((UInt8.ofNat ((crc s).toNat / 256 ^ 0)).toNat : Int)) (by rw [low_u8, Nat.pow_zero, Nat.div_one]; rfl) ?_
  conv => whnf
  refine ⟨by decide, _, rfl, ?_⟩
  conv => whnf
  refine zI (low_u32 (crc s) 1 (by omega)) ?_
  conv => whnf
  refine ⟨by decide, _, rfl, ?_⟩
  conv => whnf
  refine zI (low_u32 (crc s) 2 (by omega)) ?_
  conv => whnf
  refine ⟨by decide, _, rfl, ?_⟩
  conv => whnf
  refine zI (low_u32 (crc s) 3 (by omega)) ?_
  conv => whnf
  refine ⟨rfl, ?_⟩
  conv => whnf
  refine ⟨_, crcB s, first_lst _ (crcB s) true, toBytes_map _, ?_⟩
  conv => whnf
  refine ⟨by simp [crcB]; omega, ?_⟩
  conv => whnf
  exact retP rfl (frz_str rfl)
end
end Go.Proofs
