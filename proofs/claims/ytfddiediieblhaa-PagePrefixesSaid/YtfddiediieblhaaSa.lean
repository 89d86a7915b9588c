/- The looked-up text of the functions of the checksum. -/
import Derived.Test.YtfddiediieblhaaT0
namespace Go.Proofs
open Go Go.Abs
-- 104 functions
/- f60 understory/digest.CRC: 5 temporaries, depth 3, 1 parameters, results [t2] -/
def c60 : RC :=
  (.seq (.ops [⟨some 2, none, .op (.mv (.c (.int .u32 0)))⟩])
  (.seq (.ops [⟨some 3, none, .op (.mv (.t 0))⟩,
    ⟨some 4, none, .op (.callF 72 [(.c (.int .u32 0)), (.t 3)])⟩,
    ⟨some 2, none, .op (.mv (.t 4))⟩])
  .ret))
theorem F60 : FI 60 1 5 3 [.tmp 2] c60 := ⟨⟨Try.f60, Try.func60, by kernel_rfl, by kernel_rfl, by kernel_rfl⟩, by kernel_rfl, by decide, by kernel_rfl⟩
/- f72 understory/digest.Extend: 30 temporaries, depth 5, 2 parameters, results [t4] -/
def c72 : RC :=
  (.seq (.ops [⟨some 4, none, .op (.mv (.c (.int .u32 0)))⟩])
  (.seq (.ops [⟨some 8, none, .op (.callF 77 [])⟩,
    ⟨some 5, none, .op (.alloc 149 [(.int .u32 0), (.int .u32 0), (.int .u32 0), (.int .u32 0), (.int .u32 0), (.int .u32 0), (.int .u32 0), (.int .u32 0), (.int .u32 0), (.int .u32 0), (.int .u32 0), (.int .u32 0), (.int .u32 0), (.int .u32 0), (.int .u32 0), (.int .u32 0), (.int .u32 0), (.int .u32 0), (.int .u32 0), (.int .u32 0), (.int .u32 0), (.int .u32 0), (.int .u32 0), (.int .u32 0), (.int .u32 0), (.int .u32 0), (.int .u32 0), (.int .u32 0), (.int .u32 0), (.int .u32 0), (.int .u32 0), (.int .u32 0), (.int .u32 0), (.int .u32 0), (.int .u32 0), (.int .u32 0), (.int .u32 0), (.int .u32 0), (.int .u32 0), (.int .u32 0), (.int .u32 0), (.int .u32 0), (.int .u32 0), (.int .u32 0), (.int .u32 0), (.int .u32 0), (.int .u32 0), (.int .u32 0), (.int .u32 0), (.int .u32 0), (.int .u32 0), (.int .u32 0), (.int .u32 0), (.int .u32 0), (.int .u32 0), (.int .u32 0), (.int .u32 0), (.int .u32 0), (.int .u32 0), (.int .u32 0), (.int .u32 0), (.int .u32 0), (.int .u32 0), (.int .u32 0), (.int .u32 0), (.int .u32 0), (.int .u32 0), (.int .u32 0), (.int .u32 0), (.int .u32 0), (.int .u32 0), (.int .u32 0), (.int .u32 0), (.int .u32 0), (.int .u32 0), (.int .u32 0), (.int .u32 0), (.int .u32 0), (.int .u32 0), (.int .u32 0), (.int .u32 0), (.int .u32 0), (.int .u32 0), (.int .u32 0), (.int .u32 0), (.int .u32 0), (.int .u32 0), (.int .u32 0), (.int .u32 0), (.int .u32 0), (.int .u32 0), (.int .u32 0), (.int .u32 0), (.int .u32 0), (.int .u32 0), (.int .u32 0), (.int .u32 0), (.int .u32 0), (.int .u32 0), (.int .u32 0), (.int .u32 0), (.int .u32 0), (.int .u32 0), (.int .u32 0), (.int .u32 0), (.int .u32 0), (.int .u32 0), (.int .u32 0), (.int .u32 0), (.int .u32 0), (.int .u32 0), (.int .u32 0), (.int .u32 0), (.int .u32 0), (.int .u32 0), (.int .u32 0), (.int .u32 0), (.int .u32 0), (.int .u32 0), (.int .u32 0), (.int .u32 0), (.int .u32 0), (.int .u32 0), (.int .u32 0), (.int .u32 0), (.int .u32 0), (.int .u32 0), (.int .u32 0), (.int .u32 0), (.int .u32 0), (.int .u32 0), (.int .u32 0), (.int .u32 0), (.int .u32 0), (.int .u32 0), (.int .u32 0), (.int .u32 0), (.int .u32 0), (.int .u32 0), (.int .u32 0), (.int .u32 0), (.int .u32 0), (.int .u32 0), (.int .u32 0), (.int .u32 0), (.int .u32 0), (.int .u32 0), (.int .u32 0), (.int .u32 0), (.int .u32 0), (.int .u32 0), (.int .u32 0), (.int .u32 0), (.int .u32 0), (.int .u32 0), (.int .u32 0), (.int .u32 0), (.int .u32 0), (.int .u32 0), (.int .u32 0), (.int .u32 0), (.int .u32 0), (.int .u32 0), (.int .u32 0), (.int .u32 0), (.int .u32 0), (.int .u32 0), (.int .u32 0), (.int .u32 0), (.int .u32 0), (.int .u32 0), (.int .u32 0), (.int .u32 0), (.int .u32 0), (.int .u32 0), (.int .u32 0), (.int .u32 0), (.int .u32 0), (.int .u32 0), (.int .u32 0), (.int .u32 0), (.int .u32 0), (.int .u32 0), (.int .u32 0), (.int .u32 0), (.int .u32 0), (.int .u32 0), (.int .u32 0), (.int .u32 0), (.int .u32 0), (.int .u32 0), (.int .u32 0), (.int .u32 0), (.int .u32 0), (.int .u32 0), (.int .u32 0), (.int .u32 0), (.int .u32 0), (.int .u32 0), (.int .u32 0), (.int .u32 0), (.int .u32 0), (.int .u32 0), (.int .u32 0), (.int .u32 0), (.int .u32 0), (.int .u32 0), (.int .u32 0), (.int .u32 0), (.int .u32 0), (.int .u32 0), (.int .u32 0), (.int .u32 0), (.int .u32 0), (.int .u32 0), (.int .u32 0), (.int .u32 0), (.int .u32 0), (.int .u32 0), (.int .u32 0), (.int .u32 0), (.int .u32 0), (.int .u32 0), (.int .u32 0), (.int .u32 0), (.int .u32 0), (.int .u32 0), (.int .u32 0), (.int .u32 0), (.int .u32 0), (.int .u32 0), (.int .u32 0), (.int .u32 0), (.int .u32 0), (.int .u32 0), (.int .u32 0), (.int .u32 0), (.int .u32 0), (.int .u32 0), (.int .u32 0), (.int .u32 0), (.int .u32 0), (.int .u32 0), (.int .u32 0), (.int .u32 0), (.int .u32 0), (.int .u32 0), (.int .u32 0), (.int .u32 0), (.int .u32 0), (.int .u32 0), (.int .u32 0), (.int .u32 0), (.int .u32 0), (.int .u32 0), (.int .u32 0)])⟩,
    ⟨none, none, .op (.store 256 (.t 5) (.t 8))⟩])
  (.seq (.ops [⟨some 9, none, .op (.mv (.t 0))⟩,
    ⟨some 10, none, .op (.un .xor (.t 9))⟩,
    ⟨some 6, none, .op (.mv (.t 10))⟩])
  (.seq (.seq (.ops [⟨some 11, none, .op (.mv (.t 1))⟩,
    ⟨some 12, none, .op (.lenS (.t 11))⟩,
    ⟨some 13, none, .op (.mv (.c (.int .i64 0)))⟩])
  (.block 0
    (.loop
      (.seq (.ops [⟨some 14, none, .op (.bin .lss (.t 13) (.t 12))⟩])
      (.seq (.cond (.t 14)
        .skip
        (.exit 0))
      (.seq (.block 1
        (.seq (.ops [⟨some 15, none, .op (.mv (.t 13))⟩,
          ⟨some 7, none, .op (.mv (.t 15))⟩])
        (.ops [⟨some 16, none, .op (.mv (.t 6))⟩,
          ⟨some 17, none, .op (.toInt .u8 (.t 16))⟩,
          ⟨some 18, none, .op (.mv (.t 1))⟩,
          ⟨some 19, none, .op (.mv (.t 7))⟩,
          ⟨some 20, none, .op (.indexS (.t 18) (.t 19))⟩,
          ⟨some 21, none, .op (.bin .xor (.t 17) (.t 20))⟩,
          ⟨some 22, none, .op (.indexAddrA 256 1 (.t 5) (.t 21))⟩,
          ⟨some 23, none, .op (.load false 1 (.t 22))⟩,
          ⟨some 24, none, .op (.mv (.t 6))⟩,
          ⟨some 25, none, .op (.bin .shr (.t 24) (.c (.int .u64 8)))⟩,
          ⟨some 26, none, .op (.bin .xor (.t 23) (.t 25))⟩,
          ⟨some 6, none, .op (.mv (.t 26))⟩])))
      (.ops [⟨some 27, none, .op (.bin .add (.t 13) (.c (.int .i64 1)))⟩,
        ⟨some 13, none, .op (.mv (.t 27))⟩])))))))
  (.cut (.seq (.ops [⟨some 28, none, .op (.mv (.t 6))⟩,
    ⟨some 29, none, .op (.un .xor (.t 28))⟩,
    ⟨some 4, none, .op (.mv (.t 29))⟩])
  .ret))))))
theorem F72 : FI 72 2 30 5 [.tmp 4] c72 := ⟨⟨Try.f72, Try.func72, by kernel_rfl, by kernel_rfl, by kernel_rfl⟩, by kernel_rfl, by decide, by kernel_rfl⟩
/- f77 understory/digest.table: 18 temporaries, depth 5, 0 parameters, results [*t0] -/
def c77 : RC :=
  (.seq (.ops [⟨some 0, none, .op (.alloc 149 [(.int .u32 0), (.int .u32 0), (.int .u32 0), (.int .u32 0), (.int .u32 0), (.int .u32 0), (.int .u32 0), (.int .u32 0), (.int .u32 0), (.int .u32 0), (.int .u32 0), (.int .u32 0), (.int .u32 0), (.int .u32 0), (.int .u32 0), (.int .u32 0), (.int .u32 0), (.int .u32 0), (.int .u32 0), (.int .u32 0), (.int .u32 0), (.int .u32 0), (.int .u32 0), (.int .u32 0), (.int .u32 0), (.int .u32 0), (.int .u32 0), (.int .u32 0), (.int .u32 0), (.int .u32 0), (.int .u32 0), (.int .u32 0), (.int .u32 0), (.int .u32 0), (.int .u32 0), (.int .u32 0), (.int .u32 0), (.int .u32 0), (.int .u32 0), (.int .u32 0), (.int .u32 0), (.int .u32 0), (.int .u32 0), (.int .u32 0), (.int .u32 0), (.int .u32 0), (.int .u32 0), (.int .u32 0), (.int .u32 0), (.int .u32 0), (.int .u32 0), (.int .u32 0), (.int .u32 0), (.int .u32 0), (.int .u32 0), (.int .u32 0), (.int .u32 0), (.int .u32 0), (.int .u32 0), (.int .u32 0), (.int .u32 0), (.int .u32 0), (.int .u32 0), (.int .u32 0), (.int .u32 0), (.int .u32 0), (.int .u32 0), (.int .u32 0), (.int .u32 0), (.int .u32 0), (.int .u32 0), (.int .u32 0), (.int .u32 0), (.int .u32 0), (.int .u32 0), (.int .u32 0), (.int .u32 0), (.int .u32 0), (.int .u32 0), (.int .u32 0), (.int .u32 0), (.int .u32 0), (.int .u32 0), (.int .u32 0), (.int .u32 0), (.int .u32 0), (.int .u32 0), (.int .u32 0), (.int .u32 0), (.int .u32 0), (.int .u32 0), (.int .u32 0), (.int .u32 0), (.int .u32 0), (.int .u32 0), (.int .u32 0), (.int .u32 0), (.int .u32 0), (.int .u32 0), (.int .u32 0), (.int .u32 0), (.int .u32 0), (.int .u32 0), (.int .u32 0), (.int .u32 0), (.int .u32 0), (.int .u32 0), (.int .u32 0), (.int .u32 0), (.int .u32 0), (.int .u32 0), (.int .u32 0), (.int .u32 0), (.int .u32 0), (.int .u32 0), (.int .u32 0), (.int .u32 0), (.int .u32 0), (.int .u32 0), (.int .u32 0), (.int .u32 0), (.int .u32 0), (.int .u32 0), (.int .u32 0), (.int .u32 0), (.int .u32 0), (.int .u32 0), (.int .u32 0), (.int .u32 0), (.int .u32 0), (.int .u32 0), (.int .u32 0), (.int .u32 0), (.int .u32 0), (.int .u32 0), (.int .u32 0), (.int .u32 0), (.int .u32 0), (.int .u32 0), (.int .u32 0), (.int .u32 0), (.int .u32 0), (.int .u32 0), (.int .u32 0), (.int .u32 0), (.int .u32 0), (.int .u32 0), (.int .u32 0), (.int .u32 0), (.int .u32 0), (.int .u32 0), (.int .u32 0), (.int .u32 0), (.int .u32 0), (.int .u32 0), (.int .u32 0), (.int .u32 0), (.int .u32 0), (.int .u32 0), (.int .u32 0), (.int .u32 0), (.int .u32 0), (.int .u32 0), (.int .u32 0), (.int .u32 0), (.int .u32 0), (.int .u32 0), (.int .u32 0), (.int .u32 0), (.int .u32 0), (.int .u32 0), (.int .u32 0), (.int .u32 0), (.int .u32 0), (.int .u32 0), (.int .u32 0), (.int .u32 0), (.int .u32 0), (.int .u32 0), (.int .u32 0), (.int .u32 0), (.int .u32 0), (.int .u32 0), (.int .u32 0), (.int .u32 0), (.int .u32 0), (.int .u32 0), (.int .u32 0), (.int .u32 0), (.int .u32 0), (.int .u32 0), (.int .u32 0), (.int .u32 0), (.int .u32 0), (.int .u32 0), (.int .u32 0), (.int .u32 0), (.int .u32 0), (.int .u32 0), (.int .u32 0), (.int .u32 0), (.int .u32 0), (.int .u32 0), (.int .u32 0), (.int .u32 0), (.int .u32 0), (.int .u32 0), (.int .u32 0), (.int .u32 0), (.int .u32 0), (.int .u32 0), (.int .u32 0), (.int .u32 0), (.int .u32 0), (.int .u32 0), (.int .u32 0), (.int .u32 0), (.int .u32 0), (.int .u32 0), (.int .u32 0), (.int .u32 0), (.int .u32 0), (.int .u32 0), (.int .u32 0), (.int .u32 0), (.int .u32 0), (.int .u32 0), (.int .u32 0), (.int .u32 0), (.int .u32 0), (.int .u32 0), (.int .u32 0), (.int .u32 0), (.int .u32 0), (.int .u32 0), (.int .u32 0), (.int .u32 0), (.int .u32 0), (.int .u32 0), (.int .u32 0), (.int .u32 0), (.int .u32 0), (.int .u32 0), (.int .u32 0), (.int .u32 0), (.int .u32 0), (.int .u32 0), (.int .u32 0), (.int .u32 0), (.int .u32 0), (.int .u32 0), (.int .u32 0), (.int .u32 0), (.int .u32 0), (.int .u32 0), (.int .u32 0)])⟩])
  (.seq (.seq (.ops [⟨some 3, none, .op (.mv (.c (.int .i64 0)))⟩])
  (.block 0
    (.loop
      (.seq (.ops [⟨some 4, none, .op (.bin .lss (.t 3) (.c (.int .i64 256)))⟩])
      (.seq (.cond (.t 4)
        .skip
        (.exit 0))
      (.seq (.block 1
        (.seq (.ops [⟨some 5, none, .op (.mv (.t 3))⟩,
          ⟨some 1, none, .op (.mv (.t 5))⟩])
        (.seq (.ops [⟨some 6, none, .op (.mv (.t 1))⟩,
          ⟨some 7, none, .op (.toInt .u32 (.t 6))⟩,
          ⟨some 2, none, .op (.mv (.t 7))⟩])
        (.seq (.seq (.ops [⟨some 8, none, .op (.mv (.c (.int .i64 0)))⟩])
        (.block 2
          (.loop
            (.seq (.ops [⟨some 9, none, .op (.bin .lss (.t 8) (.c (.int .i64 8)))⟩])
            (.seq (.cond (.t 9)
              .skip
              (.exit 2))
            (.seq (.block 3
              (.ops [⟨some 10, none, .op (.mv (.t 2))⟩,
                ⟨some 11, none, .op (.callF 80 [(.t 10)])⟩,
                ⟨some 2, none, .op (.mv (.t 11))⟩]))
            (.ops [⟨some 12, none, .op (.bin .add (.t 8) (.c (.int .i64 1)))⟩,
              ⟨some 8, none, .op (.mv (.t 12))⟩])))))))
        (.cut (.ops [⟨some 13, none, .op (.mv (.t 1))⟩,
          ⟨some 14, none, .op (.mv (.t 2))⟩,
          ⟨some 15, none, .op (.indexAddrA 256 1 (.t 0) (.t 13))⟩,
          ⟨none, none, .op (.store 1 (.t 15) (.t 14))⟩]))))))
      (.cut (.ops [⟨some 16, none, .op (.bin .add (.t 3) (.c (.int .i64 1)))⟩,
        ⟨some 3, none, .op (.mv (.t 16))⟩]))))))))
  (.cut (.seq (.ops [⟨some 17, none, .op (.load true 256 (.t 0))⟩,
    ⟨none, none, .op (.store 256 (.t 0) (.t 17))⟩])
  .ret))))
theorem F77 : FI 77 0 18 5 [.cell 0 149] c77 := ⟨⟨Try.f77, Try.func77, by kernel_rfl, by kernel_rfl, by kernel_rfl⟩, by kernel_rfl, by decide, by kernel_rfl⟩
/- f80 understory/digest.bit: 11 temporaries, depth 4, 1 parameters, results [t2] -/
def c80 : RC :=
  (.seq (.ops [⟨some 2, none, .op (.mv (.c (.int .u32 0)))⟩])
  (.seq (.seq (.ops [⟨some 3, none, .op (.mv (.t 0))⟩,
    ⟨some 4, none, .op (.bin .and (.t 3) (.c (.int .u32 1)))⟩,
    ⟨some 5, none, .op (.bin .eql (.t 4) (.c (.int .u32 1)))⟩])
  (.cond (.t 5)
    (.seq (.ops [⟨some 6, none, .op (.mv (.t 0))⟩,
      ⟨some 7, none, .op (.bin .shr (.t 6) (.c (.int .u64 1)))⟩,
      ⟨some 8, none, .op (.bin .xor (.t 7) (.c (.int .u32 3988292384)))⟩,
      ⟨some 2, none, .op (.mv (.t 8))⟩])
    .ret)
    .skip))
  (.seq (.ops [⟨some 9, none, .op (.mv (.t 0))⟩,
    ⟨some 10, none, .op (.bin .shr (.t 9) (.c (.int .u64 1)))⟩,
    ⟨some 2, none, .op (.mv (.t 10))⟩])
  .ret)))
theorem F80 : FI 80 1 11 4 [.tmp 2] c80 := ⟨⟨Try.f80, Try.func80, by kernel_rfl, by kernel_rfl, by kernel_rfl⟩, by kernel_rfl, by decide, by kernel_rfl⟩
end Go.Proofs
