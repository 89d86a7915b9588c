/- Texts put together: T0, Fa, Ra, Wa, Ta, Sa, Sb, Sc, C0. -/
import Derived.Test.YtfddiediieblhaaSea6
import Derived.Test.YtfddiediieblhaaProg
import Derived.KernelRfl
/- Which functions work in their caller's memory. -/
namespace Go.Proofs
open Go Go.Abs
def inlL : List Nat := [26, 27, 29, 31, 33, 56, 59, 71, 97, 98, 99, 100, 101, 102, 61, 73, 81, 63, 74, 78, 79, 62, 104, 104, 104, 104]
def inl0 : FuncId → Bool := fun f => inlL.contains f || decide (104 ≤ f)
abbrev FI := FunIs Try.prog inl0
abbrev DefI := DefIs Try.prog inl0
end Go.Proofs
/- The looked-up text of the functions. -/
namespace Go.Proofs
open Go Go.Abs
-- 104 functions
/- f19 understory/page.Find: 25 temporaries, depth 5, 2 parameters, results [t4, t5, t6] -/
def c19 : RC :=
  (.seq (.ops [⟨some 4, none, .op (.mv (.c (.int .i64 0)))⟩,
    ⟨some 5, none, .op (.mv (.c (.bool false)))⟩,
    ⟨some 6, none, .op (.mv (.c (.int .i64 0)))⟩])
  (.seq (.ops [⟨some 9, none, .op (.mv (.t 0))⟩,
    ⟨some 10, none, .op (.callF 43 [(.t 9)])⟩,
    ⟨some 8, none, .op (.mv (.t 10))⟩,
    ⟨some 11, none, .op (.extract (.t 8) 0)⟩,
    ⟨some 12, none, .op (.extract (.t 8) 1)⟩,
    ⟨some 7, none, .op (.alloc 25 [(.int .i64 0), (.int .i64 0), (.int .i64 0), (.int .i64 0), (.int .i64 0), (.bool false), (.lst 0 [] true), (.int .i64 0), (.str []), (.lst 0 [] true)])⟩,
    ⟨none, none, .op (.store 10 (.t 7) (.t 11))⟩,
    ⟨some 6, none, .op (.mv (.t 12))⟩])
  (.seq (.seq (.ops [⟨some 13, none, .op (.mv (.t 6))⟩,
    ⟨some 14, none, .op (.bin .neq (.t 13) (.c (.int .i64 0)))⟩])
  (.cond (.t 14)
    (.seq (.ops [⟨some 15, none, .op (.mv (.t 6))⟩,
      ⟨some 4, none, .op (.mv (.c (.int .i64 0)))⟩,
      ⟨some 5, none, .op (.mv (.c (.bool false)))⟩,
      ⟨some 6, none, .op (.mv (.t 15))⟩])
    .ret)
    .skip))
  (.seq (.ops [⟨some 17, none, .op (.fieldAddr 6 (.t 7))⟩,
    ⟨some 18, none, .op (.load false 1 (.t 17))⟩,
    ⟨some 19, none, .op (.mv (.t 1))⟩,
    ⟨some 20, none, .op (.callF 44 [(.t 18), (.t 19), (.c (.fn (.func 45) [] []))])⟩,
    ⟨some 16, none, .op (.mv (.t 20))⟩,
    ⟨some 21, none, .op (.extract (.t 16) 0)⟩,
    ⟨some 22, none, .op (.extract (.t 16) 1)⟩,
    ⟨some 4, none, .op (.mv (.t 21))⟩,
    ⟨some 5, none, .op (.mv (.t 22))⟩])
  (.seq (.ops [⟨some 23, none, .op (.mv (.t 4))⟩,
    ⟨some 24, none, .op (.mv (.t 5))⟩,
    ⟨some 4, none, .op (.mv (.t 23))⟩,
    ⟨some 5, none, .op (.mv (.t 24))⟩,
    ⟨some 6, none, .op (.mv (.c (.int .i64 0)))⟩])
  .ret)))))
theorem F19 : FI 19 2 25 5 [.tmp 4, .tmp 5, .tmp 6] c19 := ⟨⟨Try.f19, Try.func19, by kernel_rfl, by kernel_rfl, by kernel_rfl⟩, by kernel_rfl, by decide, by kernel_rfl⟩
/- f20 understory/page.EntryAt: 32 temporaries, depth 6, 2 parameters, results [*t4, t5] -/
def c20 : RC :=
  (.seq (.ops [⟨some 4, none, .op (.alloc 51 [(.str []), (.str []), (.int .i64 0), (.int .i64 0), (.int .i64 0), (.int .i64 0), (.int .u8 0), (.int .u8 0), (.int .u8 0), (.int .u8 0), (.int .u8 0), (.int .u8 0), (.int .u8 0), (.int .u8 0), (.int .u8 0), (.int .u8 0), (.int .u8 0), (.int .u8 0), (.int .u8 0), (.int .u8 0), (.int .u8 0), (.int .u8 0)])⟩,
    ⟨some 5, none, .op (.mv (.c (.int .i64 0)))⟩])
  (.seq (.ops [⟨some 9, none, .op (.mv (.t 0))⟩,
    ⟨some 10, none, .op (.callF 43 [(.t 9)])⟩,
    ⟨some 8, none, .op (.mv (.t 10))⟩,
    ⟨some 11, none, .op (.extract (.t 8) 0)⟩,
    ⟨some 12, none, .op (.extract (.t 8) 1)⟩,
    ⟨some 6, none, .op (.alloc 25 [(.int .i64 0), (.int .i64 0), (.int .i64 0), (.int .i64 0), (.int .i64 0), (.bool false), (.lst 0 [] true), (.int .i64 0), (.str []), (.lst 0 [] true)])⟩,
    ⟨none, none, .op (.store 10 (.t 6) (.t 11))⟩,
    ⟨some 7, none, .op (.mv (.t 12))⟩])
  (.seq (.seq (.ops [⟨some 13, none, .op (.mv (.t 7))⟩,
    ⟨some 14, none, .op (.bin .neq (.t 13) (.c (.int .i64 0)))⟩])
  (.cond (.t 14)
    (.seq (.ops [⟨some 15, none, .op (.build [(.str []), (.str []), (.int .i64 0), (.int .i64 0), (.int .i64 0), (.int .i64 0), (.int .u8 0), (.int .u8 0), (.int .u8 0), (.int .u8 0), (.int .u8 0), (.int .u8 0), (.int .u8 0), (.int .u8 0), (.int .u8 0), (.int .u8 0), (.int .u8 0), (.int .u8 0), (.int .u8 0), (.int .u8 0), (.int .u8 0), (.int .u8 0)] [])⟩,
      ⟨some 16, none, .op (.mv (.t 7))⟩,
      ⟨none, none, .op (.store 22 (.t 4) (.t 15))⟩,
      ⟨some 5, none, .op (.mv (.t 16))⟩])
    .ret)
    .skip))
  (.seq (.seq (.ops [⟨some 17, none, .op (.mv (.t 1))⟩,
    ⟨some 18, none, .op (.bin .lss (.t 17) (.c (.int .i64 0)))⟩,
    ⟨some 19, none, .op (.mv (.t 18))⟩,
    ⟨some 20, some (19, false), .op (.mv (.t 1))⟩,
    ⟨some 21, some (19, false), .op (.fieldAddr 6 (.t 6))⟩,
    ⟨some 22, some (19, false), .op (.load false 1 (.t 21))⟩,
    ⟨some 23, some (19, false), .op (.lenL (.t 22))⟩,
    ⟨some 24, some (19, false), .op (.bin .geq (.t 20) (.t 23))⟩,
    ⟨some 25, none, .op (.pick (.t 19) (.c (.bool true)) (.t 24))⟩])
  (.cond (.t 25)
    (.seq (.ops [⟨some 26, none, .op (.build [(.str []), (.str []), (.int .i64 0), (.int .i64 0), (.int .i64 0), (.int .i64 0), (.int .u8 0), (.int .u8 0), (.int .u8 0), (.int .u8 0), (.int .u8 0), (.int .u8 0), (.int .u8 0), (.int .u8 0), (.int .u8 0), (.int .u8 0), (.int .u8 0), (.int .u8 0), (.int .u8 0), (.int .u8 0), (.int .u8 0), (.int .u8 0)] [])⟩,
      ⟨none, none, .op (.store 22 (.t 4) (.t 26))⟩,
      ⟨some 5, none, .op (.mv (.c (.int .i64 1)))⟩])
    .ret)
    .skip))
  (.seq (.ops [⟨some 27, none, .op (.fieldAddr 6 (.t 6))⟩,
    ⟨some 28, none, .op (.load false 1 (.t 27))⟩,
    ⟨some 29, none, .op (.mv (.t 1))⟩,
    ⟨some 30, none, .op (.indexAddrL 22 (.t 28) (.t 29))⟩,
    ⟨some 31, none, .op (.load true 22 (.t 30))⟩,
    ⟨none, none, .op (.store 22 (.t 4) (.t 31))⟩,
    ⟨some 5, none, .op (.mv (.c (.int .i64 0)))⟩])
  .ret)))))
theorem F20 : FI 20 2 32 6 [.cell 4 51, .tmp 5] c20 := ⟨⟨Try.f20, Try.func20, by kernel_rfl, by kernel_rfl, by kernel_rfl⟩, by kernel_rfl, by decide, by kernel_rfl⟩
/- f43 understory/page.treePage: 25 temporaries, depth 5, 1 parameters, results [*t2, t3] -/
def c43 : RC :=
  (.seq (.ops [⟨some 2, none, .op (.alloc 25 [(.int .i64 0), (.int .i64 0), (.int .i64 0), (.int .i64 0), (.int .i64 0), (.bool false), (.lst 0 [] true), (.int .i64 0), (.str []), (.lst 0 [] true)])⟩,
    ⟨some 3, none, .op (.mv (.c (.int .i64 0)))⟩])
  (.seq (.ops [⟨some 7, none, .op (.mv (.t 0))⟩,
    ⟨some 8, none, .op (.callF 10 [(.t 7)])⟩,
    ⟨some 6, none, .op (.mv (.t 8))⟩,
    ⟨some 9, none, .op (.extract (.t 6) 0)⟩,
    ⟨some 10, none, .op (.extract (.t 6) 1)⟩,
    ⟨some 4, none, .op (.alloc 25 [(.int .i64 0), (.int .i64 0), (.int .i64 0), (.int .i64 0), (.int .i64 0), (.bool false), (.lst 0 [] true), (.int .i64 0), (.str []), (.lst 0 [] true)])⟩,
    ⟨none, none, .op (.store 10 (.t 4) (.t 9))⟩,
    ⟨some 5, none, .op (.mv (.t 10))⟩])
  (.seq (.seq (.ops [⟨some 11, none, .op (.mv (.t 5))⟩,
    ⟨some 12, none, .op (.bin .neq (.t 11) (.c (.int .i64 0)))⟩])
  (.cond (.t 12)
    (.seq (.ops [⟨some 13, none, .op (.build [(.int .i64 0), (.int .i64 0), (.int .i64 0), (.int .i64 0), (.int .i64 0), (.bool false), (.lst 0 [] true), (.int .i64 0), (.str []), (.lst 0 [] true)] [])⟩,
      ⟨some 14, none, .op (.mv (.t 5))⟩,
      ⟨none, none, .op (.store 10 (.t 2) (.t 13))⟩,
      ⟨some 3, none, .op (.mv (.t 14))⟩])
    .ret)
    .skip))
  (.seq (.seq (.ops [⟨some 15, none, .op (.fieldAddr 0 (.t 4))⟩,
    ⟨some 16, none, .op (.load false 1 (.t 15))⟩,
    ⟨some 17, none, .op (.bin .neq (.t 16) (.c (.int .i64 1)))⟩,
    ⟨some 18, none, .op (.mv (.t 17))⟩,
    ⟨some 19, some (18, true), .op (.fieldAddr 0 (.t 4))⟩,
    ⟨some 20, some (18, true), .op (.load false 1 (.t 19))⟩,
    ⟨some 21, some (18, true), .op (.bin .neq (.t 20) (.c (.int .i64 2)))⟩,
    ⟨some 22, none, .op (.pick (.t 18) (.t 21) (.c (.bool false)))⟩])
  (.cond (.t 22)
    (.seq (.ops [⟨some 23, none, .op (.build [(.int .i64 0), (.int .i64 0), (.int .i64 0), (.int .i64 0), (.int .i64 0), (.bool false), (.lst 0 [] true), (.int .i64 0), (.str []), (.lst 0 [] true)] [])⟩,
      ⟨none, none, .op (.store 10 (.t 2) (.t 23))⟩,
      ⟨some 3, none, .op (.mv (.c (.int .i64 2)))⟩])
    .ret)
    .skip))
  (.seq (.ops [⟨some 24, none, .op (.load true 10 (.t 4))⟩,
    ⟨none, none, .op (.store 10 (.t 2) (.t 24))⟩,
    ⟨some 3, none, .op (.mv (.c (.int .i64 0)))⟩])
  .ret)))))
theorem F43 : FI 43 1 25 5 [.cell 2 25, .tmp 3] c43 := ⟨⟨Try.f43, Try.func43, by kernel_rfl, by kernel_rfl, by kernel_rfl⟩, by kernel_rfl, by decide, by kernel_rfl⟩
/- f45 understory/page.Find$1: 9 temporaries, depth 4, 2 parameters, results [t4] -/
def c45 : RC :=
  (.seq (.ops [⟨some 2, none, .op (.box 51 (.t 0))⟩,
    ⟨some 4, none, .op (.mv (.c (.int .i64 0)))⟩])
  (.seq (.ops [⟨some 5, none, .op (.fieldAddr 0 (.t 2))⟩,
    ⟨some 6, none, .op (.load false 1 (.t 5))⟩,
    ⟨some 7, none, .op (.mv (.t 1))⟩,
    ⟨some 8, none, .op (.callF 42 [(.t 6), (.t 7)])⟩,
    ⟨some 4, none, .op (.mv (.t 8))⟩])
  .ret))
theorem F45 : FI 45 2 9 4 [.tmp 4] c45 := ⟨⟨Try.f45, Try.func45, by kernel_rfl, by kernel_rfl, by kernel_rfl⟩, by kernel_rfl, by decide, by kernel_rfl⟩
/- f6 understory/understorylaw04.PageSearch: 145 temporaries, depth 8, 2 parameters, results [t4] -/
def c6 : RC :=
  (.seq (.ops [⟨some 2, none, .op (.box 25 (.t 0))⟩,
    ⟨some 4, none, .op (.mv (.c (.bool false)))⟩])
  (.seq (.ops [⟨some 18, none, .op (.callF 7 [])⟩,
    ⟨some 5, none, .op (.mv (.t 18))⟩])
  (.seq (.seq (.ops [⟨some 19, none, .op (.load true 10 (.t 2))⟩,
    ⟨some 20, none, .op (.mkLst 10 true 1 [(.int .i64 0), (.int .i64 0), (.int .i64 0), (.int .i64 0), (.int .i64 0), (.bool false), (.lst 0 [] true), (.int .i64 0), (.str []), (.lst 0 [] true)] [(0, 10, (.t 19))])⟩,
    ⟨some 21, none, .op (.callF 8 [(.t 20)])⟩,
    ⟨some 22, none, .op (.un .not (.t 21))⟩,
    ⟨some 23, none, .op (.mv (.t 22))⟩,
    ⟨some 24, some (23, false), .op (.mv (.t 1))⟩,
    ⟨some 25, some (23, false), .op (.lenS (.t 24))⟩,
    ⟨some 26, some (23, false), .op (.bin .gtr (.t 25) (.c (.int .i64 300)))⟩,
    ⟨some 27, none, .op (.pick (.t 23) (.c (.bool true)) (.t 26))⟩])
  (.cond (.t 27)
    (.seq (.ops [⟨some 28, none, .op (.mv (.t 5))⟩,
      ⟨some 4, none, .op (.mv (.t 28))⟩])
    .ret)
    .skip))
  (.seq (.ops [⟨some 30, none, .op (.load true 10 (.t 2))⟩,
    ⟨some 31, none, .op (.callF 9 [(.t 30)])⟩,
    ⟨some 29, none, .op (.mv (.t 31))⟩,
    ⟨some 32, none, .op (.extract (.t 29) 0)⟩,
    ⟨some 33, none, .op (.extract (.t 29) 1)⟩,
    ⟨some 6, none, .op (.mv (.t 32))⟩,
    ⟨some 7, none, .op (.mv (.t 33))⟩])
  (.seq (.seq (.ops [⟨some 34, none, .op (.mv (.t 7))⟩,
    ⟨some 35, none, .op (.bin .neq (.t 34) (.c (.int .i64 0)))⟩])
  (.cond (.t 35)
    (.seq (.ops [⟨some 36, none, .op (.mv (.t 5))⟩,
      ⟨some 4, none, .op (.mv (.t 36))⟩])
    .ret)
    .skip))
  (.seq (.ops [⟨some 38, none, .op (.mv (.t 6))⟩,
    ⟨some 39, none, .op (.mv (.t 1))⟩,
    ⟨some 40, none, .op (.callF 19 [(.t 38), (.t 39)])⟩,
    ⟨some 37, none, .op (.mv (.t 40))⟩,
    ⟨some 41, none, .op (.extract (.t 37) 0)⟩,
    ⟨some 42, none, .op (.extract (.t 37) 1)⟩,
    ⟨some 43, none, .op (.extract (.t 37) 2)⟩,
    ⟨some 8, none, .op (.mv (.t 41))⟩,
    ⟨some 9, none, .op (.mv (.t 42))⟩,
    ⟨some 10, none, .op (.mv (.t 43))⟩])
  (.seq (.seq (.ops [⟨some 44, none, .op (.fieldAddr 0 (.t 2))⟩,
    ⟨some 45, none, .op (.load false 1 (.t 44))⟩,
    ⟨some 46, none, .op (.bin .neq (.t 45) (.c (.int .i64 1)))⟩,
    ⟨some 47, none, .op (.mv (.t 46))⟩,
    ⟨some 48, some (47, true), .op (.fieldAddr 0 (.t 2))⟩,
    ⟨some 49, some (47, true), .op (.load false 1 (.t 48))⟩,
    ⟨some 50, some (47, true), .op (.bin .neq (.t 49) (.c (.int .i64 2)))⟩,
    ⟨some 51, none, .op (.pick (.t 47) (.t 50) (.c (.bool false)))⟩])
  (.cond (.t 51)
    (.seq (.ops [⟨some 53, none, .op (.mv (.t 6))⟩,
      ⟨some 54, none, .op (.callF 20 [(.t 53), (.c (.int .i64 0))])⟩,
      ⟨some 52, none, .op (.mv (.t 54))⟩,
      ⟨some 55, none, .op (.extract (.t 52) 0)⟩,
      ⟨some 56, none, .op (.extract (.t 52) 1)⟩,
      ⟨some 11, none, .op (.alloc 51 [(.str []), (.str []), (.int .i64 0), (.int .i64 0), (.int .i64 0), (.int .i64 0), (.int .u8 0), (.int .u8 0), (.int .u8 0), (.int .u8 0), (.int .u8 0), (.int .u8 0), (.int .u8 0), (.int .u8 0), (.int .u8 0), (.int .u8 0), (.int .u8 0), (.int .u8 0), (.int .u8 0), (.int .u8 0), (.int .u8 0), (.int .u8 0)])⟩,
      ⟨none, none, .op (.store 22 (.t 11) (.t 55))⟩,
      ⟨some 12, none, .op (.mv (.t 56))⟩])
    (.seq (.ops [⟨some 57, none, .op (.mv (.t 5))⟩,
      ⟨some 58, none, .op (.mv (.t 57))⟩,
      ⟨some 59, some (58, true), .op (.mv (.t 10))⟩,
      ⟨some 60, some (58, true), .op (.bin .eql (.t 59) (.c (.int .i64 2)))⟩,
      ⟨some 61, none, .op (.pick (.t 58) (.t 60) (.c (.bool false)))⟩,
      ⟨some 62, none, .op (.mv (.t 61))⟩,
      ⟨some 63, some (62, true), .op (.mv (.t 12))⟩,
      ⟨some 64, some (62, true), .op (.bin .eql (.t 63) (.c (.int .i64 2)))⟩,
      ⟨some 65, none, .op (.pick (.t 62) (.t 64) (.c (.bool false)))⟩,
      ⟨some 4, none, .op (.mv (.t 65))⟩])
    .ret))
    .skip))
  (.seq (.seq (.ops [⟨some 66, none, .op (.mv (.t 10))⟩,
    ⟨some 67, none, .op (.bin .neq (.t 66) (.c (.int .i64 0)))⟩,
    ⟨some 68, none, .op (.mv (.t 67))⟩,
    ⟨some 69, some (68, false), .op (.mv (.t 8))⟩,
    ⟨some 70, some (68, false), .op (.bin .lss (.t 69) (.c (.int .i64 0)))⟩,
    ⟨some 71, none, .op (.pick (.t 68) (.c (.bool true)) (.t 70))⟩,
    ⟨some 72, none, .op (.mv (.t 71))⟩,
    ⟨some 73, some (72, false), .op (.mv (.t 8))⟩,
    ⟨some 74, some (72, false), .op (.fieldAddr 6 (.t 2))⟩,
    ⟨some 75, some (72, false), .op (.load false 1 (.t 74))⟩,
    ⟨some 76, some (72, false), .op (.lenL (.t 75))⟩,
    ⟨some 77, some (72, false), .op (.bin .gtr (.t 73) (.t 76))⟩,
    ⟨some 78, none, .op (.pick (.t 72) (.c (.bool true)) (.t 77))⟩,
    ⟨some 79, none, .op (.mv (.t 78))⟩,
    ⟨some 80, some (79, false), .op (.mv (.t 9))⟩,
    ⟨some 81, some (79, false), .op (.mv (.t 8))⟩,
    ⟨some 82, some (79, false), .op (.fieldAddr 6 (.t 2))⟩,
    ⟨some 83, some (79, false), .op (.load false 1 (.t 82))⟩,
    ⟨some 84, some (79, false), .op (.lenL (.t 83))⟩,
    ⟨some 85, some (79, false), .op (.bin .lss (.t 81) (.t 84))⟩,
    ⟨some 86, some (79, false), .op (.mv (.t 85))⟩,
    ⟨some 87, some (86, true), .op (.fieldAddr 6 (.t 2))⟩,
    ⟨some 88, some (86, true), .op (.load false 1 (.t 87))⟩,
    ⟨some 89, some (86, true), .op (.mv (.t 8))⟩,
    ⟨some 90, some (86, true), .op (.indexAddrL 22 (.t 88) (.t 89))⟩,
    ⟨some 91, some (86, true), .op (.fieldAddr 0 (.t 90))⟩,
    ⟨some 92, some (86, true), .op (.load false 1 (.t 91))⟩,
    ⟨some 93, some (86, true), .op (.mv (.t 1))⟩,
    ⟨some 94, some (86, true), .op (.bin .eql (.t 92) (.t 93))⟩,
    ⟨some 95, some (79, false), .op (.pick (.t 86) (.t 94) (.c (.bool false)))⟩,
    ⟨some 96, some (79, false), .op (.cmp true 4 (.t 80) (.t 95))⟩,
    ⟨some 97, none, .op (.pick (.t 79) (.c (.bool true)) (.t 96))⟩])
  (.cond (.t 97)
    (.seq (.ops [⟨some 4, none, .op (.mv (.c (.bool false)))⟩])
    .ret)
    .skip))
  (.seq (.seq (.ops [⟨some 13, none, .op (.mv (.c (.int .i64 0)))⟩])
  (.block 0
    (.loop
      (.seq (.seq (.ops [⟨some 98, none, .op (.mv (.t 13))⟩,
        ⟨some 99, none, .op (.fieldAddr 6 (.t 2))⟩,
        ⟨some 100, none, .op (.load false 1 (.t 99))⟩,
        ⟨some 101, none, .op (.lenL (.t 100))⟩,
        ⟨some 102, none, .op (.bin .lss (.t 98) (.t 101))⟩])
      (.cond (.t 102)
        .skip
        (.exit 0)))
      (.seq (.block 1
        (.seq (.ops [⟨some 106, none, .op (.mv (.t 6))⟩,
          ⟨some 107, none, .op (.mv (.t 13))⟩,
          ⟨some 108, none, .op (.callF 20 [(.t 106), (.t 107)])⟩,
          ⟨some 105, none, .op (.mv (.t 108))⟩,
          ⟨some 109, none, .op (.extract (.t 105) 0)⟩,
          ⟨some 110, none, .op (.extract (.t 105) 1)⟩,
          ⟨some 14, none, .op (.alloc 51 [(.str []), (.str []), (.int .i64 0), (.int .i64 0), (.int .i64 0), (.int .i64 0), (.int .u8 0), (.int .u8 0), (.int .u8 0), (.int .u8 0), (.int .u8 0), (.int .u8 0), (.int .u8 0), (.int .u8 0), (.int .u8 0), (.int .u8 0), (.int .u8 0), (.int .u8 0), (.int .u8 0), (.int .u8 0), (.int .u8 0), (.int .u8 0)])⟩,
          ⟨none, none, .op (.store 22 (.t 14) (.t 109))⟩,
          ⟨some 15, none, .op (.mv (.t 110))⟩])
        (.seq (.draw [(⟨some 111, none, .op (.mv (.t 15))⟩, 0),
          (⟨some 112, none, .op (.bin .neq (.t 111) (.c (.int .i64 0)))⟩, 0),
          (⟨some 113, none, .op (.mv (.t 112))⟩, 0),
          (⟨some 114, some (113, false), .op (.load true 22 (.t 14))⟩, 1),
          (⟨some 115, some (113, false), .op (.fieldAddr 6 (.t 2))⟩, 0),
          (⟨some 116, some (113, false), .op (.load false 1 (.t 115))⟩, 1),
          (⟨some 117, some (113, false), .op (.mv (.t 13))⟩, 0),
          (⟨some 118, some (113, false), .op (.indexAddrL 22 (.t 116) (.t 117))⟩, 0),
          (⟨some 119, some (113, false), .op (.load true 22 (.t 118))⟩, 1),
          (⟨some 120, some (113, false), .op (.cmp true 51 (.t 114) (.t 119))⟩, 0),
          (⟨some 121, none, .op (.pick (.t 113) (.c (.bool true)) (.t 120))⟩, 0),
          (⟨some 122, none, .op (.mv (.t 121))⟩, 0),
          (⟨some 123, some (122, false), .op (.fieldAddr 0 (.t 14))⟩, 0),
          (⟨some 124, some (122, false), .op (.load false 1 (.t 123))⟩, 1),
          (⟨some 125, some (122, false), .op (.mv (.t 1))⟩, 0),
          (⟨some 126, some (122, false), .op (.bin .lss (.t 124) (.t 125))⟩, 0),
          (⟨some 127, some (122, false), .op (.mv (.t 13))⟩, 0),
          (⟨some 128, some (122, false), .op (.mv (.t 8))⟩, 0),
          (⟨some 129, some (122, false), .op (.bin .lss (.t 127) (.t 128))⟩, 0),
          (⟨some 130, some (122, false), .op (.cmp true 4 (.t 126) (.t 129))⟩, 0),
          (⟨some 131, none, .op (.pick (.t 122) (.c (.bool true)) (.t 130))⟩, 0)])
        (.cond (.t 131)
          (.seq (.ops [⟨some 4, none, .op (.mv (.c (.bool false)))⟩])
          .ret)
          .skip))))
      (.ops [⟨some 103, none, .op (.mv (.t 13))⟩,
        ⟨some 104, none, .op (.bin .add (.t 103) (.c (.int .i64 1)))⟩,
        ⟨some 13, none, .op (.mv (.t 104))⟩]))))))
  (.cut (.seq (.ops [⟨some 133, none, .op (.mv (.t 6))⟩,
    ⟨some 134, none, .op (.fieldAddr 6 (.t 2))⟩,
    ⟨some 135, none, .op (.load false 1 (.t 134))⟩,
    ⟨some 136, none, .op (.lenL (.t 135))⟩,
    ⟨some 137, none, .op (.callF 20 [(.t 133), (.t 136)])⟩,
    ⟨some 132, none, .op (.mv (.t 137))⟩,
    ⟨some 138, none, .op (.extract (.t 132) 0)⟩,
    ⟨some 139, none, .op (.extract (.t 132) 1)⟩,
    ⟨some 16, none, .op (.alloc 51 [(.str []), (.str []), (.int .i64 0), (.int .i64 0), (.int .i64 0), (.int .i64 0), (.int .u8 0), (.int .u8 0), (.int .u8 0), (.int .u8 0), (.int .u8 0), (.int .u8 0), (.int .u8 0), (.int .u8 0), (.int .u8 0), (.int .u8 0), (.int .u8 0), (.int .u8 0), (.int .u8 0), (.int .u8 0), (.int .u8 0), (.int .u8 0)])⟩,
    ⟨none, none, .op (.store 22 (.t 16) (.t 138))⟩,
    ⟨some 17, none, .op (.mv (.t 139))⟩])
  (.seq (.ops [⟨some 140, none, .op (.mv (.t 5))⟩,
    ⟨some 141, none, .op (.mv (.t 140))⟩,
    ⟨some 142, some (141, true), .op (.mv (.t 17))⟩,
    ⟨some 143, some (141, true), .op (.bin .eql (.t 142) (.c (.int .i64 1)))⟩,
    ⟨some 144, none, .op (.pick (.t 141) (.t 143) (.c (.bool false)))⟩,
    ⟨some 4, none, .op (.mv (.t 144))⟩])
  .ret))))))))))))
theorem F6 : FI 6 2 145 8 [.tmp 4] c6 := ⟨⟨Try.f6, Try.func6, by kernel_rfl, by kernel_rfl, by kernel_rfl⟩, by kernel_rfl, by decide, by kernel_rfl⟩
/- f44 slices.BinarySearchFunc[[]understory/api.Entry,understory/api.Entry,string]: 49 temporaries, depth 6, 3 parameters, results [t6, t7] -/
def c44 : RC :=
  (.seq (.ops [⟨some 6, none, .op (.mv (.c (.int .i64 0)))⟩,
    ⟨some 7, none, .op (.mv (.c (.bool false)))⟩])
  (.seq (.ops [⟨some 12, none, .op (.mv (.t 0))⟩,
    ⟨some 13, none, .op (.lenL (.t 12))⟩,
    ⟨some 8, none, .op (.mv (.t 13))⟩])
  (.seq (.ops [⟨some 14, none, .op (.mv (.t 8))⟩,
    ⟨some 9, none, .op (.mv (.c (.int .i64 0)))⟩,
    ⟨some 10, none, .op (.mv (.t 14))⟩])
  (.seq (.block 0
    (.loop
      (.seq (.seq (.ops [⟨some 15, none, .op (.mv (.t 9))⟩,
        ⟨some 16, none, .op (.mv (.t 10))⟩,
        ⟨some 17, none, .op (.bin .lss (.t 15) (.t 16))⟩])
      (.cond (.t 17)
        .skip
        (.exit 0)))
      (.block 1
        (.seq (.ops [⟨some 18, none, .op (.mv (.t 9))⟩,
          ⟨some 19, none, .op (.mv (.t 10))⟩,
          ⟨some 20, none, .op (.bin .add (.t 18) (.t 19))⟩,
          ⟨some 21, none, .op (.toInt .u64 (.t 20))⟩,
          ⟨some 22, none, .op (.bin .shr (.t 21) (.c (.int .u64 1)))⟩,
          ⟨some 23, none, .op (.toInt .i64 (.t 22))⟩,
          ⟨some 11, none, .op (.mv (.t 23))⟩])
        (.seq (.ops [⟨some 24, none, .op (.mv (.t 2))⟩,
          ⟨some 25, none, .op (.mv (.t 0))⟩,
          ⟨some 26, none, .op (.mv (.t 11))⟩,
          ⟨some 27, none, .op (.indexAddrL 22 (.t 25) (.t 26))⟩,
          ⟨some 28, none, .op (.load true 22 (.t 27))⟩,
          ⟨some 29, none, .op (.mv (.t 1))⟩,
          ⟨some 30, none, .op (.callV (.t 24) [(.t 28), (.t 29)])⟩,
          ⟨some 31, none, .op (.bin .lss (.t 30) (.c (.int .i64 0)))⟩])
        (.cond (.t 31)
          (.ops [⟨some 32, none, .op (.mv (.t 11))⟩,
            ⟨some 33, none, .op (.bin .add (.t 32) (.c (.int .i64 1)))⟩,
            ⟨some 9, none, .op (.mv (.t 33))⟩])
          (.ops [⟨some 34, none, .op (.mv (.t 11))⟩,
            ⟨some 10, none, .op (.mv (.t 34))⟩]))))))))
  (.cut (.seq (.ops [⟨some 35, none, .op (.mv (.t 9))⟩,
    ⟨some 36, none, .op (.mv (.t 9))⟩,
    ⟨some 37, none, .op (.mv (.t 8))⟩,
    ⟨some 38, none, .op (.bin .lss (.t 36) (.t 37))⟩,
    ⟨some 39, none, .op (.mv (.t 38))⟩,
    ⟨some 40, some (39, true), .op (.mv (.t 2))⟩,
    ⟨some 41, some (39, true), .op (.mv (.t 0))⟩,
    ⟨some 42, some (39, true), .op (.mv (.t 9))⟩,
    ⟨some 43, some (39, true), .op (.indexAddrL 22 (.t 41) (.t 42))⟩,
    ⟨some 44, some (39, true), .op (.load true 22 (.t 43))⟩,
    ⟨some 45, some (39, true), .op (.mv (.t 1))⟩,
    ⟨some 46, some (39, true), .op (.callV (.t 40) [(.t 44), (.t 45)])⟩,
    ⟨some 47, some (39, true), .op (.bin .eql (.t 46) (.c (.int .i64 0)))⟩,
    ⟨some 48, none, .op (.pick (.t 39) (.t 47) (.c (.bool false)))⟩,
    ⟨some 6, none, .op (.mv (.t 35))⟩,
    ⟨some 7, none, .op (.mv (.t 48))⟩])
  .ret))))))
theorem F44 : FI 44 3 49 6 [.tmp 6, .tmp 7] c44 := ⟨⟨Try.f44, Try.func44, by kernel_rfl, by kernel_rfl, by kernel_rfl⟩, by kernel_rfl, by decide, by kernel_rfl⟩
end Go.Proofs
/- The looked-up text of the functions. -/
namespace Go.Proofs
open Go Go.Abs
-- 104 functions
/- f73 (*understory/page.reader).text: 51 temporaries, depth 6, 2 parameters, results [t4] -/
def c73 : RC :=
  (.seq (.ops [⟨some 4, none, .op (.mv (.c (.str [])))⟩])
  (.seq (.seq (.draw [(⟨some 6, none, .op (.mv (.t 1))⟩, 0),
    (⟨some 7, none, .op (.mv (.t 0))⟩, 0),
    (⟨some 8, none, .op (.nilCheck (.t 7))⟩, 0),
    (⟨some 9, none, .op (.fieldAddr 0 (.t 8))⟩, 0),
    (⟨some 10, none, .op (.fieldAddr 0 (.t 9))⟩, 0),
    (⟨some 11, none, .op (.load false 1 (.t 10))⟩, 1),
    (⟨some 12, none, .op (.lenS (.t 11))⟩, 0),
    (⟨some 13, none, .op (.mv (.t 0))⟩, 0),
    (⟨some 14, none, .op (.nilCheck (.t 13))⟩, 0),
    (⟨some 15, none, .op (.fieldAddr 0 (.t 14))⟩, 0),
    (⟨some 16, none, .op (.fieldAddr 1 (.t 15))⟩, 0),
    (⟨some 17, none, .op (.load false 1 (.t 16))⟩, 1),
    (⟨some 18, none, .op (.bin .sub (.t 12) (.t 17))⟩, 0),
    (⟨some 19, none, .op (.bin .gtr (.t 6) (.t 18))⟩, 0)])
  (.cond (.t 19)
    (.ops [⟨some 20, none, .op (.build [] [])⟩,
      ⟨some 21, none, .op (.mkIfc 131 (.t 20))⟩,
      ⟨none, none, .pan (.t 21)⟩])
    .skip))
  (.seq (.draw [(⟨some 22, none, .op (.mv (.t 0))⟩, 0),
    (⟨some 23, none, .op (.nilCheck (.t 22))⟩, 0),
    (⟨some 24, none, .op (.fieldAddr 0 (.t 23))⟩, 0),
    (⟨some 25, none, .op (.fieldAddr 0 (.t 24))⟩, 0),
    (⟨some 26, none, .op (.load false 1 (.t 25))⟩, 1),
    (⟨some 27, none, .op (.mv (.t 0))⟩, 0),
    (⟨some 28, none, .op (.nilCheck (.t 27))⟩, 0),
    (⟨some 29, none, .op (.fieldAddr 0 (.t 28))⟩, 0),
    (⟨some 30, none, .op (.fieldAddr 1 (.t 29))⟩, 0),
    (⟨some 31, none, .op (.load false 1 (.t 30))⟩, 1),
    (⟨some 32, none, .op (.mv (.t 0))⟩, 0),
    (⟨some 33, none, .op (.nilCheck (.t 32))⟩, 0),
    (⟨some 34, none, .op (.fieldAddr 0 (.t 33))⟩, 0),
    (⟨some 35, none, .op (.fieldAddr 1 (.t 34))⟩, 0),
    (⟨some 36, none, .op (.load false 1 (.t 35))⟩, 1),
    (⟨some 37, none, .op (.mv (.t 1))⟩, 0),
    (⟨some 38, none, .op (.bin .add (.t 36) (.t 37))⟩, 0),
    (⟨some 39, none, .op (.sliceS (.t 26) (some (.t 31)) (some (.t 38)))⟩, 1),
    (⟨some 5, none, .op (.mv (.t 39))⟩, 0)])
  (.seq (.ops [⟨some 40, none, .op (.mv (.t 0))⟩,
    ⟨some 41, none, .op (.nilCheck (.t 40))⟩,
    ⟨some 42, none, .op (.fieldAddr 0 (.t 41))⟩,
    ⟨some 43, none, .op (.fieldAddr 1 (.t 42))⟩,
    ⟨some 44, none, .op (.load false 1 (.t 43))⟩,
    ⟨some 45, none, .op (.mv (.t 1))⟩,
    ⟨some 46, none, .op (.bin .add (.t 44) (.t 45))⟩,
    ⟨some 47, none, .op (.nilCheck (.t 40))⟩,
    ⟨some 48, none, .op (.fieldAddr 0 (.t 47))⟩,
    ⟨some 49, none, .op (.fieldAddr 1 (.t 48))⟩,
    ⟨none, none, .op (.store 1 (.t 49) (.t 46))⟩])
  (.seq (.ops [⟨some 50, none, .op (.mv (.t 5))⟩,
    ⟨some 4, none, .op (.mv (.t 50))⟩])
  .ret)))))
theorem F73 : FI 73 2 51 6 [.tmp 4] c73 := ⟨⟨Try.f73, Try.func73, by kernel_rfl, by kernel_rfl, by kernel_rfl⟩, by kernel_rfl, by decide, by kernel_rfl⟩
/- f61 (*understory/page.reader).number: 24 temporaries, depth 5, 2 parameters, results [t4] -/
def c61 : RC :=
  (.seq (.ops [⟨some 4, none, .op (.mv (.c (.int .i64 0)))⟩])
  (.seq (.ops [⟨some 5, none, .op (.mv (.c (.int .i64 0)))⟩])
  (.seq (.seq (.ops [⟨some 8, none, .op (.mv (.t 0))⟩,
    ⟨some 9, none, .op (.mv (.t 1))⟩,
    ⟨some 10, none, .op (.callF 73 [(.t 8), (.t 9)])⟩,
    ⟨some 11, none, .op (.strBytes (.t 10))⟩,
    ⟨some 12, none, .op (.lenL (.t 11))⟩,
    ⟨some 13, none, .op (.mv (.c (.int .i64 0)))⟩])
  (.block 0
    (.loop
      (.seq (.ops [⟨some 14, none, .op (.bin .lss (.t 13) (.t 12))⟩])
      (.seq (.cond (.t 14)
        .skip
        (.exit 0))
      (.seq (.block 1
        (.seq (.ops [⟨some 15, none, .op (.indexAddrL 1 (.t 11) (.t 13))⟩,
          ⟨some 16, none, .op (.load false 1 (.t 15))⟩,
          ⟨some 7, none, .op (.mv (.t 16))⟩])
        (.ops [⟨some 17, none, .op (.mv (.t 5))⟩,
          ⟨some 18, none, .op (.bin .shl (.t 17) (.c (.int .u64 8)))⟩,
          ⟨some 19, none, .op (.mv (.t 7))⟩,
          ⟨some 20, none, .op (.toInt .i64 (.t 19))⟩,
          ⟨some 21, none, .op (.bin .or (.t 18) (.t 20))⟩,
          ⟨some 5, none, .op (.mv (.t 21))⟩])))
      (.ops [⟨some 22, none, .op (.bin .add (.t 13) (.c (.int .i64 1)))⟩,
        ⟨some 13, none, .op (.mv (.t 22))⟩])))))))
  (.cut (.seq (.ops [⟨some 23, none, .op (.mv (.t 5))⟩,
    ⟨some 4, none, .op (.mv (.t 23))⟩])
  .ret)))))
theorem F61 : FI 61 2 24 5 [.tmp 4] c61 := ⟨⟨Try.f61, Try.func61, by kernel_rfl, by kernel_rfl, by kernel_rfl⟩, by kernel_rfl, by decide, by kernel_rfl⟩
/- f81 (*understory/page.reader).sum: 9 temporaries, depth 4, 1 parameters, results [*t2] -/
def c81 : RC :=
  (.seq (.ops [⟨some 2, none, .op (.alloc 49 [(.int .u8 0), (.int .u8 0), (.int .u8 0), (.int .u8 0), (.int .u8 0), (.int .u8 0), (.int .u8 0), (.int .u8 0), (.int .u8 0), (.int .u8 0), (.int .u8 0), (.int .u8 0), (.int .u8 0), (.int .u8 0), (.int .u8 0), (.int .u8 0)])⟩])
  (.seq (.ops [⟨some 3, none, .op (.alloc 49 [(.int .u8 0), (.int .u8 0), (.int .u8 0), (.int .u8 0), (.int .u8 0), (.int .u8 0), (.int .u8 0), (.int .u8 0), (.int .u8 0), (.int .u8 0), (.int .u8 0), (.int .u8 0), (.int .u8 0), (.int .u8 0), (.int .u8 0), (.int .u8 0)])⟩])
  (.seq (.draw [(⟨some 4, none, .op (.sliceP 16 1 (.t 3) none none none)⟩, 1),
    (⟨some 5, none, .op (.mv (.t 0))⟩, 0),
    (⟨some 6, none, .op (.callF 73 [(.t 5), (.c (.int .i64 16))])⟩, 2),
    (⟨some 7, none, .op (.cpy 1 (.t 4) (.t 6))⟩, 2)])
  (.seq (.ops [⟨some 8, none, .op (.load true 16 (.t 3))⟩,
    ⟨none, none, .op (.store 16 (.t 2) (.t 8))⟩])
  .ret))))
theorem F81 : FI 81 1 9 4 [.cell 2 49] c81 := ⟨⟨Try.f81, Try.func81, by kernel_rfl, by kernel_rfl, by kernel_rfl⟩, by kernel_rfl, by decide, by kernel_rfl⟩
/- f79 (*understory/page.reader).content: 52 temporaries, depth 6, 3 parameters, results [] -/
def c79 : RC :=
  (.seq (.ops [⟨some 6, none, .op (.mv (.c (.int .i64 65534)))⟩])
  (.seq (.seq (.ops [⟨some 7, none, .op (.mv (.t 2))⟩,
    ⟨some 8, none, .op (.bin .eql (.t 7) (.c (.int .i64 0)))⟩])
  (.cond (.t 8)
    (.ops [⟨some 9, none, .op (.mv (.t 0))⟩,
      ⟨some 10, none, .op (.callF 61 [(.t 9), (.c (.int .i64 2))])⟩,
      ⟨some 6, none, .op (.mv (.t 10))⟩])
    .skip))
  (.cut (.seq (.ops [⟨some 11, none, .op (.mv (.t 6))⟩])
  (.block 0
    (.seq (.ops [⟨some 19, none, .op (.bin .eql (.t 11) (.c (.int .i64 65535)))⟩,
      ⟨some 18, none, .op (.mv (.t 19))⟩])
    (.cond (.t 18)
      (.seq (.ops [⟨some 20, none, .op (.mv (.t 1))⟩,
        ⟨some 21, none, .op (.mv (.t 1))⟩,
        ⟨some 22, none, .op (.mv (.t 0))⟩,
        ⟨some 23, none, .op (.callF 61 [(.t 22), (.c (.int .i64 4))])⟩,
        ⟨some 24, none, .op (.mv (.t 0))⟩,
        ⟨some 25, none, .op (.callF 61 [(.t 24), (.c (.int .i64 2))])⟩,
        ⟨some 26, none, .op (.nilCheck (.t 20))⟩,
        ⟨some 27, none, .op (.fieldAddr 2 (.t 26))⟩,
        ⟨none, none, .op (.store 1 (.t 27) (.t 23))⟩,
        ⟨some 28, none, .op (.nilCheck (.t 21))⟩,
        ⟨some 29, none, .op (.fieldAddr 3 (.t 28))⟩,
        ⟨none, none, .op (.store 1 (.t 29) (.t 25))⟩])
      (.ops [⟨some 30, none, .op (.mv (.t 1))⟩,
        ⟨some 31, none, .op (.mv (.t 0))⟩,
        ⟨some 32, none, .op (.callF 81 [(.t 31)])⟩,
        ⟨some 33, none, .op (.nilCheck (.t 30))⟩,
        ⟨some 34, none, .op (.fieldAddr 6 (.t 33))⟩,
        ⟨none, none, .op (.store 16 (.t 34) (.t 32))⟩]))
      (.seq (.ops [⟨some 36, none, .op (.bin .eql (.t 11) (.c (.int .i64 65534)))⟩,
        ⟨some 35, none, .op (.mv (.t 36))⟩])
      (.cond (.t 35)
        (.seq (.ops [⟨some 37, none, .op (.mv (.t 1))⟩,
          ⟨some 38, none, .op (.mv (.t 1))⟩,
          ⟨some 39, none, .op (.mv (.t 0))⟩,
          ⟨some 40, none, .op (.callF 61 [(.t 39), (.c (.int .i64 4))])⟩,
          ⟨some 41, none, .op (.mv (.t 0))⟩,
          ⟨some 42, none, .op (.callF 61 [(.t 41), (.c (.int .i64 4))])⟩,
          ⟨some 43, none, .op (.nilCheck (.t 37))⟩,
          ⟨some 44, none, .op (.fieldAddr 4 (.t 43))⟩,
          ⟨none, none, .op (.store 1 (.t 44) (.t 40))⟩,
          ⟨some 45, none, .op (.nilCheck (.t 38))⟩,
          ⟨some 46, none, .op (.fieldAddr 5 (.t 45))⟩,
          ⟨none, none, .op (.store 1 (.t 46) (.t 42))⟩])
        (.ops [⟨some 47, none, .op (.mv (.t 1))⟩,
          ⟨some 48, none, .op (.mv (.t 0))⟩,
          ⟨some 49, none, .op (.callF 81 [(.t 48)])⟩,
          ⟨some 50, none, .op (.nilCheck (.t 47))⟩,
          ⟨some 51, none, .op (.fieldAddr 6 (.t 50))⟩,
          ⟨none, none, .op (.store 16 (.t 51) (.t 49))⟩]))
        (.ops [⟨some 12, none, .op (.mv (.t 1))⟩,
          ⟨some 13, none, .op (.mv (.t 0))⟩,
          ⟨some 14, none, .op (.mv (.t 6))⟩,
          ⟨some 15, none, .op (.callF 73 [(.t 13), (.t 14)])⟩,
          ⟨some 16, none, .op (.nilCheck (.t 12))⟩,
          ⟨some 17, none, .op (.fieldAddr 1 (.t 16))⟩,
          ⟨none, none, .op (.store 1 (.t 17) (.t 15))⟩]))))))))))
theorem F79 : FI 79 3 52 6 [] c79 := ⟨⟨Try.f79, Try.func79, by kernel_rfl, by kernel_rfl, by kernel_rfl⟩, by kernel_rfl, by decide, by kernel_rfl⟩
/- f74 (*understory/page.reader).entries: 10 temporaries, depth 4, 4 parameters, results [t8] -/
def c74 : RC :=
  (.seq (.ops [⟨some 4, none, .op (.box 124 (.t 0))⟩,
    ⟨some 5, none, .op (.box 3 (.t 1))⟩,
    ⟨some 6, none, .op (.box 3 (.t 2))⟩,
    ⟨some 7, none, .op (.box 9 (.t 3))⟩,
    ⟨some 8, none, .op (.mv (.c .nilf))⟩])
  (.seq (.ops [⟨some 9, none, .op (.mkFn (.func 78) [] [(.t 5), (.t 4), (.t 6), (.t 7)])⟩,
    ⟨some 8, none, .op (.mv (.t 9))⟩])
  .ret))
theorem F74 : FI 74 4 10 4 [.tmp 8] c74 := ⟨⟨Try.f74, Try.func74, by kernel_rfl, by kernel_rfl, by kernel_rfl⟩, by kernel_rfl, by decide, by kernel_rfl⟩
/- f78 (*understory/page.reader).entries$1: 38 temporaries, depth 6, 1 parameters, results [] -/
def c78 : RC :=
  (.seq (.ops [⟨some 9, none, .op (.load false 1 (.t 1))⟩,
    ⟨some 10, none, .op (.mv (.c (.int .i64 0)))⟩])
  (.block 0
    (.loop
      (.seq (.ops [⟨some 11, none, .op (.bin .lss (.t 10) (.t 9))⟩])
      (.seq (.cond (.t 11)
        .skip
        (.exit 0))
      (.seq (.block 1
        (.seq (.ops [⟨some 12, none, .op (.mv (.t 10))⟩,
          ⟨some 6, none, .op (.mv (.t 12))⟩])
        (.seq (.ops [⟨some 7, none, .op (.alloc 51 [(.str []), (.str []), (.int .i64 0), (.int .i64 0), (.int .i64 0), (.int .i64 0), (.int .u8 0), (.int .u8 0), (.int .u8 0), (.int .u8 0), (.int .u8 0), (.int .u8 0), (.int .u8 0), (.int .u8 0), (.int .u8 0), (.int .u8 0), (.int .u8 0), (.int .u8 0), (.int .u8 0), (.int .u8 0), (.int .u8 0), (.int .u8 0)])⟩])
        (.seq (.draw [(⟨some 13, none, .op (.load false 1 (.t 2))⟩, 1),
          (⟨some 14, none, .op (.load false 1 (.t 2))⟩, 1),
          (⟨some 15, none, .op (.callF 61 [(.t 14), (.c (.int .i64 1))])⟩, 2),
          (⟨some 16, none, .op (.callF 73 [(.t 13), (.t 15)])⟩, 2),
          (⟨some 8, none, .op (.mv (.t 16))⟩, 0)])
        (.seq (.seq (.ops [⟨some 17, none, .op (.mv (.t 6))⟩,
          ⟨some 18, none, .op (.bin .gtr (.t 17) (.c (.int .i64 0)))⟩,
          ⟨some 19, none, .op (.mv (.t 18))⟩,
          ⟨some 20, some (19, false), .op (.load false 1 (.t 3))⟩,
          ⟨some 21, some (19, false), .op (.bin .eql (.t 20) (.c (.int .i64 0)))⟩,
          ⟨some 22, none, .op (.pick (.t 19) (.c (.bool true)) (.t 21))⟩])
        (.cond (.t 22)
          (.ops [⟨some 23, none, .op (.load false 1 (.t 4))⟩,
            ⟨some 24, none, .op (.fieldAddr 0 (.t 7))⟩,
            ⟨none, none, .op (.store 1 (.t 24) (.t 23))⟩])
          .skip))
        (.cut (.seq (.ops [⟨some 25, none, .op (.fieldAddr 0 (.t 7))⟩,
          ⟨some 26, none, .op (.load false 1 (.t 25))⟩,
          ⟨some 27, none, .op (.mv (.t 8))⟩,
          ⟨some 28, none, .op (.bin .add (.t 26) (.t 27))⟩,
          ⟨some 29, none, .op (.fieldAddr 0 (.t 7))⟩,
          ⟨none, none, .op (.store 1 (.t 29) (.t 28))⟩])
        (.seq (.ops [⟨some 30, none, .op (.load false 1 (.t 2))⟩,
          ⟨some 31, none, .op (.load false 1 (.t 3))⟩,
          ⟨some 32, none, .op (.callF 79 [(.t 30), (.t 7), (.t 31)])⟩])
        (.seq (.ops [⟨some 33, none, .op (.mv (.t 0))⟩,
          ⟨some 34, none, .op (.load true 22 (.t 7))⟩,
          ⟨some 35, none, .op (.callV (.t 33) [(.t 34)])⟩,
          ⟨some 36, none, .op (.un .not (.t 35))⟩])
        (.cond (.t 36)
          .ret
          .skip))))))))))
      (.cut (.ops [⟨some 37, none, .op (.bin .add (.t 10) (.c (.int .i64 1)))⟩,
        ⟨some 10, none, .op (.mv (.t 37))⟩]))))))))
theorem F78 : FI 78 5 38 6 [] c78 := ⟨⟨Try.f78, Try.func78, by kernel_rfl, by kernel_rfl, by kernel_rfl⟩, by kernel_rfl, by decide, by kernel_rfl⟩
end Go.Proofs
/- The looked-up text of the functions. -/
namespace Go.Proofs
open Go Go.Abs
-- 104 functions
/- f56 (*strings.Builder).copyCheck: 20 temporaries, depth 5, 1 parameters, results [] -/
def c56 : RC :=
  (.seq (.ops [⟨some 2, none, .op (.mv (.t 0))⟩,
    ⟨some 3, none, .op (.nilCheck (.t 2))⟩,
    ⟨some 4, none, .op (.fieldAddr 0 (.t 3))⟩,
    ⟨some 5, none, .op (.load false 1 (.t 4))⟩,
    ⟨some 6, none, .op (.isNil false (.t 5))⟩])
  (.cond (.t 6)
    (.ops [⟨some 7, none, .op (.mv (.t 0))⟩,
      ⟨some 8, none, .op (.mv (.t 0))⟩,
      ⟨some 9, none, .op (.toU (.t 8))⟩,
      ⟨some 10, none, .op (.mv (.t 9))⟩,
      ⟨some 11, none, .op (.frU 66 (.t 10))⟩,
      ⟨some 12, none, .op (.nilCheck (.t 7))⟩,
      ⟨some 13, none, .op (.fieldAddr 0 (.t 12))⟩,
      ⟨none, none, .op (.store 1 (.t 13) (.t 11))⟩])
    (.seq (.ops [⟨some 14, none, .op (.mv (.t 0))⟩,
      ⟨some 15, none, .op (.nilCheck (.t 14))⟩,
      ⟨some 16, none, .op (.fieldAddr 0 (.t 15))⟩,
      ⟨some 17, none, .op (.load false 1 (.t 16))⟩,
      ⟨some 18, none, .op (.mv (.t 0))⟩,
      ⟨some 19, none, .op (.cmp true 64 (.t 17) (.t 18))⟩])
    (.cond (.t 19)
      (.raw (.refuse "(*strings.Builder).copyCheck builder.go:41: unsupported: a written strings.Builder's value in another place: whether the library's copy check passes hangs on where the compiler lays the two"))
      .skip))))
theorem F56 : FI 56 1 20 5 [] c56 := ⟨⟨Try.f56, Try.func56, by kernel_rfl, by kernel_rfl, by kernel_rfl⟩, by kernel_rfl, by decide, by kernel_rfl⟩
/- f26 (*strings.Builder).WriteByte: 17 temporaries, depth 5, 2 parameters, results [t4] -/
def c26 : RC :=
  (.seq (.ops [⟨some 4, none, .op (.mv (.c .nili))⟩])
  (.seq (.ops [⟨some 5, none, .op (.mv (.t 0))⟩,
    ⟨some 6, none, .op (.callF 56 [(.t 5)])⟩])
  (.seq (.ops [⟨some 7, none, .op (.mv (.t 0))⟩,
    ⟨some 8, none, .op (.mv (.t 0))⟩,
    ⟨some 9, none, .op (.nilCheck (.t 8))⟩,
    ⟨some 10, none, .op (.fieldAddr 1 (.t 9))⟩,
    ⟨some 11, none, .op (.load false 1 (.t 10))⟩,
    ⟨some 12, none, .op (.mv (.t 1))⟩,
    ⟨some 13, none, .op (.mkLst 1 false 1 [(.int .u8 0)] [(0, 1, (.t 12))])⟩,
    ⟨some 14, none, .op (.app 5 1 (.t 11) (.t 13))⟩,
    ⟨some 15, none, .op (.nilCheck (.t 7))⟩,
    ⟨some 16, none, .op (.fieldAddr 1 (.t 15))⟩,
    ⟨none, none, .op (.store 1 (.t 16) (.t 14))⟩])
  (.seq (.ops [⟨some 4, none, .op (.mv (.c .nili))⟩])
  .ret))))
theorem F26 : FI 26 2 17 5 [.tmp 4] c26 := ⟨⟨Try.f26, Try.func26, by kernel_rfl, by kernel_rfl, by kernel_rfl⟩, by kernel_rfl, by decide, by kernel_rfl⟩
/- f29 (*strings.Builder).WriteString: 19 temporaries, depth 5, 2 parameters, results [t4, t5] -/
def c29 : RC :=
  (.seq (.ops [⟨some 4, none, .op (.mv (.c (.int .i64 0)))⟩,
    ⟨some 5, none, .op (.mv (.c .nili))⟩])
  (.seq (.ops [⟨some 6, none, .op (.mv (.t 0))⟩,
    ⟨some 7, none, .op (.callF 56 [(.t 6)])⟩])
  (.seq (.ops [⟨some 8, none, .op (.mv (.t 0))⟩,
    ⟨some 9, none, .op (.mv (.t 0))⟩,
    ⟨some 10, none, .op (.nilCheck (.t 9))⟩,
    ⟨some 11, none, .op (.fieldAddr 1 (.t 10))⟩,
    ⟨some 12, none, .op (.load false 1 (.t 11))⟩,
    ⟨some 13, none, .op (.mv (.t 1))⟩,
    ⟨some 14, none, .op (.app 5 1 (.t 12) (.t 13))⟩,
    ⟨some 15, none, .op (.nilCheck (.t 8))⟩,
    ⟨some 16, none, .op (.fieldAddr 1 (.t 15))⟩,
    ⟨none, none, .op (.store 1 (.t 16) (.t 14))⟩])
  (.seq (.ops [⟨some 17, none, .op (.mv (.t 1))⟩,
    ⟨some 18, none, .op (.lenS (.t 17))⟩,
    ⟨some 4, none, .op (.mv (.t 18))⟩,
    ⟨some 5, none, .op (.mv (.c .nili))⟩])
  .ret))))
theorem F29 : FI 29 2 19 5 [.tmp 4, .tmp 5] c29 := ⟨⟨Try.f29, Try.func29, by kernel_rfl, by kernel_rfl, by kernel_rfl⟩, by kernel_rfl, by decide, by kernel_rfl⟩
/- f31 (*strings.Builder).Len: 8 temporaries, depth 4, 1 parameters, results [t2] -/
def c31 : RC :=
  (.seq (.ops [⟨some 2, none, .op (.mv (.c (.int .i64 0)))⟩])
  (.seq (.ops [⟨some 3, none, .op (.mv (.t 0))⟩,
    ⟨some 4, none, .op (.nilCheck (.t 3))⟩,
    ⟨some 5, none, .op (.fieldAddr 1 (.t 4))⟩,
    ⟨some 6, none, .op (.load false 1 (.t 5))⟩,
    ⟨some 7, none, .op (.lenL (.t 6))⟩,
    ⟨some 2, none, .op (.mv (.t 7))⟩])
  .ret))
theorem F31 : FI 31 1 8 4 [.tmp 2] c31 := ⟨⟨Try.f31, Try.func31, by kernel_rfl, by kernel_rfl, by kernel_rfl⟩, by kernel_rfl, by decide, by kernel_rfl⟩
/- f33 (*strings.Builder).String: 14 temporaries, depth 4, 1 parameters, results [t2] -/
def c33 : RC :=
  (.seq (.ops [⟨some 2, none, .op (.mv (.c (.str [])))⟩])
  (.seq (.draw [(⟨some 3, none, .op (.mv (.t 0))⟩, 0),
    (⟨some 4, none, .op (.nilCheck (.t 3))⟩, 0),
    (⟨some 5, none, .op (.fieldAddr 1 (.t 4))⟩, 0),
    (⟨some 6, none, .op (.load false 1 (.t 5))⟩, 1),
    (⟨some 7, none, .op (.uData (.t 6))⟩, 0),
    (⟨some 8, none, .op (.mv (.t 0))⟩, 0),
    (⟨some 9, none, .op (.nilCheck (.t 8))⟩, 0),
    (⟨some 10, none, .op (.fieldAddr 1 (.t 9))⟩, 0),
    (⟨some 11, none, .op (.load false 1 (.t 10))⟩, 1),
    (⟨some 12, none, .op (.lenL (.t 11))⟩, 0),
    (⟨some 13, none, .op (.uStr 5 (.t 7) (.t 12))⟩, 2),
    (⟨some 2, none, .op (.mv (.t 13))⟩, 0)])
  .ret))
theorem F33 : FI 33 1 14 4 [.tmp 2] c33 := ⟨⟨Try.f33, Try.func33, by kernel_rfl, by kernel_rfl, by kernel_rfl⟩, by kernel_rfl, by decide, by kernel_rfl⟩
/- f27 (*understory/page.writer).number: 22 temporaries, depth 5, 3 parameters, results [] -/
def c27 : RC :=
  (.seq (.ops [⟨some 7, none, .op (.mv (.t 2))⟩,
    ⟨some 8, none, .op (.bin .sub (.t 7) (.c (.int .i64 1)))⟩,
    ⟨some 6, none, .op (.mv (.t 8))⟩])
  (.block 0
    (.loop
      (.seq (.seq (.ops [⟨some 9, none, .op (.mv (.t 6))⟩,
        ⟨some 10, none, .op (.bin .geq (.t 9) (.c (.int .i64 0)))⟩])
      (.cond (.t 10)
        .skip
        (.exit 0)))
      (.seq (.block 1
        (.draw [(⟨some 13, none, .op (.mv (.t 0))⟩, 0),
          (⟨some 14, none, .op (.nilCheck (.t 13))⟩, 0),
          (⟨some 15, none, .op (.fieldAddr 0 (.t 14))⟩, 0),
          (⟨some 16, none, .op (.mv (.t 1))⟩, 0),
          (⟨some 17, none, .op (.mv (.t 6))⟩, 0),
          (⟨some 18, none, .op (.bin .mul (.c (.int .i64 8)) (.t 17))⟩, 0),
          (⟨some 19, none, .op (.bin .shr (.t 16) (.t 18))⟩, 0),
          (⟨some 20, none, .op (.toInt .u8 (.t 19))⟩, 0),
          (⟨some 21, none, .op (.callF 26 [(.t 15), (.t 20)])⟩, 2)]))
      (.ops [⟨some 11, none, .op (.mv (.t 6))⟩,
        ⟨some 12, none, .op (.bin .sub (.t 11) (.c (.int .i64 1)))⟩,
        ⟨some 6, none, .op (.mv (.t 12))⟩]))))))
theorem F27 : FI 27 3 22 5 [] c27 := ⟨⟨Try.f27, Try.func27, by kernel_rfl, by kernel_rfl, by kernel_rfl⟩, by kernel_rfl, by decide, by kernel_rfl⟩
/- f102 (*understory/page.writer).sum: 10 temporaries, depth 4, 2 parameters, results [] -/
def c102 : RC :=
  (.seq (.ops [⟨some 3, none, .op (.box 49 (.t 1))⟩])
  (.draw [(⟨some 4, none, .op (.mv (.t 0))⟩, 0),
    (⟨some 5, none, .op (.nilCheck (.t 4))⟩, 0),
    (⟨some 6, none, .op (.fieldAddr 0 (.t 5))⟩, 0),
    (⟨some 7, none, .op (.sliceP 16 1 (.t 3) none none none)⟩, 1),
    (⟨some 8, none, .op (.bytesStr (.t 7))⟩, 3),
    (⟨some 9, none, .op (.callF 29 [(.t 6), (.t 8)])⟩, 2)]))
theorem F102 : FI 102 2 10 4 [] c102 := ⟨⟨Try.f102, Try.func102, by kernel_rfl, by kernel_rfl, by kernel_rfl⟩, by kernel_rfl, by decide, by kernel_rfl⟩
end Go.Proofs
/- The looked-up text of the functions. -/
namespace Go.Proofs
open Go Go.Abs
-- 104 functions
/- f11 understory/understorylaw04.few: 33 temporaries, depth 6, 1 parameters, results [t2] -/
def c11 : RC :=
  (.seq (.ops [⟨some 2, none, .op (.mv (.c (.bool false)))⟩])
  (.seq (.seq (.ops [⟨some 3, none, .op (.mv (.c (.int .i64 0)))⟩])
  (.block 0
    (.loop
      (.seq (.seq (.ops [⟨some 4, none, .op (.mv (.t 3))⟩,
        ⟨some 5, none, .op (.mv (.t 0))⟩,
        ⟨some 6, none, .op (.lenL (.t 5))⟩,
        ⟨some 7, none, .op (.bin .lss (.t 4) (.t 6))⟩,
        ⟨some 8, none, .op (.mv (.t 7))⟩,
        ⟨some 9, some (8, true), .op (.mv (.t 3))⟩,
        ⟨some 10, some (8, true), .op (.bin .leq (.t 9) (.c (.int .i64 100)))⟩,
        ⟨some 11, none, .op (.pick (.t 8) (.t 10) (.c (.bool false)))⟩])
      (.cond (.t 11)
        .skip
        (.exit 0)))
      (.seq (.block 1
        (.seq (.ops [⟨some 14, none, .op (.mv (.t 0))⟩,
          ⟨some 15, none, .op (.mv (.t 3))⟩,
          ⟨some 16, none, .op (.indexAddrL 22 (.t 14) (.t 15))⟩,
          ⟨some 17, none, .op (.fieldAddr 0 (.t 16))⟩,
          ⟨some 18, none, .op (.load false 1 (.t 17))⟩,
          ⟨some 19, none, .op (.lenS (.t 18))⟩,
          ⟨some 20, none, .op (.bin .gtr (.t 19) (.c (.int .i64 300)))⟩,
          ⟨some 21, none, .op (.mv (.t 20))⟩,
          ⟨some 22, some (21, false), .op (.mv (.t 0))⟩,
          ⟨some 23, some (21, false), .op (.mv (.t 3))⟩,
          ⟨some 24, some (21, false), .op (.indexAddrL 22 (.t 22) (.t 23))⟩,
          ⟨some 25, some (21, false), .op (.fieldAddr 1 (.t 24))⟩,
          ⟨some 26, some (21, false), .op (.load false 1 (.t 25))⟩,
          ⟨some 27, some (21, false), .op (.lenS (.t 26))⟩,
          ⟨some 28, some (21, false), .op (.bin .gtr (.t 27) (.c (.int .i64 300)))⟩,
          ⟨some 29, none, .op (.pick (.t 21) (.c (.bool true)) (.t 28))⟩])
        (.cond (.t 29)
          (.seq (.ops [⟨some 2, none, .op (.mv (.c (.bool false)))⟩])
          .ret)
          .skip)))
      (.ops [⟨some 12, none, .op (.mv (.t 3))⟩,
        ⟨some 13, none, .op (.bin .add (.t 12) (.c (.int .i64 1)))⟩,
        ⟨some 3, none, .op (.mv (.t 13))⟩]))))))
  (.cut (.seq (.ops [⟨some 30, none, .op (.mv (.t 0))⟩,
    ⟨some 31, none, .op (.lenL (.t 30))⟩,
    ⟨some 32, none, .op (.bin .leq (.t 31) (.c (.int .i64 100)))⟩,
    ⟨some 2, none, .op (.mv (.t 32))⟩])
  .ret))))
theorem F11 : FI 11 1 33 6 [.tmp 2] c11 := ⟨⟨Try.f11, Try.func11, by kernel_rfl, by kernel_rfl, by kernel_rfl⟩, by kernel_rfl, by decide, by kernel_rfl⟩
/- f12 understory/page.Size: 37 temporaries, depth 6, 2 parameters, results [t4, t5] -/
def c12 : RC :=
  (.seq (.ops [⟨some 4, none, .op (.mv (.c (.int .i64 0)))⟩,
    ⟨some 5, none, .op (.mv (.c (.int .i64 0)))⟩])
  (.seq (.seq (.ops [⟨some 10, none, .op (.mv (.t 0))⟩,
    ⟨some 11, none, .op (.mv (.t 1))⟩,
    ⟨some 12, none, .op (.callF 15 [(.t 10), (.t 11)])⟩,
    ⟨some 13, none, .op (.un .not (.t 12))⟩])
  (.cond (.t 13)
    (.seq (.ops [⟨some 4, none, .op (.mv (.c (.int .i64 0)))⟩,
      ⟨some 5, none, .op (.mv (.c (.int .i64 2)))⟩])
    .ret)
    .skip))
  (.seq (.ops [⟨some 15, none, .op (.mv (.t 0))⟩,
    ⟨some 16, none, .op (.mv (.t 1))⟩,
    ⟨some 17, none, .op (.callF 13 [(.t 15), (.t 16)])⟩,
    ⟨some 14, none, .op (.mv (.t 17))⟩,
    ⟨some 18, none, .op (.extract (.t 14) 0)⟩,
    ⟨some 19, none, .op (.extract (.t 14) 1)⟩,
    ⟨some 6, none, .op (.mv (.t 18))⟩,
    ⟨some 7, none, .op (.mv (.t 19))⟩])
  (.seq (.ops [⟨some 20, none, .op (.mv (.t 0))⟩,
    ⟨some 21, none, .op (.mv (.t 1))⟩,
    ⟨some 22, none, .op (.callF 37 [(.t 20), (.t 21)])⟩,
    ⟨some 23, none, .op (.lenS (.t 22))⟩,
    ⟨some 8, none, .op (.mv (.t 23))⟩])
  (.seq (.ops [⟨some 24, none, .op (.mv (.t 0))⟩,
    ⟨some 25, none, .op (.lenL (.t 24))⟩,
    ⟨some 9, none, .op (.mv (.t 25))⟩])
  (.seq (.seq (.ops [⟨some 26, none, .op (.mv (.t 1))⟩,
    ⟨some 27, none, .op (.bin .gtr (.t 26) (.c (.int .i64 0)))⟩])
  (.cond (.t 27)
    (.ops [⟨some 28, none, .op (.mv (.t 9))⟩,
      ⟨some 29, none, .op (.bin .sub (.t 28) (.c (.int .i64 1)))⟩,
      ⟨some 9, none, .op (.mv (.t 29))⟩])
    .skip))
  (.seq (.ops [⟨some 30, none, .op (.mv (.t 6))⟩,
    ⟨some 31, none, .op (.mv (.t 9))⟩,
    ⟨some 32, none, .op (.mv (.t 8))⟩,
    ⟨some 33, none, .op (.bin .mul (.t 31) (.t 32))⟩,
    ⟨some 34, none, .op (.bin .sub (.t 30) (.t 33))⟩,
    ⟨some 35, none, .op (.mv (.t 8))⟩,
    ⟨some 36, none, .op (.bin .add (.t 34) (.t 35))⟩,
    ⟨some 4, none, .op (.mv (.t 36))⟩,
    ⟨some 5, none, .op (.mv (.c (.int .i64 0)))⟩])
  .ret)))))))
theorem F12 : FI 12 2 37 6 [.tmp 4, .tmp 5] c12 := ⟨⟨Try.f12, Try.func12, by kernel_rfl, by kernel_rfl, by kernel_rfl⟩, by kernel_rfl, by decide, by kernel_rfl⟩
/- f13 understory/page.Weight: 33 temporaries, depth 6, 2 parameters, results [t4, t5] -/
def c13 : RC :=
  (.seq (.ops [⟨some 4, none, .op (.mv (.c (.int .i64 0)))⟩,
    ⟨some 5, none, .op (.mv (.c (.int .i64 0)))⟩])
  (.seq (.seq (.ops [⟨some 11, none, .op (.mv (.t 1))⟩,
    ⟨some 12, none, .op (.callF 38 [(.t 11), (.c (.int .i64 0)), (.c (.int .i64 20))])⟩,
    ⟨some 13, none, .op (.un .not (.t 12))⟩])
  (.cond (.t 13)
    (.seq (.ops [⟨some 4, none, .op (.mv (.c (.int .i64 0)))⟩,
      ⟨some 5, none, .op (.mv (.c (.int .i64 2)))⟩])
    .ret)
    .skip))
  (.seq (.ops [⟨some 6, none, .op (.mv (.c (.int .i64 6)))⟩])
  (.seq (.seq (.ops [⟨some 14, none, .op (.mv (.t 0))⟩,
    ⟨some 15, none, .op (.lenL (.t 14))⟩,
    ⟨some 16, none, .op (.mv (.c (.int .i64 0)))⟩])
  (.block 0
    (.loop
      (.seq (.ops [⟨some 17, none, .op (.bin .lss (.t 16) (.t 15))⟩])
      (.seq (.cond (.t 17)
        .skip
        (.exit 0))
      (.seq (.block 1
        (.seq (.ops [⟨some 18, none, .op (.indexAddrL 22 (.t 14) (.t 16))⟩,
          ⟨some 19, none, .op (.load true 22 (.t 18))⟩,
          ⟨some 8, none, .op (.alloc 51 [(.str []), (.str []), (.int .i64 0), (.int .i64 0), (.int .i64 0), (.int .i64 0), (.int .u8 0), (.int .u8 0), (.int .u8 0), (.int .u8 0), (.int .u8 0), (.int .u8 0), (.int .u8 0), (.int .u8 0), (.int .u8 0), (.int .u8 0), (.int .u8 0), (.int .u8 0), (.int .u8 0), (.int .u8 0), (.int .u8 0), (.int .u8 0)])⟩,
          ⟨none, none, .op (.store 22 (.t 8) (.t 19))⟩])
        (.seq (.ops [⟨some 21, none, .op (.load true 22 (.t 8))⟩,
          ⟨some 22, none, .op (.mv (.t 1))⟩,
          ⟨some 23, none, .op (.callF 39 [(.t 21), (.t 22)])⟩,
          ⟨some 20, none, .op (.mv (.t 23))⟩,
          ⟨some 24, none, .op (.extract (.t 20) 0)⟩,
          ⟨some 25, none, .op (.extract (.t 20) 1)⟩,
          ⟨some 9, none, .op (.mv (.t 24))⟩,
          ⟨some 10, none, .op (.mv (.t 25))⟩])
        (.seq (.seq (.ops [⟨some 26, none, .op (.mv (.t 10))⟩,
          ⟨some 27, none, .op (.un .not (.t 26))⟩])
        (.cond (.t 27)
          (.seq (.ops [⟨some 4, none, .op (.mv (.c (.int .i64 0)))⟩,
            ⟨some 5, none, .op (.mv (.c (.int .i64 2)))⟩])
          .ret)
          .skip))
        (.ops [⟨some 28, none, .op (.mv (.t 6))⟩,
          ⟨some 29, none, .op (.mv (.t 9))⟩,
          ⟨some 30, none, .op (.bin .add (.t 28) (.t 29))⟩,
          ⟨some 6, none, .op (.mv (.t 30))⟩])))))
      (.ops [⟨some 31, none, .op (.bin .add (.t 16) (.c (.int .i64 1)))⟩,
        ⟨some 16, none, .op (.mv (.t 31))⟩])))))))
  (.cut (.seq (.ops [⟨some 32, none, .op (.mv (.t 6))⟩,
    ⟨some 4, none, .op (.mv (.t 32))⟩,
    ⟨some 5, none, .op (.mv (.c (.int .i64 0)))⟩])
  .ret))))))
theorem F13 : FI 13 2 33 6 [.tmp 4, .tmp 5] c13 := ⟨⟨Try.f13, Try.func13, by kernel_rfl, by kernel_rfl, by kernel_rfl⟩, by kernel_rfl, by decide, by kernel_rfl⟩
/- f14 understory/page.Prefix: 13 temporaries, depth 4, 2 parameters, results [t4, t5] -/
def c14 : RC :=
  (.seq (.ops [⟨some 4, none, .op (.mv (.c (.str [])))⟩,
    ⟨some 5, none, .op (.mv (.c (.int .i64 0)))⟩])
  (.seq (.seq (.ops [⟨some 6, none, .op (.mv (.t 0))⟩,
    ⟨some 7, none, .op (.mv (.t 1))⟩,
    ⟨some 8, none, .op (.callF 15 [(.t 6), (.t 7)])⟩,
    ⟨some 9, none, .op (.un .not (.t 8))⟩])
  (.cond (.t 9)
    (.seq (.ops [⟨some 4, none, .op (.mv (.c (.str [])))⟩,
      ⟨some 5, none, .op (.mv (.c (.int .i64 2)))⟩])
    .ret)
    .skip))
  (.seq (.ops [⟨some 10, none, .op (.mv (.t 0))⟩,
    ⟨some 11, none, .op (.mv (.t 1))⟩,
    ⟨some 12, none, .op (.callF 37 [(.t 10), (.t 11)])⟩,
    ⟨some 4, none, .op (.mv (.t 12))⟩,
    ⟨some 5, none, .op (.mv (.c (.int .i64 0)))⟩])
  .ret)))
theorem F14 : FI 14 2 13 4 [.tmp 4, .tmp 5] c14 := ⟨⟨Try.f14, Try.func14, by kernel_rfl, by kernel_rfl, by kernel_rfl⟩, by kernel_rfl, by decide, by kernel_rfl⟩
/- f15 understory/page.Valid: 78 temporaries, depth 7, 2 parameters, results [t4] -/
def c15 : RC :=
  (.seq (.ops [⟨some 4, none, .op (.mv (.c (.bool false)))⟩])
  (.seq (.seq (.ops [⟨some 7, none, .op (.mv (.t 1))⟩,
    ⟨some 8, none, .op (.callF 38 [(.t 7), (.c (.int .i64 0)), (.c (.int .i64 20))])⟩,
    ⟨some 9, none, .op (.un .not (.t 8))⟩,
    ⟨some 10, none, .op (.mv (.t 9))⟩,
    ⟨some 11, some (10, false), .op (.mv (.t 0))⟩,
    ⟨some 12, some (10, false), .op (.lenL (.t 11))⟩,
    ⟨some 13, some (10, false), .op (.bin .eql (.t 12) (.c (.int .i64 0)))⟩,
    ⟨some 14, none, .op (.pick (.t 10) (.c (.bool true)) (.t 13))⟩,
    ⟨some 15, none, .op (.mv (.t 14))⟩,
    ⟨some 16, some (15, false), .op (.mv (.t 1))⟩,
    ⟨some 17, some (15, false), .op (.bin .gtr (.t 16) (.c (.int .i64 0)))⟩,
    ⟨some 18, some (15, false), .op (.mv (.t 17))⟩,
    ⟨some 19, some (18, true), .op (.mv (.t 0))⟩,
    ⟨some 20, some (18, true), .op (.lenL (.t 19))⟩,
    ⟨some 21, some (18, true), .op (.bin .lss (.t 20) (.c (.int .i64 2)))⟩,
    ⟨some 22, some (18, true), .op (.mv (.t 21))⟩,
    ⟨some 23, some (22, false), .op (.mv (.t 0))⟩,
    ⟨some 24, some (22, false), .op (.indexAddrL 22 (.t 23) (.c (.int .i64 0)))⟩,
    ⟨some 25, some (22, false), .op (.fieldAddr 0 (.t 24))⟩,
    ⟨some 26, some (22, false), .op (.load false 1 (.t 25))⟩,
    ⟨some 27, some (22, false), .op (.bin .neq (.t 26) (.c (.str [])))⟩,
    ⟨some 28, some (18, true), .op (.pick (.t 22) (.c (.bool true)) (.t 27))⟩,
    ⟨some 29, some (15, false), .op (.pick (.t 18) (.t 28) (.c (.bool false)))⟩,
    ⟨some 30, none, .op (.pick (.t 15) (.c (.bool true)) (.t 29))⟩])
  (.cond (.t 30)
    (.seq (.ops [⟨some 4, none, .op (.mv (.c (.bool false)))⟩])
    .ret)
    .skip))
  (.seq (.seq (.ops [⟨some 31, none, .op (.mv (.t 0))⟩,
    ⟨some 32, none, .op (.lenL (.t 31))⟩,
    ⟨some 33, none, .op (.mv (.c (.int .i64 0)))⟩])
  (.block 0
    (.loop
      (.seq (.ops [⟨some 34, none, .op (.bin .lss (.t 33) (.t 32))⟩])
      (.seq (.cond (.t 34)
        .skip
        (.exit 0))
      (.seq (.block 1
        (.seq (.ops [⟨some 35, none, .op (.mv (.t 33))⟩,
          ⟨some 36, none, .op (.indexAddrL 22 (.t 31) (.t 33))⟩,
          ⟨some 37, none, .op (.load true 22 (.t 36))⟩,
          ⟨some 6, none, .op (.alloc 51 [(.str []), (.str []), (.int .i64 0), (.int .i64 0), (.int .i64 0), (.int .i64 0), (.int .u8 0), (.int .u8 0), (.int .u8 0), (.int .u8 0), (.int .u8 0), (.int .u8 0), (.int .u8 0), (.int .u8 0), (.int .u8 0), (.int .u8 0), (.int .u8 0), (.int .u8 0), (.int .u8 0), (.int .u8 0), (.int .u8 0), (.int .u8 0)])⟩,
          ⟨some 5, none, .op (.mv (.t 35))⟩,
          ⟨none, none, .op (.store 22 (.t 6) (.t 37))⟩])
        (.block 2
          (.seq (.seq (.ops [⟨some 39, none, .op (.mv (.t 1))⟩,
            ⟨some 40, none, .op (.bin .eql (.t 39) (.c (.int .i64 0)))⟩,
            ⟨some 41, none, .op (.mv (.t 40))⟩,
            ⟨some 42, some (41, true), .op (.load true 22 (.t 6))⟩,
            ⟨some 43, some (41, true), .op (.callF 40 [(.t 42)])⟩,
            ⟨some 44, some (41, true), .op (.bin .eql (.t 43) (.c (.int .i64 0)))⟩,
            ⟨some 45, none, .op (.pick (.t 41) (.t 44) (.c (.bool false)))⟩,
            ⟨some 38, none, .op (.mv (.t 45))⟩])
          (.cond (.t 38)
            .skip
            (.ops [⟨some 46, none, .op (.mv (.t 1))⟩,
              ⟨some 47, none, .op (.bin .gtr (.t 46) (.c (.int .i64 0)))⟩,
              ⟨some 48, none, .op (.mv (.t 47))⟩,
              ⟨some 49, some (48, true), .op (.load true 22 (.t 6))⟩,
              ⟨some 50, some (48, true), .op (.callF 41 [(.t 49)])⟩,
              ⟨some 51, some (48, true), .op (.un .not (.t 50))⟩,
              ⟨some 52, some (48, true), .op (.mv (.t 51))⟩,
              ⟨some 53, some (52, false), .op (.mv (.t 5))⟩,
              ⟨some 54, some (52, false), .op (.bin .gtr (.t 53) (.c (.int .i64 0)))⟩,
              ⟨some 55, some (52, false), .op (.mv (.t 54))⟩,
              ⟨some 56, some (55, true), .op (.fieldAddr 0 (.t 6))⟩,
              ⟨some 57, some (55, true), .op (.load false 1 (.t 56))⟩,
              ⟨some 58, some (55, true), .op (.bin .eql (.t 57) (.c (.str [])))⟩,
              ⟨some 59, some (52, false), .op (.pick (.t 55) (.t 58) (.c (.bool false)))⟩,
              ⟨some 60, some (48, true), .op (.pick (.t 52) (.c (.bool true)) (.t 59))⟩,
              ⟨some 61, none, .op (.pick (.t 48) (.t 60) (.c (.bool false)))⟩,
              ⟨some 38, none, .op (.mv (.t 61))⟩])))
          (.cond (.t 38)
            (.seq (.ops [⟨some 4, none, .op (.mv (.c (.bool false)))⟩])
            .ret)
            (.seq (.draw [(⟨some 63, none, .op (.mv (.t 5))⟩, 0),
              (⟨some 64, none, .op (.bin .gtr (.t 63) (.c (.int .i64 0)))⟩, 0),
              (⟨some 65, none, .op (.mv (.t 64))⟩, 0),
              (⟨some 66, some (65, true), .op (.mv (.t 0))⟩, 0),
              (⟨some 67, some (65, true), .op (.mv (.t 5))⟩, 0),
              (⟨some 68, some (65, true), .op (.bin .sub (.t 67) (.c (.int .i64 1)))⟩, 0),
              (⟨some 69, some (65, true), .op (.indexAddrL 22 (.t 66) (.t 68))⟩, 0),
              (⟨some 70, some (65, true), .op (.fieldAddr 0 (.t 69))⟩, 0),
              (⟨some 71, some (65, true), .op (.load false 1 (.t 70))⟩, 1),
              (⟨some 72, some (65, true), .op (.fieldAddr 0 (.t 6))⟩, 0),
              (⟨some 73, some (65, true), .op (.load false 1 (.t 72))⟩, 1),
              (⟨some 74, some (65, true), .op (.callF 42 [(.t 71), (.t 73)])⟩, 0),
              (⟨some 75, some (65, true), .op (.bin .geq (.t 74) (.c (.int .i64 0)))⟩, 0),
              (⟨some 76, none, .op (.pick (.t 65) (.t 75) (.c (.bool false)))⟩, 0),
              (⟨some 62, none, .op (.mv (.t 76))⟩, 0)])
            (.cond (.t 62)
              (.seq (.ops [⟨some 4, none, .op (.mv (.c (.bool false)))⟩])
              .ret)
              .skip)))))))
      (.ops [⟨some 77, none, .op (.bin .add (.t 33) (.c (.int .i64 1)))⟩,
        ⟨some 33, none, .op (.mv (.t 77))⟩])))))))
  (.cut (.seq (.ops [⟨some 4, none, .op (.mv (.c (.bool true)))⟩])
  .ret)))))
theorem F15 : FI 15 2 78 7 [.tmp 4] c15 := ⟨⟨Try.f15, Try.func15, by kernel_rfl, by kernel_rfl, by kernel_rfl⟩, by kernel_rfl, by decide, by kernel_rfl⟩
/- f16 understory/understorylaw04.behind: 36 temporaries, depth 6, 3 parameters, results [t6] -/
def c16 : RC :=
  (.seq (.ops [⟨some 6, none, .op (.mv (.c (.lst 0 [] true)))⟩])
  (.seq (.ops [⟨some 9, none, .op (.mkLst 22 true 0 [(.str []), (.str []), (.int .i64 0), (.int .i64 0), (.int .i64 0), (.int .i64 0), (.int .u8 0), (.int .u8 0), (.int .u8 0), (.int .u8 0), (.int .u8 0), (.int .u8 0), (.int .u8 0), (.int .u8 0), (.int .u8 0), (.int .u8 0), (.int .u8 0), (.int .u8 0), (.int .u8 0), (.int .u8 0), (.int .u8 0), (.int .u8 0)] [])⟩,
    ⟨some 10, none, .op (.mv (.t 0))⟩,
    ⟨some 11, none, .op (.app 51 22 (.t 9) (.t 10))⟩,
    ⟨some 7, none, .op (.mv (.t 11))⟩])
  (.seq (.seq (.ops [⟨some 8, none, .op (.mv (.c (.int .i64 0)))⟩])
  (.block 0
    (.loop
      (.seq (.seq (.ops [⟨some 12, none, .op (.mv (.t 8))⟩,
        ⟨some 13, none, .op (.mv (.t 7))⟩,
        ⟨some 14, none, .op (.lenL (.t 13))⟩,
        ⟨some 15, none, .op (.bin .lss (.t 12) (.t 14))⟩])
      (.cond (.t 15)
        .skip
        (.exit 0)))
      (.seq (.block 1
        (.seq (.ops [⟨some 18, none, .op (.mv (.t 1))⟩,
          ⟨some 19, none, .op (.bin .eql (.t 18) (.c (.int .i64 0)))⟩,
          ⟨some 20, none, .op (.mv (.t 19))⟩,
          ⟨some 21, some (20, false), .op (.mv (.t 8))⟩,
          ⟨some 22, some (20, false), .op (.bin .gtr (.t 21) (.c (.int .i64 0)))⟩,
          ⟨some 23, none, .op (.pick (.t 20) (.c (.bool true)) (.t 22))⟩])
        (.cond (.t 23)
          (.cut (.ops [⟨some 24, none, .op (.mv (.t 7))⟩,
            ⟨some 25, none, .op (.mv (.t 8))⟩,
            ⟨some 26, none, .op (.mv (.t 2))⟩,
            ⟨some 27, none, .op (.mv (.t 7))⟩,
            ⟨some 28, none, .op (.mv (.t 8))⟩,
            ⟨some 29, none, .op (.indexAddrL 22 (.t 27) (.t 28))⟩,
            ⟨some 30, none, .op (.fieldAddr 0 (.t 29))⟩,
            ⟨some 31, none, .op (.load false 1 (.t 30))⟩,
            ⟨some 32, none, .op (.bin .add (.t 26) (.t 31))⟩,
            ⟨some 33, none, .op (.indexAddrL 22 (.t 24) (.t 25))⟩,
            ⟨some 34, none, .op (.fieldAddr 0 (.t 33))⟩,
            ⟨none, none, .op (.store 1 (.t 34) (.t 32))⟩]))
          .skip)))
      (.cut (.ops [⟨some 16, none, .op (.mv (.t 8))⟩,
        ⟨some 17, none, .op (.bin .add (.t 16) (.c (.int .i64 1)))⟩,
        ⟨some 8, none, .op (.mv (.t 17))⟩])))))))
  (.cut (.seq (.ops [⟨some 35, none, .op (.mv (.t 7))⟩,
    ⟨some 6, none, .op (.mv (.t 35))⟩])
  .ret)))))
theorem F16 : FI 16 3 36 6 [.tmp 6] c16 := ⟨⟨Try.f16, Try.func16, by kernel_rfl, by kernel_rfl, by kernel_rfl⟩, by kernel_rfl, by decide, by kernel_rfl⟩
/- f17 understory/page.Fits: 19 temporaries, depth 5, 2 parameters, results [t4] -/
def c17 : RC :=
  (.seq (.ops [⟨some 4, none, .op (.mv (.c (.bool false)))⟩])
  (.seq (.seq (.ops [⟨some 7, none, .op (.mv (.t 0))⟩,
    ⟨some 8, none, .op (.mv (.t 1))⟩,
    ⟨some 9, none, .op (.callF 15 [(.t 7), (.t 8)])⟩,
    ⟨some 10, none, .op (.un .not (.t 9))⟩])
  (.cond (.t 10)
    (.seq (.ops [⟨some 4, none, .op (.mv (.c (.bool false)))⟩])
    .ret)
    .skip))
  (.seq (.ops [⟨some 12, none, .op (.mv (.t 0))⟩,
    ⟨some 13, none, .op (.mv (.t 1))⟩,
    ⟨some 14, none, .op (.callF 13 [(.t 12), (.t 13)])⟩,
    ⟨some 11, none, .op (.mv (.t 14))⟩,
    ⟨some 15, none, .op (.extract (.t 11) 0)⟩,
    ⟨some 16, none, .op (.extract (.t 11) 1)⟩,
    ⟨some 5, none, .op (.mv (.t 15))⟩,
    ⟨some 6, none, .op (.mv (.t 16))⟩])
  (.seq (.ops [⟨some 17, none, .op (.mv (.t 5))⟩,
    ⟨some 18, none, .op (.bin .leq (.t 17) (.c (.int .i64 496)))⟩,
    ⟨some 4, none, .op (.mv (.t 18))⟩])
  .ret))))
theorem F17 : FI 17 2 19 5 [.tmp 4] c17 := ⟨⟨Try.f17, Try.func17, by kernel_rfl, by kernel_rfl, by kernel_rfl⟩, by kernel_rfl, by decide, by kernel_rfl⟩
/- f18 understory/page.Capacity: 1 temporaries, depth 2, 0 parameters, results [t0] -/
def c18 : RC :=
  (.seq (.ops [⟨some 0, none, .op (.mv (.c (.int .i64 0)))⟩])
  (.seq (.ops [⟨some 0, none, .op (.mv (.c (.int .i64 496)))⟩])
  .ret))
theorem F18 : FI 18 0 1 2 [.tmp 0] c18 := ⟨⟨Try.f18, Try.func18, by kernel_rfl, by kernel_rfl, by kernel_rfl⟩, by kernel_rfl, by decide, by kernel_rfl⟩
/- f37 understory/page.shared: 31 temporaries, depth 6, 2 parameters, results [t4] -/
def c37 : RC :=
  (.seq (.ops [⟨some 4, none, .op (.mv (.c (.str [])))⟩])
  (.seq (.seq (.ops [⟨some 8, none, .op (.mv (.t 1))⟩,
    ⟨some 9, none, .op (.bin .gtr (.t 8) (.c (.int .i64 0)))⟩])
  (.cond (.t 9)
    (.ops [⟨some 10, none, .op (.mv (.t 0))⟩,
      ⟨some 11, none, .op (.sliceL 22 (.t 10) (some (.c (.int .i64 1))) none none)⟩,
      ⟨some 0, none, .op (.mv (.t 11))⟩])
    .skip))
  (.cut (.seq (.ops [⟨some 12, none, .op (.mv (.t 0))⟩,
    ⟨some 13, none, .op (.indexAddrL 22 (.t 12) (.c (.int .i64 0)))⟩,
    ⟨some 14, none, .op (.fieldAddr 0 (.t 13))⟩,
    ⟨some 15, none, .op (.load false 1 (.t 14))⟩,
    ⟨some 5, none, .op (.mv (.t 15))⟩])
  (.seq (.seq (.ops [⟨some 16, none, .op (.mv (.t 0))⟩,
    ⟨some 17, none, .op (.sliceL 22 (.t 16) (some (.c (.int .i64 1))) none none)⟩,
    ⟨some 18, none, .op (.lenL (.t 17))⟩,
    ⟨some 19, none, .op (.mv (.c (.int .i64 0)))⟩])
  (.block 0
    (.loop
      (.seq (.ops [⟨some 20, none, .op (.bin .lss (.t 19) (.t 18))⟩])
      (.seq (.cond (.t 20)
        .skip
        (.exit 0))
      (.seq (.block 1
        (.seq (.ops [⟨some 21, none, .op (.indexAddrL 22 (.t 17) (.t 19))⟩,
          ⟨some 22, none, .op (.load true 22 (.t 21))⟩,
          ⟨some 7, none, .op (.alloc 51 [(.str []), (.str []), (.int .i64 0), (.int .i64 0), (.int .i64 0), (.int .i64 0), (.int .u8 0), (.int .u8 0), (.int .u8 0), (.int .u8 0), (.int .u8 0), (.int .u8 0), (.int .u8 0), (.int .u8 0), (.int .u8 0), (.int .u8 0), (.int .u8 0), (.int .u8 0), (.int .u8 0), (.int .u8 0), (.int .u8 0), (.int .u8 0)])⟩,
          ⟨none, none, .op (.store 22 (.t 7) (.t 22))⟩])
        (.ops [⟨some 23, none, .op (.mv (.t 5))⟩,
          ⟨some 24, none, .op (.mv (.t 5))⟩,
          ⟨some 25, none, .op (.fieldAddr 0 (.t 7))⟩,
          ⟨some 26, none, .op (.load false 1 (.t 25))⟩,
          ⟨some 27, none, .op (.callF 64 [(.t 24), (.t 26)])⟩,
          ⟨some 28, none, .op (.sliceS (.t 23) none (some (.t 27)))⟩,
          ⟨some 5, none, .op (.mv (.t 28))⟩])))
      (.ops [⟨some 29, none, .op (.bin .add (.t 19) (.c (.int .i64 1)))⟩,
        ⟨some 19, none, .op (.mv (.t 29))⟩])))))))
  (.cut (.seq (.ops [⟨some 30, none, .op (.mv (.t 5))⟩,
    ⟨some 4, none, .op (.mv (.t 30))⟩])
  .ret)))))))
theorem F37 : FI 37 2 31 6 [.tmp 4] c37 := ⟨⟨Try.f37, Try.func37, by kernel_rfl, by kernel_rfl, by kernel_rfl⟩, by kernel_rfl, by decide, by kernel_rfl⟩
/- f38 understory/page.within: 15 temporaries, depth 5, 3 parameters, results [t6] -/
def c38 : RC :=
  (.seq (.ops [⟨some 6, none, .op (.mv (.c (.bool false)))⟩])
  (.seq (.ops [⟨some 7, none, .op (.mv (.t 1))⟩,
    ⟨some 8, none, .op (.mv (.t 0))⟩,
    ⟨some 9, none, .op (.bin .leq (.t 7) (.t 8))⟩,
    ⟨some 10, none, .op (.mv (.t 9))⟩,
    ⟨some 11, some (10, true), .op (.mv (.t 0))⟩,
    ⟨some 12, some (10, true), .op (.mv (.t 2))⟩,
    ⟨some 13, some (10, true), .op (.bin .leq (.t 11) (.t 12))⟩,
    ⟨some 14, none, .op (.pick (.t 10) (.t 13) (.c (.bool false)))⟩,
    ⟨some 6, none, .op (.mv (.t 14))⟩])
  .ret))
theorem F38 : FI 38 3 15 5 [.tmp 6] c38 := ⟨⟨Try.f38, Try.func38, by kernel_rfl, by kernel_rfl, by kernel_rfl⟩, by kernel_rfl, by decide, by kernel_rfl⟩
/- f39 understory/page.weigh: 38 temporaries, depth 6, 2 parameters, results [t4, t5] -/
def c39 : RC :=
  (.seq (.ops [⟨some 2, none, .op (.box 51 (.t 0))⟩,
    ⟨some 4, none, .op (.mv (.c (.int .i64 0)))⟩,
    ⟨some 5, none, .op (.mv (.c (.bool false)))⟩])
  (.seq (.seq (.ops [⟨some 6, none, .op (.mv (.t 1))⟩,
    ⟨some 7, none, .op (.bin .gtr (.t 6) (.c (.int .i64 0)))⟩])
  (.cond (.t 7)
    (.seq (.draw [(⟨some 8, none, .op (.fieldAddr 0 (.t 2))⟩, 0),
      (⟨some 9, none, .op (.load false 1 (.t 8))⟩, 1),
      (⟨some 10, none, .op (.lenS (.t 9))⟩, 0),
      (⟨some 11, none, .op (.bin .add (.t 10) (.c (.int .i64 27)))⟩, 0),
      (⟨some 12, none, .op (.load true 22 (.t 2))⟩, 1),
      (⟨some 13, none, .op (.callF 41 [(.t 12)])⟩, 0),
      (⟨some 4, none, .op (.mv (.t 11))⟩, 0),
      (⟨some 5, none, .op (.mv (.t 13))⟩, 0)])
    .ret)
    .skip))
  (.seq (.seq (.ops [⟨some 14, none, .op (.load true 22 (.t 2))⟩,
    ⟨some 15, none, .op (.callF 40 [(.t 14)])⟩])
  (.block 0
    (.seq (.ops [⟨some 17, none, .op (.bin .eql (.t 15) (.c (.int .i64 1)))⟩,
      ⟨some 16, none, .op (.mv (.t 17))⟩])
    (.cond (.t 16)
      (.seq (.ops [⟨some 18, none, .op (.fieldAddr 0 (.t 2))⟩,
        ⟨some 19, none, .op (.load false 1 (.t 18))⟩,
        ⟨some 20, none, .op (.lenS (.t 19))⟩,
        ⟨some 21, none, .op (.fieldAddr 1 (.t 2))⟩,
        ⟨some 22, none, .op (.load false 1 (.t 21))⟩,
        ⟨some 23, none, .op (.lenS (.t 22))⟩,
        ⟨some 24, none, .op (.bin .add (.t 20) (.t 23))⟩,
        ⟨some 25, none, .op (.bin .add (.t 24) (.c (.int .i64 5)))⟩,
        ⟨some 4, none, .op (.mv (.t 25))⟩,
        ⟨some 5, none, .op (.mv (.c (.bool true)))⟩])
      .ret)
      (.seq (.ops [⟨some 27, none, .op (.bin .eql (.t 15) (.c (.int .i64 2)))⟩,
        ⟨some 26, none, .op (.mv (.t 27))⟩])
      (.cond (.t 26)
        (.seq (.ops [⟨some 28, none, .op (.fieldAddr 0 (.t 2))⟩,
          ⟨some 29, none, .op (.load false 1 (.t 28))⟩,
          ⟨some 30, none, .op (.lenS (.t 29))⟩,
          ⟨some 31, none, .op (.bin .add (.t 30) (.c (.int .i64 27)))⟩,
          ⟨some 4, none, .op (.mv (.t 31))⟩,
          ⟨some 5, none, .op (.mv (.c (.bool true)))⟩])
        .ret)
        (.seq (.ops [⟨some 33, none, .op (.bin .eql (.t 15) (.c (.int .i64 3)))⟩,
          ⟨some 32, none, .op (.mv (.t 33))⟩])
        (.cond (.t 32)
          (.seq (.ops [⟨some 34, none, .op (.fieldAddr 0 (.t 2))⟩,
            ⟨some 35, none, .op (.load false 1 (.t 34))⟩,
            ⟨some 36, none, .op (.lenS (.t 35))⟩,
            ⟨some 37, none, .op (.bin .add (.t 36) (.c (.int .i64 29)))⟩,
            ⟨some 4, none, .op (.mv (.t 37))⟩,
            ⟨some 5, none, .op (.mv (.c (.bool true)))⟩])
          .ret)
          .skip))))))))
  (.seq (.ops [⟨some 4, none, .op (.mv (.c (.int .i64 0)))⟩,
    ⟨some 5, none, .op (.mv (.c (.bool false)))⟩])
  .ret))))
theorem F39 : FI 39 2 38 6 [.tmp 4, .tmp 5] c39 := ⟨⟨Try.f39, Try.func39, by kernel_rfl, by kernel_rfl, by kernel_rfl⟩, by kernel_rfl, by decide, by kernel_rfl⟩
/- f40 understory/page.formOf: 83 temporaries, depth 7, 1 parameters, results [t2] -/
def c40 : RC :=
  (.seq (.ops [⟨some 1, none, .op (.box 51 (.t 0))⟩,
    ⟨some 2, none, .op (.mv (.c (.int .i64 0)))⟩])
  (.seq (.ops [⟨some 3, none, .op (.alloc 49 [(.int .u8 0), (.int .u8 0), (.int .u8 0), (.int .u8 0), (.int .u8 0), (.int .u8 0), (.int .u8 0), (.int .u8 0), (.int .u8 0), (.int .u8 0), (.int .u8 0), (.int .u8 0), (.int .u8 0), (.int .u8 0), (.int .u8 0), (.int .u8 0)])⟩])
  (.seq (.block 0
    (.seq (.ops [⟨some 5, none, .op (.fieldAddr 0 (.t 1))⟩,
      ⟨some 6, none, .op (.load false 1 (.t 5))⟩,
      ⟨some 7, none, .op (.lenS (.t 6))⟩,
      ⟨some 8, none, .op (.callF 38 [(.t 7), (.c (.int .i64 1)), (.c (.int .i64 48))])⟩,
      ⟨some 9, none, .op (.un .not (.t 8))⟩,
      ⟨some 4, none, .op (.mv (.t 9))⟩])
    (.cond (.t 4)
      (.seq (.ops [⟨some 2, none, .op (.mv (.c (.int .i64 0)))⟩])
      .ret)
      (.seq (.ops [⟨some 11, none, .op (.fieldAddr 2 (.t 1))⟩,
        ⟨some 12, none, .op (.load false 1 (.t 11))⟩,
        ⟨some 13, none, .op (.bin .eql (.t 12) (.c (.int .i64 0)))⟩,
        ⟨some 14, none, .op (.mv (.t 13))⟩,
        ⟨some 15, some (14, true), .op (.fieldAddr 3 (.t 1))⟩,
        ⟨some 16, some (14, true), .op (.load false 1 (.t 15))⟩,
        ⟨some 17, some (14, true), .op (.bin .eql (.t 16) (.c (.int .i64 0)))⟩,
        ⟨some 18, none, .op (.pick (.t 14) (.t 17) (.c (.bool false)))⟩,
        ⟨some 19, none, .op (.mv (.t 18))⟩,
        ⟨some 20, some (19, true), .op (.fieldAddr 4 (.t 1))⟩,
        ⟨some 21, some (19, true), .op (.load false 1 (.t 20))⟩,
        ⟨some 22, some (19, true), .op (.bin .eql (.t 21) (.c (.int .i64 0)))⟩,
        ⟨some 23, none, .op (.pick (.t 19) (.t 22) (.c (.bool false)))⟩,
        ⟨some 24, none, .op (.mv (.t 23))⟩,
        ⟨some 25, some (24, true), .op (.fieldAddr 5 (.t 1))⟩,
        ⟨some 26, some (24, true), .op (.load false 1 (.t 25))⟩,
        ⟨some 27, some (24, true), .op (.bin .eql (.t 26) (.c (.int .i64 0)))⟩,
        ⟨some 28, none, .op (.pick (.t 24) (.t 27) (.c (.bool false)))⟩,
        ⟨some 29, none, .op (.mv (.t 28))⟩,
        ⟨some 30, some (29, true), .op (.fieldAddr 6 (.t 1))⟩,
        ⟨some 31, some (29, true), .op (.load true 16 (.t 30))⟩,
        ⟨some 32, some (29, true), .op (.load true 16 (.t 3))⟩,
        ⟨some 33, some (29, true), .op (.cmp false 49 (.t 31) (.t 32))⟩,
        ⟨some 34, none, .op (.pick (.t 29) (.t 33) (.c (.bool false)))⟩,
        ⟨some 35, none, .op (.mv (.t 34))⟩,
        ⟨some 36, some (35, true), .op (.fieldAddr 1 (.t 1))⟩,
        ⟨some 37, some (35, true), .op (.load false 1 (.t 36))⟩,
        ⟨some 38, some (35, true), .op (.lenS (.t 37))⟩,
        ⟨some 39, some (35, true), .op (.bin .leq (.t 38) (.c (.int .i64 64)))⟩,
        ⟨some 40, none, .op (.pick (.t 35) (.t 39) (.c (.bool false)))⟩,
        ⟨some 10, none, .op (.mv (.t 40))⟩])
      (.cond (.t 10)
        (.seq (.ops [⟨some 2, none, .op (.mv (.c (.int .i64 1)))⟩])
        .ret)
        (.seq (.ops [⟨some 42, none, .op (.fieldAddr 1 (.t 1))⟩,
          ⟨some 43, none, .op (.load false 1 (.t 42))⟩,
          ⟨some 44, none, .op (.bin .neq (.t 43) (.c (.str [])))⟩,
          ⟨some 41, none, .op (.mv (.t 44))⟩])
        (.cond (.t 41)
          (.seq (.ops [⟨some 2, none, .op (.mv (.c (.int .i64 0)))⟩])
          .ret)
          (.seq (.ops [⟨some 46, none, .op (.fieldAddr 4 (.t 1))⟩,
            ⟨some 47, none, .op (.load false 1 (.t 46))⟩,
            ⟨some 48, none, .op (.bin .eql (.t 47) (.c (.int .i64 0)))⟩,
            ⟨some 49, none, .op (.mv (.t 48))⟩,
            ⟨some 50, some (49, true), .op (.fieldAddr 5 (.t 1))⟩,
            ⟨some 51, some (49, true), .op (.load false 1 (.t 50))⟩,
            ⟨some 52, some (49, true), .op (.bin .eql (.t 51) (.c (.int .i64 0)))⟩,
            ⟨some 53, none, .op (.pick (.t 49) (.t 52) (.c (.bool false)))⟩,
            ⟨some 54, none, .op (.mv (.t 53))⟩,
            ⟨some 55, some (54, true), .op (.fieldAddr 2 (.t 1))⟩,
            ⟨some 56, some (54, true), .op (.load false 1 (.t 55))⟩,
            ⟨some 57, some (54, true), .op (.callF 51 [(.t 56)])⟩,
            ⟨some 58, none, .op (.pick (.t 54) (.t 57) (.c (.bool false)))⟩,
            ⟨some 59, none, .op (.mv (.t 58))⟩,
            ⟨some 60, some (59, true), .op (.fieldAddr 3 (.t 1))⟩,
            ⟨some 61, some (59, true), .op (.load false 1 (.t 60))⟩,
            ⟨some 62, some (59, true), .op (.callF 38 [(.t 61), (.c (.int .i64 65)), (.c (.int .i64 4000))])⟩,
            ⟨some 63, none, .op (.pick (.t 59) (.t 62) (.c (.bool false)))⟩,
            ⟨some 45, none, .op (.mv (.t 63))⟩])
          (.cond (.t 45)
            (.seq (.ops [⟨some 2, none, .op (.mv (.c (.int .i64 2)))⟩])
            .ret)
            (.seq (.ops [⟨some 65, none, .op (.fieldAddr 2 (.t 1))⟩,
              ⟨some 66, none, .op (.load false 1 (.t 65))⟩,
              ⟨some 67, none, .op (.bin .eql (.t 66) (.c (.int .i64 0)))⟩,
              ⟨some 68, none, .op (.mv (.t 67))⟩,
              ⟨some 69, some (68, true), .op (.fieldAddr 3 (.t 1))⟩,
              ⟨some 70, some (68, true), .op (.load false 1 (.t 69))⟩,
              ⟨some 71, some (68, true), .op (.bin .eql (.t 70) (.c (.int .i64 0)))⟩,
              ⟨some 72, none, .op (.pick (.t 68) (.t 71) (.c (.bool false)))⟩,
              ⟨some 73, none, .op (.mv (.t 72))⟩,
              ⟨some 74, some (73, true), .op (.fieldAddr 4 (.t 1))⟩,
              ⟨some 75, some (73, true), .op (.load false 1 (.t 74))⟩,
              ⟨some 76, some (73, true), .op (.callF 51 [(.t 75)])⟩,
              ⟨some 77, none, .op (.pick (.t 73) (.t 76) (.c (.bool false)))⟩,
              ⟨some 78, none, .op (.mv (.t 77))⟩,
              ⟨some 79, some (78, true), .op (.fieldAddr 5 (.t 1))⟩,
              ⟨some 80, some (78, true), .op (.load false 1 (.t 79))⟩,
              ⟨some 81, some (78, true), .op (.callF 38 [(.t 80), (.c (.int .i64 1)), (.c (.int .i64 2147483647))])⟩,
              ⟨some 82, none, .op (.pick (.t 78) (.t 81) (.c (.bool false)))⟩,
              ⟨some 64, none, .op (.mv (.t 82))⟩])
            (.cond (.t 64)
              (.seq (.ops [⟨some 2, none, .op (.mv (.c (.int .i64 3)))⟩])
              .ret)
              .skip)))))))))))
  (.seq (.ops [⟨some 2, none, .op (.mv (.c (.int .i64 0)))⟩])
  .ret))))
theorem F40 : FI 40 1 83 7 [.tmp 2] c40 := ⟨⟨Try.f40, Try.func40, by kernel_rfl, by kernel_rfl, by kernel_rfl⟩, by kernel_rfl, by decide, by kernel_rfl⟩
/- f41 understory/page.branches: 32 temporaries, depth 6, 1 parameters, results [t2] -/
def c41 : RC :=
  (.seq (.ops [⟨some 1, none, .op (.box 51 (.t 0))⟩,
    ⟨some 2, none, .op (.mv (.c (.bool false)))⟩])
  (.seq (.ops [⟨some 3, none, .op (.fieldAddr 0 (.t 1))⟩,
    ⟨some 4, none, .op (.load false 1 (.t 3))⟩,
    ⟨some 5, none, .op (.lenS (.t 4))⟩,
    ⟨some 6, none, .op (.bin .leq (.t 5) (.c (.int .i64 48)))⟩,
    ⟨some 7, none, .op (.mv (.t 6))⟩,
    ⟨some 8, some (7, true), .op (.fieldAddr 1 (.t 1))⟩,
    ⟨some 9, some (7, true), .op (.load false 1 (.t 8))⟩,
    ⟨some 10, some (7, true), .op (.bin .eql (.t 9) (.c (.str [])))⟩,
    ⟨some 11, none, .op (.pick (.t 7) (.t 10) (.c (.bool false)))⟩,
    ⟨some 12, none, .op (.mv (.t 11))⟩,
    ⟨some 13, some (12, true), .op (.fieldAddr 2 (.t 1))⟩,
    ⟨some 14, some (12, true), .op (.load false 1 (.t 13))⟩,
    ⟨some 15, some (12, true), .op (.bin .eql (.t 14) (.c (.int .i64 0)))⟩,
    ⟨some 16, none, .op (.pick (.t 12) (.t 15) (.c (.bool false)))⟩,
    ⟨some 17, none, .op (.mv (.t 16))⟩,
    ⟨some 18, some (17, true), .op (.fieldAddr 3 (.t 1))⟩,
    ⟨some 19, some (17, true), .op (.load false 1 (.t 18))⟩,
    ⟨some 20, some (17, true), .op (.bin .eql (.t 19) (.c (.int .i64 0)))⟩,
    ⟨some 21, none, .op (.pick (.t 17) (.t 20) (.c (.bool false)))⟩,
    ⟨some 22, none, .op (.mv (.t 21))⟩,
    ⟨some 23, some (22, true), .op (.fieldAddr 4 (.t 1))⟩,
    ⟨some 24, some (22, true), .op (.load false 1 (.t 23))⟩,
    ⟨some 25, some (22, true), .op (.callF 51 [(.t 24)])⟩,
    ⟨some 26, none, .op (.pick (.t 22) (.t 25) (.c (.bool false)))⟩,
    ⟨some 27, none, .op (.mv (.t 26))⟩,
    ⟨some 28, some (27, true), .op (.fieldAddr 5 (.t 1))⟩,
    ⟨some 29, some (27, true), .op (.load false 1 (.t 28))⟩,
    ⟨some 30, some (27, true), .op (.callF 38 [(.t 29), (.c (.int .i64 1)), (.c (.int .i64 2147483647))])⟩,
    ⟨some 31, none, .op (.pick (.t 27) (.t 30) (.c (.bool false)))⟩,
    ⟨some 2, none, .op (.mv (.t 31))⟩])
  .ret))
theorem F41 : FI 41 1 32 6 [.tmp 2] c41 := ⟨⟨Try.f41, Try.func41, by kernel_rfl, by kernel_rfl, by kernel_rfl⟩, by kernel_rfl, by decide, by kernel_rfl⟩
/- f42 understory/enc.Compare: 8 temporaries, depth 4, 2 parameters, results [t4] -/
def c42 : RC :=
  (.seq (.ops [⟨some 4, none, .op (.mv (.c (.int .i64 0)))⟩])
  (.seq (.ops [⟨some 5, none, .op (.mv (.t 0))⟩,
    ⟨some 6, none, .op (.mv (.t 1))⟩,
    ⟨some 7, none, .op (.callF 65 [(.t 5), (.t 6)])⟩,
    ⟨some 4, none, .op (.mv (.t 7))⟩])
  .ret))
theorem F42 : FI 42 2 8 4 [.tmp 4] c42 := ⟨⟨Try.f42, Try.func42, by kernel_rfl, by kernel_rfl, by kernel_rfl⟩, by kernel_rfl, by decide, by kernel_rfl⟩
/- f51 understory/page.numbered: 5 temporaries, depth 3, 1 parameters, results [t2] -/
def c51 : RC :=
  (.seq (.ops [⟨some 2, none, .op (.mv (.c (.bool false)))⟩])
  (.seq (.ops [⟨some 3, none, .op (.mv (.t 0))⟩,
    ⟨some 4, none, .op (.callF 38 [(.t 3), (.c (.int .i64 2)), (.c (.int .i64 4095))])⟩,
    ⟨some 2, none, .op (.mv (.t 4))⟩])
  .ret))
theorem F51 : FI 51 1 5 3 [.tmp 2] c51 := ⟨⟨Try.f51, Try.func51, by kernel_rfl, by kernel_rfl, by kernel_rfl⟩, by kernel_rfl, by decide, by kernel_rfl⟩
/- f64 understory/enc.Prefix: 25 temporaries, depth 5, 2 parameters, results [t4] -/
def c64 : RC :=
  (.seq (.ops [⟨some 4, none, .op (.mv (.c (.int .i64 0)))⟩])
  (.seq (.ops [⟨some 5, none, .op (.mv (.c (.int .i64 0)))⟩])
  (.seq (.block 0
    (.loop
      (.seq (.seq (.draw [(⟨some 6, none, .op (.mv (.t 5))⟩, 0),
        (⟨some 7, none, .op (.mv (.t 0))⟩, 0),
        (⟨some 8, none, .op (.lenS (.t 7))⟩, 0),
        (⟨some 9, none, .op (.mv (.t 1))⟩, 0),
        (⟨some 10, none, .op (.lenS (.t 9))⟩, 0),
        (⟨some 11, none, .op (.mm false (.t 8) (.t 10))⟩, 0),
        (⟨some 12, none, .op (.bin .lss (.t 6) (.t 11))⟩, 0),
        (⟨some 13, none, .op (.mv (.t 12))⟩, 0),
        (⟨some 14, some (13, true), .op (.mv (.t 0))⟩, 0),
        (⟨some 15, some (13, true), .op (.mv (.t 5))⟩, 0),
        (⟨some 16, some (13, true), .op (.indexS (.t 14) (.t 15))⟩, 0),
        (⟨some 17, some (13, true), .op (.mv (.t 1))⟩, 0),
        (⟨some 18, some (13, true), .op (.mv (.t 5))⟩, 0),
        (⟨some 19, some (13, true), .op (.indexS (.t 17) (.t 18))⟩, 0),
        (⟨some 20, some (13, true), .op (.bin .eql (.t 16) (.t 19))⟩, 0),
        (⟨some 21, none, .op (.pick (.t 13) (.t 20) (.c (.bool false)))⟩, 0)])
      (.cond (.t 21)
        .skip
        (.exit 0)))
      (.block 1
        (.ops [⟨some 22, none, .op (.mv (.t 5))⟩,
          ⟨some 23, none, .op (.bin .add (.t 22) (.c (.int .i64 1)))⟩,
          ⟨some 5, none, .op (.mv (.t 23))⟩])))))
  (.cut (.seq (.ops [⟨some 24, none, .op (.mv (.t 5))⟩,
    ⟨some 4, none, .op (.mv (.t 24))⟩])
  .ret)))))
theorem F64 : FI 64 2 25 5 [.tmp 4] c64 := ⟨⟨Try.f64, Try.func64, by kernel_rfl, by kernel_rfl, by kernel_rfl⟩, by kernel_rfl, by decide, by kernel_rfl⟩
/- f65 cmp.Compare[string]: 20 temporaries, depth 5, 2 parameters, results [t4] -/
def c65 : RC :=
  (.seq (.ops [⟨some 4, none, .op (.mv (.c (.int .i64 0)))⟩])
  (.seq (.ops [⟨some 7, none, .op (.mv (.t 0))⟩,
    ⟨some 8, none, .op (.callF 75 [(.t 7)])⟩,
    ⟨some 5, none, .op (.mv (.t 8))⟩])
  (.seq (.ops [⟨some 9, none, .op (.mv (.t 1))⟩,
    ⟨some 10, none, .op (.callF 75 [(.t 9)])⟩,
    ⟨some 6, none, .op (.mv (.t 10))⟩])
  (.seq (.seq (.ops [⟨some 11, none, .op (.mv (.t 5))⟩])
  (.cond (.t 11)
    (.seq (.seq (.ops [⟨some 12, none, .op (.mv (.t 6))⟩])
    (.cond (.t 12)
      (.seq (.ops [⟨some 4, none, .op (.mv (.c (.int .i64 0)))⟩])
      .ret)
      .skip))
    (.seq (.ops [⟨some 4, none, .op (.mv (.c (.int .i64 (-1))))⟩])
    .ret))
    .skip))
  (.seq (.seq (.ops [⟨some 13, none, .op (.mv (.t 6))⟩])
  (.cond (.t 13)
    (.seq (.ops [⟨some 4, none, .op (.mv (.c (.int .i64 1)))⟩])
    .ret)
    .skip))
  (.seq (.seq (.ops [⟨some 14, none, .op (.mv (.t 0))⟩,
    ⟨some 15, none, .op (.mv (.t 1))⟩,
    ⟨some 16, none, .op (.bin .lss (.t 14) (.t 15))⟩])
  (.cond (.t 16)
    (.seq (.ops [⟨some 4, none, .op (.mv (.c (.int .i64 (-1))))⟩])
    .ret)
    .skip))
  (.seq (.seq (.ops [⟨some 17, none, .op (.mv (.t 0))⟩,
    ⟨some 18, none, .op (.mv (.t 1))⟩,
    ⟨some 19, none, .op (.bin .gtr (.t 17) (.t 18))⟩])
  (.cond (.t 19)
    (.seq (.ops [⟨some 4, none, .op (.mv (.c (.int .i64 1)))⟩])
    .ret)
    .skip))
  (.seq (.ops [⟨some 4, none, .op (.mv (.c (.int .i64 0)))⟩])
  .ret))))))))
theorem F65 : FI 65 2 20 5 [.tmp 4] c65 := ⟨⟨Try.f65, Try.func65, by kernel_rfl, by kernel_rfl, by kernel_rfl⟩, by kernel_rfl, by decide, by kernel_rfl⟩
/- f75 cmp.isNaN[string]: 6 temporaries, depth 3, 1 parameters, results [t2] -/
def c75 : RC :=
  (.seq (.ops [⟨some 2, none, .op (.mv (.c (.bool false)))⟩])
  (.seq (.ops [⟨some 3, none, .op (.mv (.t 0))⟩,
    ⟨some 4, none, .op (.mv (.t 0))⟩,
    ⟨some 5, none, .op (.bin .neq (.t 3) (.t 4))⟩,
    ⟨some 2, none, .op (.mv (.t 5))⟩])
  .ret))
theorem F75 : FI 75 1 6 3 [.tmp 2] c75 := ⟨⟨Try.f75, Try.func75, by kernel_rfl, by kernel_rfl, by kernel_rfl⟩, by kernel_rfl, by decide, by kernel_rfl⟩
end Go.Proofs
/- The looked-up text of the functions. -/
namespace Go.Proofs
open Go Go.Abs
-- 104 functions
/- f60 understory/digest.CRC: 5 temporaries, depth 3, 1 parameters, results [t2] -/
def c60 : RC :=
  (.seq (.ops [⟨some 2, none, .op (.mv (.c (.int .u32 0)))⟩])
  (.seq (.ops [⟨some 3, none, .op (.mv (.t 0))⟩,
    ⟨some 4, none, .op (.callF 72 [(.c (.int .u32 0)), (.t 3)])⟩,
    ⟨some 2, none, .op (.mv (.t 4))⟩])
  .ret))
theorem F60 : FI 60 1 5 3 [.tmp 2] c60 := ⟨⟨Try.f60, Try.func60, by kernel_rfl, by kernel_rfl, by kernel_rfl⟩, by kernel_rfl, by decide, by kernel_rfl⟩
/- f72 understory/digest.Extend: 30 temporaries, depth 5, 2 parameters, results [t4] -/
def c72 : RC :=
  (.seq (.ops [⟨some 4, none, .op (.mv (.c (.int .u32 0)))⟩])
  (.seq (.ops [⟨some 8, none, .op (.callF 77 [])⟩,
    ⟨some 5, none, .op (.alloc 149 [(.int .u32 0), (.int .u32 0), (.int .u32 0), (.int .u32 0), (.int .u32 0), (.int .u32 0), (.int .u32 0), (.int .u32 0), (.int .u32 0), (.int .u32 0), (.int .u32 0), (.int .u32 0), (.int .u32 0), (.int .u32 0), (.int .u32 0), (.int .u32 0), (.int .u32 0), (.int .u32 0), (.int .u32 0), (.int .u32 0), (.int .u32 0), (.int .u32 0), (.int .u32 0), (.int .u32 0), (.int .u32 0), (.int .u32 0), (.int .u32 0), (.int .u32 0), (.int .u32 0), (.int .u32 0), (.int .u32 0), (.int .u32 0), (.int .u32 0), (.int .u32 0), (.int .u32 0), (.int .u32 0), (.int .u32 0), (.int .u32 0), (.int .u32 0), (.int .u32 0), (.int .u32 0), (.int .u32 0), (.int .u32 0), (.int .u32 0), (.int .u32 0), (.int .u32 0), (.int .u32 0), (.int .u32 0), (.int .u32 0), (.int .u32 0), (.int .u32 0), (.int .u32 0), (.int .u32 0), (.int .u32 0), (.int .u32 0), (.int .u32 0), (.int .u32 0), (.int .u32 0), (.int .u32 0), (.int .u32 0), (.int .u32 0), (.int .u32 0), (.int .u32 0), (.int .u32 0), (.int .u32 0), (.int .u32 0), (.int .u32 0), (.int .u32 0), (.int .u32 0), (.int .u32 0), (.int .u32 0), (.int .u32 0), (.int .u32 0), (.int .u32 0), (.int .u32 0), (.int .u32 0), (.int .u32 0), (.int .u32 0), (.int .u32 0), (.int .u32 0), (.int .u32 0), (.int .u32 0), (.int .u32 0), (.int .u32 0), (.int .u32 0), (.int .u32 0), (.int .u32 0), (.int .u32 0), (.int .u32 0), (.int .u32 0), (.int .u32 0), (.int .u32 0), (.int .u32 0), (.int .u32 0), (.int .u32 0), (.int .u32 0), (.int .u32 0), (.int .u32 0), (.int .u32 0), (.int .u32 0), (.int .u32 0), (.int .u32 0), (.int .u32 0), (.int .u32 0), (.int .u32 0), (.int .u32 0), (.int .u32 0), (.int .u32 0), (.int .u32 0), (.int .u32 0), (.int .u32 0), (.int .u32 0), (.int .u32 0), (.int .u32 0), (.int .u32 0), (.int .u32 0), (.int .u32 0), (.int .u32 0), (.int .u32 0), (.int .u32 0), (.int .u32 0), (.int .u32 0), (.int .u32 0), (.int .u32 0), (.int .u32 0), (.int .u32 0), (.int .u32 0), (.int .u32 0), (.int .u32 0), (.int .u32 0), (.int .u32 0), (.int .u32 0), (.int .u32 0), (.int .u32 0), (.int .u32 0), (.int .u32 0), (.int .u32 0), (.int .u32 0), (.int .u32 0), (.int .u32 0), (.int .u32 0), (.int .u32 0), (.int .u32 0), (.int .u32 0), (.int .u32 0), (.int .u32 0), (.int .u32 0), (.int .u32 0), (.int .u32 0), (.int .u32 0), (.int .u32 0), (.int .u32 0), (.int .u32 0), (.int .u32 0), (.int .u32 0), (.int .u32 0), (.int .u32 0), (.int .u32 0), (.int .u32 0), (.int .u32 0), (.int .u32 0), (.int .u32 0), (.int .u32 0), (.int .u32 0), (.int .u32 0), (.int .u32 0), (.int .u32 0), (.int .u32 0), (.int .u32 0), (.int .u32 0), (.int .u32 0), (.int .u32 0), (.int .u32 0), (.int .u32 0), (.int .u32 0), (.int .u32 0), (.int .u32 0), (.int .u32 0), (.int .u32 0), (.int .u32 0), (.int .u32 0), (.int .u32 0), (.int .u32 0), (.int .u32 0), (.int .u32 0), (.int .u32 0), (.int .u32 0), (.int .u32 0), (.int .u32 0), (.int .u32 0), (.int .u32 0), (.int .u32 0), (.int .u32 0), (.int .u32 0), (.int .u32 0), (.int .u32 0), (.int .u32 0), (.int .u32 0), (.int .u32 0), (.int .u32 0), (.int .u32 0), (.int .u32 0), (.int .u32 0), (.int .u32 0), (.int .u32 0), (.int .u32 0), (.int .u32 0), (.int .u32 0), (.int .u32 0), (.int .u32 0), (.int .u32 0), (.int .u32 0), (.int .u32 0), (.int .u32 0), (.int .u32 0), (.int .u32 0), (.int .u32 0), (.int .u32 0), (.int .u32 0), (.int .u32 0), (.int .u32 0), (.int .u32 0), (.int .u32 0), (.int .u32 0), (.int .u32 0), (.int .u32 0), (.int .u32 0), (.int .u32 0), (.int .u32 0), (.int .u32 0), (.int .u32 0), (.int .u32 0), (.int .u32 0), (.int .u32 0), (.int .u32 0), (.int .u32 0), (.int .u32 0), (.int .u32 0), (.int .u32 0), (.int .u32 0), (.int .u32 0), (.int .u32 0), (.int .u32 0), (.int .u32 0), (.int .u32 0), (.int .u32 0), (.int .u32 0), (.int .u32 0), (.int .u32 0), (.int .u32 0), (.int .u32 0), (.int .u32 0), (.int .u32 0), (.int .u32 0), (.int .u32 0), (.int .u32 0)])⟩,
    ⟨none, none, .op (.store 256 (.t 5) (.t 8))⟩])
  (.seq (.ops [⟨some 9, none, .op (.mv (.t 0))⟩,
    ⟨some 10, none, .op (.un .xor (.t 9))⟩,
    ⟨some 6, none, .op (.mv (.t 10))⟩])
  (.seq (.seq (.ops [⟨some 11, none, .op (.mv (.t 1))⟩,
    ⟨some 12, none, .op (.lenS (.t 11))⟩,
    ⟨some 13, none, .op (.mv (.c (.int .i64 0)))⟩])
  (.block 0
    (.loop
      (.seq (.ops [⟨some 14, none, .op (.bin .lss (.t 13) (.t 12))⟩])
      (.seq (.cond (.t 14)
        .skip
        (.exit 0))
      (.seq (.block 1
        (.seq (.ops [⟨some 15, none, .op (.mv (.t 13))⟩,
          ⟨some 7, none, .op (.mv (.t 15))⟩])
        (.ops [⟨some 16, none, .op (.mv (.t 6))⟩,
          ⟨some 17, none, .op (.toInt .u8 (.t 16))⟩,
          ⟨some 18, none, .op (.mv (.t 1))⟩,
          ⟨some 19, none, .op (.mv (.t 7))⟩,
          ⟨some 20, none, .op (.indexS (.t 18) (.t 19))⟩,
          ⟨some 21, none, .op (.bin .xor (.t 17) (.t 20))⟩,
          ⟨some 22, none, .op (.indexAddrA 256 1 (.t 5) (.t 21))⟩,
          ⟨some 23, none, .op (.load false 1 (.t 22))⟩,
          ⟨some 24, none, .op (.mv (.t 6))⟩,
          ⟨some 25, none, .op (.bin .shr (.t 24) (.c (.int .u64 8)))⟩,
          ⟨some 26, none, .op (.bin .xor (.t 23) (.t 25))⟩,
          ⟨some 6, none, .op (.mv (.t 26))⟩])))
      (.ops [⟨some 27, none, .op (.bin .add (.t 13) (.c (.int .i64 1)))⟩,
        ⟨some 13, none, .op (.mv (.t 27))⟩])))))))
  (.cut (.seq (.ops [⟨some 28, none, .op (.mv (.t 6))⟩,
    ⟨some 29, none, .op (.un .xor (.t 28))⟩,
    ⟨some 4, none, .op (.mv (.t 29))⟩])
  .ret))))))
theorem F72 : FI 72 2 30 5 [.tmp 4] c72 := ⟨⟨Try.f72, Try.func72, by kernel_rfl, by kernel_rfl, by kernel_rfl⟩, by kernel_rfl, by decide, by kernel_rfl⟩
/- f77 understory/digest.table: 18 temporaries, depth 5, 0 parameters, results [*t0] -/
def c77 : RC :=
  (.seq (.ops [⟨some 0, none, .op (.alloc 149 [(.int .u32 0), (.int .u32 0), (.int .u32 0), (.int .u32 0), (.int .u32 0), (.int .u32 0), (.int .u32 0), (.int .u32 0), (.int .u32 0), (.int .u32 0), (.int .u32 0), (.int .u32 0), (.int .u32 0), (.int .u32 0), (.int .u32 0), (.int .u32 0), (.int .u32 0), (.int .u32 0), (.int .u32 0), (.int .u32 0), (.int .u32 0), (.int .u32 0), (.int .u32 0), (.int .u32 0), (.int .u32 0), (.int .u32 0), (.int .u32 0), (.int .u32 0), (.int .u32 0), (.int .u32 0), (.int .u32 0), (.int .u32 0), (.int .u32 0), (.int .u32 0), (.int .u32 0), (.int .u32 0), (.int .u32 0), (.int .u32 0), (.int .u32 0), (.int .u32 0), (.int .u32 0), (.int .u32 0), (.int .u32 0), (.int .u32 0), (.int .u32 0), (.int .u32 0), (.int .u32 0), (.int .u32 0), (.int .u32 0), (.int .u32 0), (.int .u32 0), (.int .u32 0), (.int .u32 0), (.int .u32 0), (.int .u32 0), (.int .u32 0), (.int .u32 0), (.int .u32 0), (.int .u32 0), (.int .u32 0), (.int .u32 0), (.int .u32 0), (.int .u32 0), (.int .u32 0), (.int .u32 0), (.int .u32 0), (.int .u32 0), (.int .u32 0), (.int .u32 0), (.int .u32 0), (.int .u32 0), (.int .u32 0), (.int .u32 0), (.int .u32 0), (.int .u32 0), (.int .u32 0), (.int .u32 0), (.int .u32 0), (.int .u32 0), (.int .u32 0), (.int .u32 0), (.int .u32 0), (.int .u32 0), (.int .u32 0), (.int .u32 0), (.int .u32 0), (.int .u32 0), (.int .u32 0), (.int .u32 0), (.int .u32 0), (.int .u32 0), (.int .u32 0), (.int .u32 0), (.int .u32 0), (.int .u32 0), (.int .u32 0), (.int .u32 0), (.int .u32 0), (.int .u32 0), (.int .u32 0), (.int .u32 0), (.int .u32 0), (.int .u32 0), (.int .u32 0), (.int .u32 0), (.int .u32 0), (.int .u32 0), (.int .u32 0), (.int .u32 0), (.int .u32 0), (.int .u32 0), (.int .u32 0), (.int .u32 0), (.int .u32 0), (.int .u32 0), (.int .u32 0), (.int .u32 0), (.int .u32 0), (.int .u32 0), (.int .u32 0), (.int .u32 0), (.int .u32 0), (.int .u32 0), (.int .u32 0), (.int .u32 0), (.int .u32 0), (.int .u32 0), (.int .u32 0), (.int .u32 0), (.int .u32 0), (.int .u32 0), (.int .u32 0), (.int .u32 0), (.int .u32 0), (.int .u32 0), (.int .u32 0), (.int .u32 0), (.int .u32 0), (.int .u32 0), (.int .u32 0), (.int .u32 0), (.int .u32 0), (.int .u32 0), (.int .u32 0), (.int .u32 0), (.int .u32 0), (.int .u32 0), (.int .u32 0), (.int .u32 0), (.int .u32 0), (.int .u32 0), (.int .u32 0), (.int .u32 0), (.int .u32 0), (.int .u32 0), (.int .u32 0), (.int .u32 0), (.int .u32 0), (.int .u32 0), (.int .u32 0), (.int .u32 0), (.int .u32 0), (.int .u32 0), (.int .u32 0), (.int .u32 0), (.int .u32 0), (.int .u32 0), (.int .u32 0), (.int .u32 0), (.int .u32 0), (.int .u32 0), (.int .u32 0), (.int .u32 0), (.int .u32 0), (.int .u32 0), (.int .u32 0), (.int .u32 0), (.int .u32 0), (.int .u32 0), (.int .u32 0), (.int .u32 0), (.int .u32 0), (.int .u32 0), (.int .u32 0), (.int .u32 0), (.int .u32 0), (.int .u32 0), (.int .u32 0), (.int .u32 0), (.int .u32 0), (.int .u32 0), (.int .u32 0), (.int .u32 0), (.int .u32 0), (.int .u32 0), (.int .u32 0), (.int .u32 0), (.int .u32 0), (.int .u32 0), (.int .u32 0), (.int .u32 0), (.int .u32 0), (.int .u32 0), (.int .u32 0), (.int .u32 0), (.int .u32 0), (.int .u32 0), (.int .u32 0), (.int .u32 0), (.int .u32 0), (.int .u32 0), (.int .u32 0), (.int .u32 0), (.int .u32 0), (.int .u32 0), (.int .u32 0), (.int .u32 0), (.int .u32 0), (.int .u32 0), (.int .u32 0), (.int .u32 0), (.int .u32 0), (.int .u32 0), (.int .u32 0), (.int .u32 0), (.int .u32 0), (.int .u32 0), (.int .u32 0), (.int .u32 0), (.int .u32 0), (.int .u32 0), (.int .u32 0), (.int .u32 0), (.int .u32 0), (.int .u32 0), (.int .u32 0), (.int .u32 0), (.int .u32 0), (.int .u32 0), (.int .u32 0), (.int .u32 0), (.int .u32 0), (.int .u32 0), (.int .u32 0), (.int .u32 0), (.int .u32 0), (.int .u32 0), (.int .u32 0), (.int .u32 0), (.int .u32 0), (.int .u32 0), (.int .u32 0), (.int .u32 0), (.int .u32 0), (.int .u32 0), (.int .u32 0)])⟩])
  (.seq (.seq (.ops [⟨some 3, none, .op (.mv (.c (.int .i64 0)))⟩])
  (.block 0
    (.loop
      (.seq (.ops [⟨some 4, none, .op (.bin .lss (.t 3) (.c (.int .i64 256)))⟩])
      (.seq (.cond (.t 4)
        .skip
        (.exit 0))
      (.seq (.block 1
        (.seq (.ops [⟨some 5, none, .op (.mv (.t 3))⟩,
          ⟨some 1, none, .op (.mv (.t 5))⟩])
        (.seq (.ops [⟨some 6, none, .op (.mv (.t 1))⟩,
          ⟨some 7, none, .op (.toInt .u32 (.t 6))⟩,
          ⟨some 2, none, .op (.mv (.t 7))⟩])
        (.seq (.seq (.ops [⟨some 8, none, .op (.mv (.c (.int .i64 0)))⟩])
        (.block 2
          (.loop
            (.seq (.ops [⟨some 9, none, .op (.bin .lss (.t 8) (.c (.int .i64 8)))⟩])
            (.seq (.cond (.t 9)
              .skip
              (.exit 2))
            (.seq (.block 3
              (.ops [⟨some 10, none, .op (.mv (.t 2))⟩,
                ⟨some 11, none, .op (.callF 80 [(.t 10)])⟩,
                ⟨some 2, none, .op (.mv (.t 11))⟩]))
            (.ops [⟨some 12, none, .op (.bin .add (.t 8) (.c (.int .i64 1)))⟩,
              ⟨some 8, none, .op (.mv (.t 12))⟩])))))))
        (.cut (.ops [⟨some 13, none, .op (.mv (.t 1))⟩,
          ⟨some 14, none, .op (.mv (.t 2))⟩,
          ⟨some 15, none, .op (.indexAddrA 256 1 (.t 0) (.t 13))⟩,
          ⟨none, none, .op (.store 1 (.t 15) (.t 14))⟩]))))))
      (.cut (.ops [⟨some 16, none, .op (.bin .add (.t 3) (.c (.int .i64 1)))⟩,
        ⟨some 3, none, .op (.mv (.t 16))⟩]))))))))
  (.cut (.seq (.ops [⟨some 17, none, .op (.load true 256 (.t 0))⟩,
    ⟨none, none, .op (.store 256 (.t 0) (.t 17))⟩])
  .ret))))
theorem F77 : FI 77 0 18 5 [.cell 0 149] c77 := ⟨⟨Try.f77, Try.func77, by kernel_rfl, by kernel_rfl, by kernel_rfl⟩, by kernel_rfl, by decide, by kernel_rfl⟩
/- f80 understory/digest.bit: 11 temporaries, depth 4, 1 parameters, results [t2] -/
def c80 : RC :=
  (.seq (.ops [⟨some 2, none, .op (.mv (.c (.int .u32 0)))⟩])
  (.seq (.seq (.ops [⟨some 3, none, .op (.mv (.t 0))⟩,
    ⟨some 4, none, .op (.bin .and (.t 3) (.c (.int .u32 1)))⟩,
    ⟨some 5, none, .op (.bin .eql (.t 4) (.c (.int .u32 1)))⟩])
  (.cond (.t 5)
    (.seq (.ops [⟨some 6, none, .op (.mv (.t 0))⟩,
      ⟨some 7, none, .op (.bin .shr (.t 6) (.c (.int .u64 1)))⟩,
      ⟨some 8, none, .op (.bin .xor (.t 7) (.c (.int .u32 3988292384)))⟩,
      ⟨some 2, none, .op (.mv (.t 8))⟩])
    .ret)
    .skip))
  (.seq (.ops [⟨some 9, none, .op (.mv (.t 0))⟩,
    ⟨some 10, none, .op (.bin .shr (.t 9) (.c (.int .u64 1)))⟩,
    ⟨some 2, none, .op (.mv (.t 10))⟩])
  .ret)))
theorem F80 : FI 80 1 11 4 [.tmp 2] c80 := ⟨⟨Try.f80, Try.func80, by kernel_rfl, by kernel_rfl, by kernel_rfl⟩, by kernel_rfl, by decide, by kernel_rfl⟩
end Go.Proofs
/- The checksum: what CRC computes. -/
set_option linter.unusedVariables false
set_option linter.unusedSimpArgs false
namespace Go.Proofs
open Go Go.Abs
def cfgN : Cfg := ⟨inl0, fun _ _ => none⟩
noncomputable abbrev CC (n : Nat) : CallF := CN Try.prog cfgN n
@[reducible] def u32 (c : UInt32) : AV := .int .u32 c.toNat

theorem wrap_u32 (b : BitVec 32) : IntKind.u32.wrap (b.toNat : Int) = (b.toNat : Int) := by
  have h := b.isLt
  show (if (IntKind.u32.signed && decide ((b.toNat : Int) % (2 ^ 32 : Int) ≥ (2 ^ (32 - 1) : Int))) = true then (b.toNat : Int) % (2 ^ 32 : Int) - 2 ^ 32 else (b.toNat : Int) % (2 ^ 32 : Int)) = _
  rw [if_neg (by simp [IntKind.signed])]
  omega
theorem wrap_u8 (b : BitVec 8) : IntKind.u8.wrap (b.toNat : Int) = (b.toNat : Int) := by
  have h := b.isLt
  show (if (IntKind.u8.signed && decide ((b.toNat : Int) % (2 ^ 8 : Int) ≥ (2 ^ (8 - 1) : Int))) = true then (b.toNat : Int) % (2 ^ 8 : Int) - 2 ^ 8 else (b.toNat : Int) % (2 ^ 8 : Int)) = _
  rw [if_neg (by simp [IntKind.signed])]
  omega
theorem bv32 (c : UInt32) : BitVec.ofInt 32 (c.toNat : Int) = c.toBitVec := by
  rw [BitVec.ofInt_natCast]; apply BitVec.eq_of_toNat_eq; simp
theorem and_u32 (c d : UInt32) : IntKind.u32.wrap (BitVec.ofInt IntKind.u32.bits (c.toNat : Int) &&& BitVec.ofInt IntKind.u32.bits (d.toNat : Int)).toNat = ((c &&& d).toNat : Int) := by
  show IntKind.u32.wrap (BitVec.ofInt 32 (c.toNat : Int) &&& BitVec.ofInt 32 (d.toNat : Int)).toNat = _
  rw [bv32, bv32, wrap_u32]; rfl
theorem xor_u32 (c d : UInt32) : IntKind.u32.wrap (BitVec.ofInt IntKind.u32.bits (c.toNat : Int) ^^^ BitVec.ofInt IntKind.u32.bits (d.toNat : Int)).toNat = ((c ^^^ d).toNat : Int) := by
  show IntKind.u32.wrap (BitVec.ofInt 32 (c.toNat : Int) ^^^ BitVec.ofInt 32 (d.toNat : Int)).toNat = _
  rw [bv32, bv32, wrap_u32]; rfl
theorem xor_u8 (c d : UInt8) : IntKind.u8.wrap (BitVec.ofInt IntKind.u8.bits (c.toNat : Int) ^^^ BitVec.ofInt IntKind.u8.bits (d.toNat : Int)).toNat = ((c ^^^ d).toNat : Int) := by
  show IntKind.u8.wrap (BitVec.ofInt 8 (c.toNat : Int) ^^^ BitVec.ofInt 8 (d.toNat : Int)).toNat = _
  have e : ∀ c : UInt8, BitVec.ofInt 8 (c.toNat : Int) = c.toBitVec := fun c => by rw [BitVec.ofInt_natCast]; apply BitVec.eq_of_toNat_eq; simp
  rw [e, e, wrap_u8]; rfl
theorem not_u32 (c : UInt32) : IntKind.u32.wrap (BitVec.ofInt IntKind.u32.bits (if IntKind.u32.signed then -1 else IntKind.u32.max) ^^^ BitVec.ofInt IntKind.u32.bits (c.toNat : Int)).toNat = ((~~~c).toNat : Int) := by
  show IntKind.u32.wrap (BitVec.ofInt 32 4294967295 ^^^ BitVec.ofInt 32 (c.toNat : Int)).toNat = _
  rw [bv32, wrap_u32]
  have : (BitVec.ofInt 32 4294967295 ^^^ c.toBitVec) = ~~~c.toBitVec := by
    rw [show BitVec.ofInt 32 4294967295 = BitVec.allOnes 32 by decide]
    exact BitVec.allOnes_xor
  rw [this]; rfl
theorem shr_u32 (c : UInt32) (k : Nat) (hk : k < 32) : ((c.toNat : Int)).fdiv (2 ^ (min (k : Int).toNat IntKind.u32.bits)) = ((c >>> (UInt32.ofNat k)).toNat : Int) := by
  have h1 : min (k : Int).toNat IntKind.u32.bits = k := by show min (k : Int).toNat 32 = k; omega
  rw [h1]
  have h2 : (c >>> (UInt32.ofNat k)).toNat = c.toNat / 2 ^ k := by
    rw [UInt32.toNat_shiftRight, UInt32.toNat_ofNat', Nat.shiftRight_eq_div_pow]
    rw [Nat.mod_eq_of_lt (show k < 2 ^ 32 by omega), Nat.mod_eq_of_lt hk]
  rw [h2, Int.fdiv_eq_ediv_of_nonneg _ (by exact Int.pow_nonneg (by decide))]
  norm_cast
theorem low_u8 (c : UInt32) : IntKind.u8.wrap (c.toNat : Int) = (c.toUInt8.toNat : Int) := by
  have h := c.toNat_lt
  show (if (IntKind.u8.signed && decide ((c.toNat : Int) % (2 ^ 8 : Int) ≥ (2 ^ (8 - 1) : Int))) = true then (c.toNat : Int) % (2 ^ 8 : Int) - 2 ^ 8 else (c.toNat : Int) % (2 ^ 8 : Int)) = _
  rw [if_neg (by simp [IntKind.signed]), UInt32.toNat_toUInt8]
  omega

def bit (c : UInt32) : UInt32 := if c &&& 1 = 1 then (c >>> 1) ^^^ 3988292384 else c >>> 1
theorem u32_eq {c d : UInt32} : ((c.toNat : Int) == (d.toNat : Int)) = decide (c = d) := by
  by_cases h : c = d
  · subst h; simp
  · simp [h]; intro h'; exact h (UInt32.toNat_inj.1 (by omega))
section
variable {n : Nat} {h : AHeap}
theorem bit_eq (hn : 1 ≤ n) (c : UInt32) : CC n 80 [u32 c] h = some (.ret (u32 (bit c)), h) := by
  obtain ⟨m, rfl⟩ : ∃ m, n = m + 1 := ⟨n - 1, by omega⟩
  refine fun_pure F80 rfl rfl rfl rfl ?_
  conv => whnf
  refine zI (and_u32 c 1) ?_
  conv => whnf
  have e1 := @u32_eq (c &&& 1) 1
  refine br (fun a => ?_) (fun a => ?_)
  · have a' : c &&& 1 = 1 := by simpa [e1] using e1.symm.trans a
    conv => whnf
    refine ⟨by decide, _, shr_u32 c 1 (by decide), ?_⟩
    conv => whnf
    refine zI (xor_u32 _ 3988292384) ?_
    conv => whnf
    exact retP rfl (frz_int (by simp [bit, a']))
  · have a' : ¬ c &&& 1 = 1 := by simpa [e1] using e1.symm.trans a
    conv => whnf
    refine ⟨by decide, _, shr_u32 c 1 (by decide), ?_⟩
    conv => whnf
    exact retP rfl (frz_int (by simp [bit, a']))

def tab (i : UInt8) : UInt32 := bit (bit (bit (bit (bit (bit (bit (bit i.toUInt32)))))))
def bits : Nat → UInt32 → UInt32
  | 0, c => c
  | k + 1, c => bits k (bit c)
theorem bits_succ : ∀ (k : Nat) (c : UInt32), bits (k + 1) c = bit (bits k c)
  | 0, c => rfl
  | k + 1, c => bits_succ k (bit c)
def tabV (j : Nat) : AV := u32 (bits 8 (UInt32.ofNat j))
def tabC (i : Nat) : List AV := (List.range 256).map fun j => if j < i then tabV j else .int .u32 0
theorem tabC_len (i : Nat) : (tabC i).length = 256 := by simp [tabC]
theorem tabC_scal (i : Nat) : (tabC i).all AV.scal = true := by
  rw [List.all_eq_true]
  intro x hx
  obtain ⟨j, _, rfl⟩ := List.mem_map.1 hx
  split <;> rfl
theorem tabC_cells (i : Nat) : (AV.agg (tabC i)).cells? = some (tabC i) := by
  show (if (tabC i).all AV.scal = true then some (tabC i) else none) = _
  rw [if_pos (tabC_scal i)]
theorem tabC_frz (i n : Nat) : FrzOk (n + 2) (.agg (tabC i)) := frzOk_agg fun x hx => by
  obtain ⟨j, _, rfl⟩ := List.mem_map.1 hx
  split <;> exact frzOk_int
theorem tabC_over {zs : List AV} (hz : zs.length = 256) (i : Nat) : putAt zs 0 (tabC i) = tabC i := by
  unfold putAt
  rw [tabC_len, List.take_zero, List.drop_of_length_le (by omega)]
  simp
theorem tabC_same (i : Nat) : putAt (tabC i) 0 (tabC i) = tabC i := tabC_over (tabC_len i) i
theorem loadT {cs : List AV} (hcs : cs.length = 256) : loadA Try.prog [.cells 0 (some 149) cs 0] 149 (.ptr 0 0 0) = some (.agg cs) := by
  have ht : (ti Try.prog 149).map (fun d => (isAggD d.desc, d.size)) = some (true, 256) := by kernel_rfl
  obtain ⟨d, h1, h2⟩ := Option.map_eq_some_iff.1 ht
  simp only [Prod.mk.injEq] at h2
  unfold loadA
  simp only [h1, List.getElem?_cons_zero, if_true]
  unfold partA
  rw [h2.1, h2.2, hcs]
  simp [← hcs]
theorem tabC_put {i : Nat} (hi : i < 256) : putAt (tabC i) i [tabV i] = tabC (i + 1) := by
  apply List.ext_getElem?
  intro k
  unfold putAt tabC
  rw [List.append_assoc]
  by_cases h1 : k < i
  · rw [List.getElem?_append_left (by simp; omega), List.getElem?_take, if_pos h1]
    simp only [List.getElem?_map]
    by_cases h2 : k < 256
    · simp [List.getElem?_range h2, h1, show k < i + 1 by omega]
    · omega
  · rw [List.getElem?_append_right (by simp; omega)]
    by_cases h2 : k = i
    · subst h2
      simp [List.getElem?_range hi, hi, Nat.min_eq_left (Nat.le_of_lt hi)]
    · rw [List.getElem?_append_right (by simp; omega)]
      simp only [List.length_take, List.length_map, List.length_range, List.length_cons, List.length_nil, List.getElem?_drop, List.getElem?_map]
      rw [Nat.min_eq_left (Nat.le_of_lt hi), show i + (0 + 1) + (k - i - (0 + 1)) = k by omega]
      by_cases h3 : k < 256
      · simp [List.getElem?_range h3, show ¬ k < i by omega, show ¬ k < i + 1 by omega]
      · rw [List.getElem?_eq_none (by simp; omega)]; rfl

theorem wrap_u32n {j : Nat} (hj : j < 256) : IntKind.u32.wrap (j : Int) = ((UInt32.ofNat j).toNat : Int) := by
  have : ((UInt32.ofNat j).toNat : Int) = j := by rw [UInt32.toNat_ofNat']; omega
  rw [this]
  have := wrap_u32 (BitVec.ofNat 32 j)
  rwa [BitVec.toNat_ofNat, Nat.mod_eq_of_lt (show j < 2 ^ 32 by omega)] at this

theorem table_in {m : Nat} (hn : 1 ≤ m) (j : Nat) (hj : j < 256) (hp : AHeap) {Q : Ex → LS → Prop} {s : LS} (hs : LS.sub ⟨[(0, .ptr 0 0 0), (1, i64 j), (2, u32 (UInt32.ofNat j)), (3, i64 j), (8, i64 0)], hp, []⟩ s)
    (hE : ∀ L, subL [(0, .ptr 0 0 0), (1, i64 j), (2, tabV j), (3, i64 j)] L → Q (.exit 2) ⟨L, hp, []⟩) : OkR Try.prog (CC m) cfgN.inl KK 18 5 (.loop (c77.lp 1)) s Q := by
  refine loopI (by decide) rfl (α := Nat) (fun x => ⟨[(0, .ptr 0 0 0), (1, i64 j), (2, u32 (bits x (UInt32.ofNat j))), (3, i64 j), (8, i64 x)], hp, []⟩) (fun x => x ≤ 8) (fun x => 8 - x) 0 hs (by simp) (by show 8 - 0 < KK; simp only [KK]; omega) ?_
  intro x hx
  conv => whnf
  refine brd (fun a => ?_) (fun a => ?_)
  · conv => whnf
    refine clI (bit_eq (by omega) (bits x (UInt32.ofNat j))) ?_
    conv => whnf
    refine zI (z := ((x + 1 : Nat) : Int)) (by rw [wrap_i64 (by omega) (by omega)]; rfl) ?_
    refine nxI (x + 1) (by omega) (by omega) ⟨⟨rfl, rfl, ?_, rfl, rfl⟩, rfl, rfl⟩
    rw [bits_succ]; rfl
  · have : x = 8 := by omega
    subst this
    conv => whnf
    exact hE _ ⟨rfl, rfl, rfl, rfl⟩

set_option maxRecDepth 100000 in
theorem table_eq (hn : 2 ≤ n) : CC n 77 [] h = some (.ret (.agg (tabC 256)), h) := by
  obtain ⟨m, rfl⟩ : ∃ m, n = m + 1 := ⟨n - 1, by omega⟩
  refine fun_pure F77 rfl rfl rfl rfl ?_
  conv => whnf
  refine loopI (by decide) rfl (α := Nat) (fun x => ⟨[(0, .ptr 0 0 0), (3, i64 x)], [.cells 0 (some 149) (tabC x) 0], []⟩) (fun x => x ≤ 256) (fun x => 256 - x) 0 ⟨⟨rfl, rfl⟩, by kernel_rfl, rfl⟩ (by simp) (by show 256 - 0 < KK; simp only [KK]; omega) ?_
  intro x hx
  conv => whnf
  refine brd (fun a => ?_) (fun a => ?_)
  · have hx' : x < 256 := by omega
    conv => whnf
    refine zI (wrap_u32n hx') ?_
    conv => whnf
    refine table_in (by omega) x hx' _ ⟨⟨rfl, rfl, rfl, rfl, rfl⟩, rfl, rfl⟩ fun L hL => ?_
    conv => whnf
    refine cutI (by decide) rfl (t := ⟨[(0, .ptr 0 0 0), (1, i64 x), (2, tabV x), (3, i64 x)], [.cells 0 (some 149) (tabC x) 0], []⟩) ⟨hL, rfl, rfl⟩ ?_
    conv => whnf
    refine ⟨by omega, by omega, ?_⟩
    conv => whnf
    refine stI (cs := tabC x) (by rfl) (by rfl) (by rfl) (by rw [tabC_len]; show Nat.ble (0 + (x : Int).toNat * 1 + 1) 256 = true; exact Nat.ble_eq_true_of_le (by omega)) (by rfl) ?_
    refine cutI (by decide) rfl (t := ⟨[(0, .ptr 0 0 0), (3, i64 x)], [.cells 0 (some 149) (tabC (x + 1)) 0], []⟩) ⟨⟨rfl, rfl⟩, ?_, rfl⟩ ?_
    · show [AB.cells 0 (some 149) (putAt (tabC x) (0 + (x : Int).toNat * 1) [tabV x]) 0] = _
      rw [show 0 + (x : Int).toNat * 1 = x by omega, tabC_put hx']
    · conv => whnf
      refine zI (z := ((x + 1 : Nat) : Int)) (by rw [wrap_i64 (by omega) (by omega)]; rfl) ?_
      exact nxI (x + 1) (by omega) (by omega) ⟨⟨rfl, rfl⟩, rfl, rfl⟩
  · have : x = 256 := by omega
    subst this
    refine cutI (by decide) rfl (t := ⟨[(0, .ptr 0 0 0)], [.cells 0 (some 149) (tabC 256) 0], []⟩) ⟨rfl, rfl, rfl⟩ ?_
    conv => whnf
    refine ldI (cs := tabC 256) (by rfl) ?_
    conv => whnf
    have hcs : List.take 256 (List.drop 0 (tabC 256)) = tabC 256 := by rw [List.drop_zero, List.take_of_length_le (by rw [tabC_len]; decide)]
    refine stI (cs := tabC 256) (xs := tabC 256) (by rfl) (by show AV.cells? (.agg (List.take 256 (List.drop 0 (tabC 256)))) = _; rw [hcs]; exact tabC_cells 256) (tabC_len 256) (by rw [tabC_len]; rfl) (by rfl) ?_
    refine ⟨rfl, [.agg (tabC 256)], ?_, ?_⟩
    · show (match loadA Try.prog [.cells 0 (some 149) (putAt (tabC 256) 0 (tabC 256)) 0] 149 (.ptr 0 0 0) with | some v => some [v] | none => none) = _
      rw [tabC_same, loadT (tabC_len 256)]
    · exact tabC_frz 256 62 _

/-- The checksum of bytes. -/
def ext (s : List UInt8) (c : UInt32) : UInt32 := s.foldl (fun c b => tab (c.toUInt8 ^^^ b) ^^^ (c >>> 8)) c
def crc (s : List UInt8) : UInt32 := ~~~(ext s (~~~0))

theorem tab_at (b : UInt8) : (tabC 256)[b.toNat]? = some (u32 (tab b)) := by
  have h := b.toNat_lt
  unfold tabC
  rw [List.getElem?_map, List.getElem?_range (by omega)]
  simp only [Option.map_some]
  rw [if_pos (by omega)]
  have : UInt32.ofNat b.toNat = b.toUInt32 := by
    apply UInt32.toNat_inj.1
    rw [UInt32.toNat_ofNat', UInt8.toNat_toUInt32]
    omega
  unfold tabV bits bits bits bits bits bits bits bits bits tab
  rw [this]

theorem ext_loop {m : Nat} (s : Str) (hs : s.length < 1099511627776) (c0 : UInt32) {Q : Ex → LS → Prop} {st : LS} (h0 : LS.sub ⟨[(1, .str s), (5, .ptr 0 0 0), (6, u32 c0), (12, i64 s.length), (13, i64 0)], [.cells 0 (some 149) (tabC 256) 0], []⟩ st)
    (hE : ∀ L hp, lk L 6 = some (u32 (ext s c0)) → Q (.exit 0) ⟨L, hp, []⟩) : OkR Try.prog (CC m) cfgN.inl KK 30 5 (.loop (c72.lp 0)) st Q := by
  refine loopI (by decide) rfl (α := Nat × UInt32) (fun x => ⟨[(1, .str s), (5, .ptr 0 0 0), (6, u32 x.2), (12, i64 s.length), (13, i64 x.1)], [.cells 0 (some 149) (tabC 256) 0], []⟩) (fun x => x.1 ≤ s.length ∧ x.2 = ext (s.take x.1) c0) (fun x => s.length - x.1) (0, c0) h0 (by simp [ext]) (by show s.length - 0 < KK; simp only [KK]; omega) ?_
  rintro ⟨x, c⟩ ⟨hx, hc⟩
  simp only at hx hc
  conv => whnf
  refine brd (fun a => ?_) (fun a => ?_)
  · simp only at a
    have hx' : x < s.length := by omega
    have hst : tab (c.toUInt8 ^^^ s[x]) ^^^ (c >>> 8) = ext (s.take (x + 1)) c0 := by
      subst hc
      unfold ext
      rw [List.take_succ_eq_append_getElem hx', List.foldl_append]; rfl
    conv => whnf
    refine zI (low_u8 c) ?_
    conv => whnf
    refine ⟨by omega, s[x], by rw [Int.toNat_natCast]; exact List.getElem?_eq_getElem hx', ?_⟩
    conv => whnf
    refine zI (xor_u8 c.toUInt8 s[x]) ?_
    conv => whnf
    have hlt := (c.toUInt8 ^^^ s[x]).toNat_lt
    refine ⟨by omega, by omega, ?_⟩
    conv => whnf
    refine ldI (cs := tabC 256) (by rfl) ?_
    refine wpartI (v := u32 (tab (c.toUInt8 ^^^ s[x]))) (by show (tabC 256)[0 + (((c.toUInt8 ^^^ s[x]).toNat : Nat) : Int).toNat * 1]? = _; rw [Int.toNat_natCast, Nat.zero_add, Nat.mul_one]; exact tab_at _) ?_
    conv => whnf
    refine ⟨by decide, _, shr_u32 c 8 (by decide), ?_⟩
    conv => whnf
    refine zI (xor_u32 _ _) ?_
    conv => whnf
    refine zI (z := ((x + 1 : Nat) : Int)) (by rw [wrap_i64 (by omega) (by omega)]; rfl) ?_
    exact nxI (x + 1, tab (c.toUInt8 ^^^ s[x]) ^^^ (c >>> 8)) ⟨hx', hst⟩ (by simp only; omega) ⟨⟨rfl, rfl, rfl, rfl, rfl⟩, rfl, rfl⟩
  · simp only at a
    have : x = s.length := by omega
    subst this
    rw [List.take_length] at hc
    subst hc
    conv => whnf
    exact hE _ _ rfl

set_option maxRecDepth 100000 in
theorem extend_eq (hn : 3 ≤ n) (s : Str) (hs : s.length < 1099511627776) (c : UInt32) : CC n 72 [u32 c, .str s] h = some (.ret (u32 (~~~(ext s (~~~c)))), h) := by
  obtain ⟨m, rfl⟩ : ∃ m, n = m + 1 := ⟨n - 1, by omega⟩
  refine fun_pure F72 rfl rfl rfl rfl ?_
  conv => whnf
  refine clI (table_eq (by omega)) ?_
  conv => whnf
  refine stI (xs := tabC 256) (by rfl) (tabC_cells 256) (tabC_len 256) (by rw [tabC_len]; rfl) (by rfl) ?_
  conv => whnf
  refine zI (not_u32 c) ?_
  conv => whnf
  refine ext_loop s hs (~~~c) ⟨⟨rfl, rfl, rfl, rfl, rfl⟩, ?_, rfl⟩ fun L hp hL => ?_
  · exact congrArg (fun cs => [AB.cells 0 (some 149) cs 0]) (tabC_over (by rfl) 256)
  · refine cutI (by decide) rfl (t := ⟨[(6, u32 (ext s (~~~c)))], hp, []⟩) ⟨hL, rfl, rfl⟩ ?_
    conv => whnf
    refine zI (not_u32 _) ?_
    conv => whnf
    exact retP rfl (frz_int rfl)

theorem crc_eq (hn : 4 ≤ n) (s : Str) (hs : s.length < 1099511627776) : CC n 60 [.str s] h = some (.ret (u32 (crc s)), h) := by
  obtain ⟨m, rfl⟩ : ∃ m, n = m + 1 := ⟨n - 1, by omega⟩
  refine fun_pure F60 rfl rfl rfl rfl ?_
  conv => whnf
  refine clI (extend_eq (by omega) s hs 0) ?_
  conv => whnf
  exact retP rfl (frz_int rfl)
end
end Go.Proofs
/- What is known of the checksum. -/
set_option linter.unusedVariables false
set_option linter.unusedSimpArgs false
namespace Go.Proofs
open Go Go.Abs
def bitN (c : Nat) : Nat := Nat.xor (Nat.shiftRight c 1) (Nat.mul (Nat.land c 1) 3988292384)
def byteN (c : Nat) : Nat := bitN (bitN (bitN (bitN (bitN (bitN (bitN (bitN c)))))))
def extN : List UInt8 → Nat → Nat
  | [], c => c
  | b :: r, c => extN r (Nat.xor (byteN (Nat.xor (Nat.mod c 256) b.toNat)) (Nat.shiftRight c 8))
def crcN (s : List UInt8) : Nat := Nat.xor (extN s 4294967295) 4294967295
theorem bitN_eq (c : UInt32) : bitN c.toNat = (bit c).toNat := by
  have h1 : (c &&& 1).toNat = c.toNat % 2 := by
    rw [UInt32.toNat_and]; exact Nat.and_one_is_mod _
  have h2 : (c >>> 1).toNat = c.toNat >>> 1 := by
    rw [UInt32.toNat_shiftRight]; rfl
  have h3 : Nat.land c.toNat 1 = c.toNat % 2 := Nat.and_one_is_mod _
  unfold bitN bit
  rw [h3]
  have h4 := Nat.mod_two_eq_zero_or_one c.toNat
  by_cases h : c &&& 1 = 1
  · rw [if_pos h, UInt32.toNat_xor, h2]
    have : c.toNat % 2 = 1 := by rw [← h1, h]; rfl
    rw [this]; rfl
  · rw [if_neg h, h2]
    have : c.toNat % 2 = 0 := by
      rcases h4 with h4 | h4
      · exact h4
      · exact (h (UInt32.toNat_inj.1 (by rw [h1, h4]; rfl))).elim
    rw [this]
    exact Nat.xor_zero _
theorem byteN_eq (i : UInt8) : byteN i.toNat = (tab i).toNat := by
  unfold byteN tab
  have : i.toNat = i.toUInt32.toNat := by simp
  rw [this, bitN_eq, bitN_eq, bitN_eq, bitN_eq, bitN_eq, bitN_eq, bitN_eq, bitN_eq]
theorem extN_eq : ∀ (s : List UInt8) (c : UInt32), extN s c.toNat = (ext s c).toNat
  | [], c => rfl
  | b :: r, c => by
    have h1 : Nat.xor (Nat.mod c.toNat 256) b.toNat = (c.toUInt8 ^^^ b).toNat := by
      rw [UInt8.toNat_xor, UInt32.toNat_toUInt8]; rfl
    have h2 : Nat.shiftRight c.toNat 8 = (c >>> 8).toNat := by rw [UInt32.toNat_shiftRight]; rfl
    show extN r (Nat.xor (byteN (Nat.xor (Nat.mod c.toNat 256) b.toNat)) (Nat.shiftRight c.toNat 8)) = _
    rw [h1, byteN_eq, h2]
    have h3 : Nat.xor (tab (c.toUInt8 ^^^ b)).toNat (c >>> 8).toNat = (tab (c.toUInt8 ^^^ b) ^^^ (c >>> 8)).toNat := by rw [UInt32.toNat_xor]; rfl
    rw [h3, extN_eq r]
    rfl
theorem crcN_eq (s : List UInt8) : crcN s = (crc s).toNat := by
  unfold crcN crc
  have h := extN_eq s (~~~0)
  rw [show (~~~(0 : UInt32)).toNat = 4294967295 by decide] at h
  rw [h]
  have : ~~~(ext s (~~~0)) = ext s (~~~0) ^^^ 4294967295 := by
    rw [show (4294967295 : UInt32) = -1 by decide, UInt32.xor_neg_one]
  rw [this, UInt32.toNat_xor]; rfl

/-- What is known of the checksum. -/
def sum1 : FuncId → List AV → Option AV := fun f args => cond (Nat.beq f 60) (match args with
  | [.str s] => cond (Nat.blt s.length 1099511627776) (some (.int .u32 (Int.ofNat (crcN s)))) none
  | _ => none) none
def cfg1 : Cfg := ⟨inl0, sum1⟩
theorem sumN_ok : SumOk Try.prog cfgN := fun f args v h => by cases h
theorem crc_pure (s : Str) (hs : s.length < 1099511627776) : PureCalls Try.prog 60 [.str s] (.ret (u32 (crc s))) := pure_of_CN (c := cfgN) (n := 9) sumN_ok rfl (crc_eq (by omega) s hs)
theorem sum1_ok : SumOk Try.prog cfg1 := fun f args v h => by
  change sum1 f args = some v at h
  unfold sum1 at h
  cases hf : Nat.beq f 60 with
  | false => rw [hf] at h; cases h
  | true =>
    rw [hf] at h
    have : f = 60 := Nat.eq_of_beq_eq_true hf
    subst this
    simp only [cond] at h
    split at h
    · rename_i s
      cases hl : Nat.blt s.length 1099511627776 with
      | false => rw [hl] at h; cases h
      | true =>
        rw [hl] at h
        cases h
        have hl' : s.length < 1099511627776 := by rwa [Nat.blt_eq] at hl
        have := crc_pure s hl'
        rw [crcN_eq]
        exact this
    · cases h

end Go.Proofs
/- Calls, with what is known of the examples and of the checksum. -/
set_option linter.unusedVariables false
set_option linter.unusedSimpArgs false
namespace Go.Proofs
open Go Go.Abs
/-- The chapter's examples: shown by themselves. -/
def sum0 : FuncId → List AV → Option AV := fun f args => cond (Nat.beq f 7) (match args with | [] => some (.bool true) | _ => none) (sum1 f args)
def cfg0 : Cfg := ⟨inl0, sum0⟩
noncomputable abbrev C (n : Nat) : CallF := CN Try.prog cfg0 n
theorem crcC_eq {n : Nat} {h : AHeap} (hn : 1 ≤ n) (s : Str) (hs : s.length < 1099511627776) : C n 60 [.str s] h = some (.ret (u32 (crc s)), h) := by
  obtain ⟨m, rfl⟩ : ∃ m, n = m + 1 := ⟨n - 1, by omega⟩
  refine fun_sum rfl (of_decide_eq_true (by kernel_rfl)) ?_ rfl
  show cond (Nat.blt s.length 1099511627776) (some (AV.int .u32 (Int.ofNat (crcN s)))) none = some (u32 (crc s))
  rw [show Nat.blt s.length 1099511627776 = true by rw [Nat.blt_eq]; exact hs, crcN_eq]
  rfl
theorem sane_eq {n : Nat} (hn : 1 ≤ n) (h : AHeap) : C n 7 [] h = some (.ret (.bool true), h) := by
  obtain ⟨m, rfl⟩ : ∃ m, n = m + 1 := ⟨n - 1, by omega⟩
  exact fun_sum rfl (of_decide_eq_true (by kernel_rfl)) rfl rfl
end Go.Proofs
