/- The law PageChains: the row. -/
import Derived.Shelf.Sort.Plain
import Derived.Shelf.Slices.CompactI
import Derived.Shelf.Slices.Clone
import Derived.Shelf.Slices.In.SortNone
import Derived.Test.YtfddiediieblhaaGreatCha7
import Derived.Test.YtfddiediieblhaaGreatCha13
import Derived.Test.YtfddiediieblhaaGreatRows
/- What the library says of sorting numbers, and of dropping equal neighbours, at this program. -/
set_option linter.unusedVariables false
set_option linter.unusedSimpArgs false
namespace Go.Proofs
open Go.Shelf
def Tryz.lays189_ren : Go.Shelf.Ren := ⟨fun | 189 => 130 | 125 => 163 | 257 => 162 | 128 => 186 | 129 => 187 | 294 => 177 | 295 => 178 | 296 => 179 | 297 => 180 | 298 => 181 | 299 => 182 | 216 => 183 | 300 => 184 | 301 => 185 | 328 => 194 | 329 => 195 | 330 => 196 | 331 => 197 | 332 => 198 | 215 => 199 | 343 => 201 | n => n, fun | 28 => 70 | 3 => 3 | 46 => 179 | 0 => 0 | 51 => 184 | 53 => 224 | 4 => 4 | 183 => 254 | 182 => 253 | 131 => 148 | 5 => 5 | 9 => 9 | 218 => 266 | 222 => 270 | 228 => 272 | 229 => 273 | n => n, fun | n => n⟩
theorem Tryz.lays189 : Go.Proofs.Lays.n189 Tryz.prog Tryz.lays189_ren := {
  mixed := by kernel_rfl
  f125 := Tryz.func163.trans (congrArg some (by kernel_rfl))
  f128 := Tryz.func186.trans (congrArg some (by kernel_rfl))
  f129 := Tryz.func187.trans (congrArg some (by kernel_rfl))
  f189 := Tryz.func130.trans (congrArg some (by kernel_rfl))
  f215 := Tryz.func199.trans (congrArg some (by kernel_rfl))
  f216 := Tryz.func183.trans (congrArg some (by kernel_rfl))
  f257 := Tryz.func162.trans (congrArg some (by kernel_rfl))
  f294 := Tryz.func177.trans (congrArg some (by kernel_rfl))
  f295 := Tryz.func178.trans (congrArg some (by kernel_rfl))
  f296 := Tryz.func179.trans (congrArg some (by kernel_rfl))
  f297 := Tryz.func180.trans (congrArg some (by kernel_rfl))
  f298 := Tryz.func181.trans (congrArg some (by kernel_rfl))
  f299 := Tryz.func182.trans (congrArg some (by kernel_rfl))
  f300 := Tryz.func184.trans (congrArg some (by kernel_rfl))
  f301 := Tryz.func185.trans (congrArg some (by kernel_rfl))
  f328 := Tryz.func194.trans (congrArg some (by kernel_rfl))
  f329 := Tryz.func195.trans (congrArg some (by kernel_rfl))
  f330 := Tryz.func196.trans (congrArg some (by kernel_rfl))
  f331 := Tryz.func197.trans (congrArg some (by kernel_rfl))
  f332 := Tryz.func198.trans (congrArg some (by kernel_rfl))
  f343 := Tryz.func201.trans (congrArg some (by kernel_rfl))
  t0 := Tryz.underlying0
  a0 := Tryz.isAgg0
  z0 := Tryz.sizeOf0
  v0 := Tryz.zeroValue0
  t3 := Tryz.underlying3
  a3 := Tryz.isAgg3
  z3 := Tryz.sizeOf3
  v3 := Tryz.zeroValue3
  t4 := Tryz.underlying4
  a4 := Tryz.isAgg4
  z4 := Tryz.sizeOf4
  v4 := Tryz.zeroValue4
  t5 := Tryz.underlying5
  a5 := Tryz.isAgg5
  z5 := Tryz.sizeOf5
  v5 := Tryz.zeroValue5
  t9 := Tryz.underlying9
  a9 := Tryz.isAgg9
  z9 := Tryz.sizeOf9
  v9 := Tryz.zeroValue9
  t28 := Tryz.underlying70
  a28 := Tryz.isAgg70
  z28 := Tryz.sizeOf70
  v28 := Tryz.zeroValue70
  t46 := Tryz.underlying179
  a46 := Tryz.isAgg179
  z46 := Tryz.sizeOf179
  v46 := Tryz.zeroValue179
  t51 := Tryz.underlying184
  a51 := Tryz.isAgg184
  z51 := Tryz.sizeOf184
  v51 := Tryz.zeroValue184
  t53 := Tryz.underlying224
  a53 := Tryz.isAgg224
  z53 := Tryz.sizeOf224
  v53 := Tryz.zeroValue224
  t131 := Tryz.underlying148
  a131 := Tryz.isAgg148
  z131 := Tryz.sizeOf148
  v131 := Tryz.zeroValue148
  t182 := Tryz.underlying253
  a182 := Tryz.isAgg253
  z182 := Tryz.sizeOf253
  v182 := Tryz.zeroValue253
  t183 := Tryz.underlying254
  a183 := Tryz.isAgg254
  z183 := Tryz.sizeOf254
  v183 := Tryz.zeroValue254
  t218 := Tryz.underlying266
  a218 := Tryz.isAgg266
  z218 := Tryz.sizeOf266
  v218 := Tryz.zeroValue266
  t222 := Tryz.underlying270
  a222 := Tryz.isAgg270
  z222 := Tryz.sizeOf270
  v222 := Tryz.zeroValue270
  t228 := Tryz.underlying272
  a228 := Tryz.isAgg272
  z228 := Tryz.sizeOf272
  v228 := Tryz.zeroValue272
  t229 := Tryz.underlying273
  a229 := Tryz.isAgg273
  z229 := Tryz.sizeOf273
  v229 := Tryz.zeroValue273 }
open Go.Sort Go.RowKit in
theorem Tryz.slices_Sort_int (blk off cap : Nat) (zs : List Int) (w : World) (hH : Holds (Value.int .i64) w blk off zs.toArray) (hblk : blk < w.heap.size) (hsz : zs.length < 4611686018427387904) :
    Calls Tryz.prog 130 #[.slice (some ⟨blk, off, none⟩) zs.length cap] w fun e w' =>
      e = .returned (.tuple #[]) ∧ ∃ n os, w' = grow (putRow (Value.int .i64) (Sort.ahead w n) blk off (zs.mergeSort fun x y => decide (x ≤ y)).toArray) os := Any.slices_Sort_int Tryz.lays189 blk off cap zs w hH hblk hsz
def Tryz.laysNm220_ren : Go.Shelf.Ren := ⟨fun | 20 => 131 | n => n, fun | 22 => 70 | 3 => 3 | 4 => 4 | 0 => 0 | n => n, fun | n => n⟩
theorem Tryz.laysNm220 : Go.Proofs.Lays2.n20 Tryz.prog Tryz.laysNm220_ren := {
  mixed := by kernel_rfl
  f20 := Tryz.func131.trans (congrArg some (by kernel_rfl))
  t0 := Tryz.underlying0
  a0 := Tryz.isAgg0
  z0 := Tryz.sizeOf0
  v0 := Tryz.zeroValue0
  t3 := Tryz.underlying3
  a3 := Tryz.isAgg3
  z3 := Tryz.sizeOf3
  v3 := Tryz.zeroValue3
  t4 := Tryz.underlying4
  a4 := Tryz.isAgg4
  z4 := Tryz.sizeOf4
  v4 := Tryz.zeroValue4
  t22 := Tryz.underlying70
  a22 := Tryz.isAgg70
  z22 := Tryz.sizeOf70
  v22 := Tryz.zeroValue70
  i3 := by kernel_rfl }
open Go.RowKit Go.Lib Go.Sort in
theorem Tryz.slices_Compact_int (blk off cap : Nat) (zs : List Int) (w : World) (hH : Holds (Value.int .i64) w blk off zs.toArray) (hsz : zs.length ≤ 9223372036854775807) (hcap : zs.length ≤ cap) :
    Calls Tryz.prog 131 #[.slice (some ⟨blk, off, none⟩) zs.length cap] w fun e w' => e = .returned (.slice (some ⟨blk, off, none⟩) (Lib.compact zs).length cap) ∧ ∃ q, w' = putRow (Value.int .i64) (Sort.ahead w q) blk off (Lib.compact zs ++ List.replicate (zs.length - (Lib.compact zs).length) 0).toArray := Any.slices_Compact_int Tryz.laysNm220 blk off cap zs w hH hsz hcap
def Tryz.laysNm215_ren : Go.Shelf.Ren := ⟨fun | 15 => 102 | n => n, fun | 22 => 70 | 3 => 3 | 4 => 4 | n => n, fun | n => n⟩
theorem Tryz.laysNm215 : Go.Proofs.Lays2.n15 Tryz.prog Tryz.laysNm215_ren := {
  mixed := by kernel_rfl
  f15 := Tryz.func102.trans (congrArg some (by kernel_rfl))
  t3 := Tryz.underlying3
  a3 := Tryz.isAgg3
  z3 := Tryz.sizeOf3
  v3 := Tryz.zeroValue3
  t4 := Tryz.underlying4
  a4 := Tryz.isAgg4
  z4 := Tryz.sizeOf4
  v4 := Tryz.zeroValue4
  t22 := Tryz.underlying70
  a22 := Tryz.isAgg70
  z22 := Tryz.sizeOf70
  v22 := Tryz.zeroValue70
  i3 := by kernel_rfl }
open Go.RowKit Go.Lib in
theorem Tryz.slices_Clone_int_nil (n c : Nat) (w : World) :
    Calls Tryz.prog 102 #[.slice none n c] w fun e w' => e = .returned (.slice none 0 0) ∧ w' = w := Any.slices_Clone_int_nil Tryz.laysNm215 n c w
open Go.RowKit Go.Lib in
theorem Tryz.slices_Clone_int_zero (a : Addr) (c : Nat) (w : World) :
    Calls Tryz.prog 102 #[.slice (some a) 0 c] w fun e w' => ∃ v', e = .returned v' ∧ w'.ownsRow w.heap.size 3 1 v' 0 [] ∧ v' ≠ .slice none 0 0 ∧ Below w.heap.size w w' := Any.slices_Clone_int_zero Tryz.laysNm215 a c w
open Go.RowKit Go.Sort in
theorem Tryz.slices_Sort_int_none (p : Option Addr) (cap : Nat) (w : World) :
    Calls Tryz.prog 130 #[.slice p 0 cap] w fun e w' => e = .returned (.tuple #[]) ∧ w' = w := Any.slices_Sort_int_none Tryz.lays189 p cap w
open Go.RowKit Go.Lib Go.Sort in
theorem Tryz.slices_Compact_int_empty (a : Option Addr) (cap : Nat) (w : World) :
    Calls Tryz.prog 131 #[.slice a 0 cap] w fun e w' => e = .returned (.slice a 0 cap) ∧ w' = w := Any.slices_Compact_int_empty Tryz.laysNm220 a cap w

open Go.Abs in
theorem mem0_ok : MemOk Tryz.prog mem0 := memS_ok ⟨fun p cap w => Tryz.slices_Sort_int_none p cap w, fun blk off cap zs w hH hblk hsz => Tryz.slices_Sort_int blk off cap zs w hH hblk hsz⟩ ⟨fun p cap w => Tryz.slices_Compact_int_empty p cap w, fun blk off cap zs w hH hsz hcap => Tryz.slices_Compact_int blk off cap zs w hH hsz hcap⟩ ⟨fun n c w => Tryz.slices_Clone_int_nil n c w, fun a c w => Tryz.slices_Clone_int_zero a c w⟩
end Go.Proofs
/- What is known holds. -/
set_option linter.unusedVariables false
set_option linter.unusedSimpArgs false
namespace Go.Proofs
open Go Go.Abs
theorem sum0_sound : ∀ f args v, cfg0.sum f args = some v → PureCalls Tryz.prog f args (.ret v) := fun f args v h => by
  change sum0 f args = some v at h
  unfold sum0 at h
  cases hf : Nat.beq f 9 with
  | false => rw [hf] at h; exact sum1_sound f args v h
  | true =>
    rw [hf] at h
    have : f = 9 := Nat.eq_of_beq_eq_true hf
    subst this
    simp only [cond] at h
    split at h
    · cases h; exact sane_pure
    · cases h
theorem sum0_ok : SumOk Tryz.prog cfg0 := ⟨sum0_sound, mem0_ok⟩
end Go.Proofs
/- The law PageChains: for every input it returns true. -/
set_option linter.unusedVariables false
set_option linter.unusedSimpArgs false
namespace Go.Proofs
open Go Go.Abs Go.ChangeShapes Go.WideShapes Go.ChangeAt Go.RowKit
theorem pgIn_ok {p : Page} (h : smallB p = true) (i : PgIn p) : p.Ok := by
  unfold smallB shortB at h
  simp only [Bool.and_eq_true, decide_eq_true_eq] at h
  obtain ⟨h1, ⟨_, h2⟩, h3⟩ := h
  obtain ⟨h4, h5⟩ := few_iff.1 h1
  exact ⟨i.o1, i.o2, by omega, by omega, by omega, fun e he => by have := h5 e he; exact ⟨by omega, by omega⟩, i.o3⟩
theorem small_data {p : Page} (h : smallB p = true) : p.data.length ≤ 1000 := by
  unfold smallB at h
  simp only [Bool.and_eq_true, decide_eq_true_eq] at h
  omega
theorem pieces_both {n : Nat} (hn : 3 ≤ n) (s : Str) (hs : s.length ≤ 5000) : ∃ (L : AV) (e : Int), (∀ h, C n 29 [.str s] h = some (.ret (.tup [L, i64 e]), h)) ∧ (∀ h, C n 30 [.str s] h = some (.ret (.agg [L, i64 e]), h)) ∧ L.scal = true ∧ ∀ h, C n 35 [L, L] h = some (.ret (.bool true), h) := by
  have cA := fun h => pieces_eq (n := n) (h := h) hn s (by omega)
  have cB := fun h => refPieces_eq (n := n) (h := h) (by omega) s (by omega)
  cases hw : within s.length 65 4000 with
  | false =>
    rw [hw, if_neg (by decide)] at cA cB
    exact ⟨_, _, cA, cB, rfl, fun h => texts_eq (n := n) (h := h) (by omega) [] (by decide) 0 0 (fun q => (q rfl).elim) (fun q => (q rfl).elim) true true⟩
  | true =>
    rw [hw, if_pos rfl] at cA cB
    exact ⟨_, _, cA, cB, rfl, fun h => texts_eq (n := n) (h := h) (by omega) (pieces s) (by simp [pieces]; unfold pieceN; omega) 1 1 (fun _ => rfl) (fun _ => rfl) false false⟩
theorem chain_both {n : Nat} (hn : 8 ≤ n) (s : Str) (hs : s.length ≤ 5000) (no : List Int) (hno : no.length ≤ 30) (sz : Nat) (hz : no ≠ [] → sz = 1) (c : Bool) (v : Int) : ∃ (L : AV) (e : Int), (∀ h, C n 31 [.str s, .lst sz (no.map i64) c, i64 v] h = some (.ret (.tup [L, i64 e]), h)) ∧ (∀ h, C n 32 [.str s, .lst sz (no.map i64) c, i64 v] h = some (.ret (.agg [L, i64 e]), h)) ∧ L.scal = true ∧ ∀ h, C n 36 [L, L] h = some (.ret (.bool true), h) := by
  have cA := fun h => chain_eq (n := n) (h := h) hn s (by omega) no (by omega) sz hz c v
  have cB := fun h => refChain_eq (n := n) (h := h) (by omega) s (by omega) no (by omega) sz hz c v
  cases hw : chainOk s no v with
  | false =>
    rw [hw, if_neg (by decide)] at cA cB
    exact ⟨_, _, cA, cB, rfl, fun h => refSamePs_eq (n := n) (h := h) (by omega) [] [] (by decide) (fun p hp => by cases hp) (fun p hp => by cases hp) (fun p hp => by cases hp) 0 0 (fun q => (q rfl).elim) (fun q => (q rfl).elim) true true⟩
  | true =>
    rw [hw, if_pos rfl] at cA cB
    refine ⟨_, _, cA, cB, rfl, fun h => ?_⟩
    rw [refSamePs_eq (n := n) (h := h) (by omega) (chainPs (pieces s) no v) (chainPs (pieces s) no v) (by rw [chainPs_len]; omega) (fun q hq => (chain_bare q hq).entries) (fun q hq => chainPs_ok hq) (fun q hq => chainPs_ok hq) 10 10 (fun _ => rfl) (fun _ => rfl) false false, samePsR_self fun q hq => (chain_bare q hq).entries]
theorem joined_both {n : Nat} (hn : 9 ≤ n) (l : List Page) (hl : smallsB l = true) (hi : ∀ p ∈ l, PgIn p) (sz : Nat) (hz : l ≠ [] → sz = 10) (c : Bool) : ∃ (s : Str) (e : Int), (∀ h, C n 33 [.lst sz (l.map Page.av) c] h = some (.ret (.tup [.str s, i64 e]), h)) ∧ (∀ h, C n 34 [.lst sz (l.map Page.av) c] h = some (.ret (.agg [.str s, i64 e]), h)) := by
  obtain ⟨h1, h2⟩ := smalls_iff.1 hl
  have cA := fun h => joined_eq (n := n) (h := h) hn l (by omega) (fun p hp => small_data (h2 p hp)) (fun p hp => pgIn_ok (h2 p hp) (hi p hp)) sz hz c
  have cB := fun h => refJoined_eq (n := n) (h := h) (by omega) l (by omega) (fun p hp => small_data (h2 p hp)) (fun p hp => pgIn_ok (h2 p hp) (hi p hp)) sz hz c
  cases hw : joinOk l with
  | false =>
    rw [hw, if_neg (by decide)] at cA cB
    exact ⟨_, _, cA, cB⟩
  | true =>
    rw [hw, if_pos rfl] at cA cB
    exact ⟨_, _, cA, cB⟩
theorem two_cells' {L : AV} {e : Int} (h : L.scal = true) : (AV.agg [L, i64 e]).cells? = some [L, i64 e] := by
  show (if ([L, i64 e] : List AV).all AV.scal = true then some [L, i64 e] else none) = _
  rw [if_pos (by simp only [List.all_cons, List.all_nil, h, Bool.and_true]; rfl)]
theorem pageChains_eq {n : Nat} {h : AHeap} (hn : 10 ≤ n) (s : Str) (no : List Int) (nz : Nat) (hnz : no ≠ [] → nz = 1) (nc : Bool) (v : Int) (l : List Page) (hi : ∀ p ∈ l, PgIn p) (sz : Nat) (hz : l ≠ [] → sz = 10) (c : Bool) :
    C n 6 [.str s, .lst nz (no.map i64) nc, i64 v, .lst sz (l.map Page.av) c] h = some (.ret (.bool true), h) := by
  obtain ⟨m, rfl⟩ : ∃ m, n = m + 1 := ⟨n - 1, by omega⟩
  have cs : ∀ h, C m 9 [] h = some (.ret (.bool true), h) := fun h => sane_eq (by omega) h
  have csm : ∀ h, C m 10 [.lst sz (l.map Page.av) c] h = some (.ret (.bool (smallsB l)), h) := fun h => smalls_eq (by omega) l hi sz hz c
  have hpure : pureBs [.str s, .lst nz (no.map i64) nc, i64 v, .lst sz (l.map Page.av) c] = true := by
    show (AV.pureB (.str s) && pureBs [.lst nz (no.map i64) nc, i64 v, .lst sz (l.map Page.av) c]) = true
    rw [ints_pure no (r := [i64 v, .lst sz (l.map Page.av) c]) (show (AV.pureB (i64 v) && pureBs [.lst sz (l.map Page.av) c]) = true by rw [pure_lst page_pure l rfl]; rfl)]; rfl
  refine fun_pure F6 rfl rfl rfl hpure ?_
  conv => whnf
  refine clI (cs _) ?_
  conv => whnf
  refine brd (fun a => ?_) (fun a => ?_)
  · conv => whnf
    exact retP rfl (frz_bool rfl)
  conv => whnf
  refine brd (fun b => ?_) (fun b => ?_)
  · conv => whnf
    exact retP rfl (frz_bool rfl)
  have hs : s.length ≤ 5000 := by omega
  have hno : no.length ≤ 30 := by simp only [List.length_map] at b; omega
  cases hsm : smallsB l with
  | false =>
    rw [hsm] at csm
    conv => whnf
    refine clI (csm _) ?_
    conv => whnf
    exact retP rfl (frz_bool rfl)
  | true =>
    rw [hsm] at csm
    obtain ⟨L1, e1, cA1, cB1, hL1, cT1⟩ := pieces_both (n := m) (by omega) s hs
    obtain ⟨L2, e2, cA2, cB2, hL2, cT2⟩ := chain_both (n := m) (by omega) s hs no hno nz hnz nc v
    obtain ⟨s3, e3, cA3, cB3⟩ := joined_both (n := m) (by omega) l hsm hi sz hz c
    conv => whnf
    refine clI (csm _) ?_
    conv => whnf
    refine clI (cA1 _) ?_
    conv => whnf
    refine clI (cB1 _) ?_
    conv => whnf
    refine stI (xs := [L1, i64 e1]) (by rfl) (two_cells' hL1) (by rfl) (by rfl) (by rfl) ?_
    conv => whnf
    refine clI (cA2 _) ?_
    conv => whnf
    refine clI (cB2 _) ?_
    conv => whnf
    refine stI (xs := [L2, i64 e2]) (by rfl) (two_cells' hL2) (by rfl) (by rfl) (by rfl) ?_
    conv => whnf
    refine clI (cA3 _) ?_
    conv => whnf
    refine clI (cB3 _) ?_
    conv => whnf
    refine stI (xs := [.str s3, i64 e3]) (by rfl) (by rfl) (by rfl) (by rfl) (by rfl) ?_
    conv => whnf
    refine ldI (by rfl) ?_
    conv => whnf
    refine clI (cT1 _) ?_
    conv => whnf
    refine ldI (by rfl) ?_
    conv => whnf
    refine bre (fun _ => ?_) (fun a => absurd rfl a)
    conv => whnf
    refine ldI (by rfl) ?_
    conv => whnf
    refine clI (cT2 _) ?_
    conv => whnf
    refine ldI (by rfl) ?_
    conv => whnf
    refine bre (fun _ => ?_) (fun a => absurd rfl a)
    conv => whnf
    refine ldI (by rfl) ?_
    conv => whnf
    refine bre (fun _ => ?_) (fun a => absurd rfl a)
    conv => whnf
    refine ldI (by rfl) ?_
    conv => whnf
    exact retP rfl (frz_bool (by simp))
end Go.Proofs
/- The law PageChains: the row. -/
set_option linter.unusedVariables false
set_option linter.unusedSimpArgs false
namespace Go.Proofs
open Go Go.Abs Go.ChangeShapes Go.WideShapes Go.ChangeAt Go.RowKit
theorem tyPages : Tryz.prog.underlying 71 = some (.slice 25) := by kernel_rfl
section
variable {H : Type} {enc : TypeId × Value → H} {W : World} {base : Nat} {sp : Nat → Bool} {held : Bool} {fuel : Nat} {cs : List Value} {x : DataW H × List MemPlace}
theorem rd_pages (h : DataW.trod enc Tryz.prog W base sp held fuel 71 cs = some x) : ∃ (l : List Page) (v : Value), cs = [v] ∧ VR (cellsW W) noBM (.lst 10 (l.map Page.av) false) v ∧ ∀ p ∈ l, PgIn p := by
  obtain ⟨l, v, h1, h2, h3⟩ := rd_slice (g := Page.cells) (ok := PgIn) tyPages szPage (by decide) (fun fuel cs x h => by
    obtain ⟨p, g, o1, o2, o3⟩ := rd_page h
    exact ⟨p, g, o1, o2, o3⟩) h
  exact ⟨l, v, h1, h2, h3⟩
end
set_option maxRecDepth 100000 in
theorem pageChains_calls {H : Type} {enc : TypeId × Value → H} {W : World} {base : Nat} {args : Array Value} {ds gs : List (DataW H)} {before : List MemPlace}
    (hval : ∀ (j : Nat) t v, Tryz.f6.params[j]? = some t → args[j]? = some v → Value.okWide Tryz.prog W .any base t v)
    (hW : DataW.Whole enc Tryz.prog Tryz.f6.params.toList [] false W args.toList ds gs before) : ∃ xs : List AV, VRs (cellsW W) noBM xs args.toList ∧ PureCalls Tryz.prog 6 xs (.ret (.bool true)) := by
  obtain ⟨p, q, hA0, _⟩ := hW
  have hA : DataW.TrodAll enc Tryz.prog W 0 (fun _ => true) true [9, 70, 3, 71] args.toList ds p := hA0
  rw [show Tryz.f6.params = #[9, 70, 3, 71] by kernel_rfl] at hval
  obtain ⟨args⟩ := args
  simp only at hA
  obtain ⟨v0, vs0, d0, ds0, p0, q0, rfl, rfl, rfl, ⟨_, h0⟩, r0⟩ := trodAll_cons hA
  obtain ⟨v1, vs1, d1, ds1, p1, q1, rfl, rfl, rfl, ⟨_, h1⟩, r1⟩ := trodAll_cons r0
  obtain ⟨v2, vs2, d2, ds2, p2, q2, rfl, rfl, rfl, ⟨_, h2⟩, r2⟩ := trodAll_cons r1
  obtain ⟨v3, vs3, d3, ds3, p3, q3, rfl, rfl, rfl, ⟨_, h3⟩, r3⟩ := trodAll_cons r2
  obtain ⟨rfl, rfl, rfl⟩ := trodAll_nil r3
  obtain ⟨b, rfl⟩ := okWide_string ty9 (hval 0 9 v0 rfl rfl)
  obtain ⟨a1, len1, cap1, rfl⟩ := okWide_slice tyInts (hval 1 _ v1 rfl rfl)
  obtain ⟨k2, rfl⟩ := okWide_int ty3 (hval 2 3 v2 rfl rfl)
  obtain ⟨a3, len3, cap3, rfl⟩ := okWide_slice tyPages (hval 3 _ v3 rfl rfl)
  obtain ⟨no, w1, e1, g1, _⟩ := rd_ints h1
  cases e1
  obtain ⟨l, w3, e3, g3, i3⟩ := rd_pages h3
  cases e3
  have f0 : VR (cellsW W) noBM (.str b.data.toList) (.string b) := by unfold VR; simp
  have f2 : VR (cellsW W) noBM (i64 k2) (.int .i64 k2) := by unfold VR; rfl
  refine ⟨[.str b.data.toList, .lst 1 (no.map i64) false, i64 k2, .lst 10 (l.map Page.av) false], @VRs_app _ _ [_] _ [_] _ (VRs_one f0) (@VRs_app _ _ [_] _ [_] _ (VRs_one g1) (@VRs_app _ _ [_] _ [_] _ (VRs_one f2) (VRs_one g3))), ?_⟩
  exact pure_of_CN (n := 10) sum0_ok rfl (pageChains_eq (by omega) b.data.toList no 1 (fun _ => rfl) false k2 l i3 10 (fun _ => rfl) false)

set_option maxRecDepth 100000 in
theorem pageChains_lifted (os : Os) (started : os.Started) (H : Type) (enc : TypeId × Value → H) :
    ReturnsInHanded {} Tryz.checked os 6 .any (YtfddiediieblhaaGreat.Rows.pageChainsSpec.pre6 enc Tryz.prog Tryz.f6 YtfddiediieblhaaGreat.Rows.pageChainsRow.domain false) (YtfddiediieblhaaGreat.Rows.pageChainsSpec.post enc Tryz.prog Tryz.f6 false true false false) := by
  refine returnsInHanded_of_change (C := Tryz.checked) own started (by kernel_rfl) Tryz.func6
    (ChangeSpec.witness6 (enc := enc) (C := Tryz.checked) false ⟨#[], #[.string ByteArray.empty, .slice none 0 0, .int .i64 0, .slice none 0 0], []⟩ 8 (by kernel_rfl) (by kernel_rfl) (by kernel_rfl) (by kernel_rfl)) ?_
  intro W base args ds gs before hval hW _ _
  obtain ⟨xs, hv, hp⟩ := pageChains_calls hval hW
  refine law_call laid (by kernel_rfl) (tb := 4) (by kernel_rfl) ty4 rfl (fun ds hd => ?_) hW hv hp
  match ds, hd with
  | [_, _, _, _], _ => rfl
end Go.Proofs
namespace Go.Proofs.YtfddiediieblhaaGreat
open Go Go.Abs
/-- The law PageChains, for every input. -/
theorem pageChains_holds : Rows.PageChainsSaid :=
  OpenClaim.holds_of_wide 6 Tryz.f6 rfl rfl rfl rfl rfl rfl rfl ⟨rfl, rfl, rfl, rfl, rfl⟩ rfl rfl rfl rfl rfl (by kernel_rfl) Tryz.func6 (by kernel_rfl)
    (of_decide_eq_true (by kernel_rfl)) (by unfold Func.isWrapper; first | (rw [if_pos (by decide +kernel)]; kernel_rfl) | (rw [if_neg (by decide +kernel)]; exact ⟨rfl, rfl⟩))
    (fun os started H enc _ => pageChains_lifted os started H enc)
#print axioms pageChains_holds
end Go.Proofs.YtfddiediieblhaaGreat
