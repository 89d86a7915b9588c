/- The checksum: what CRC computes. -/
import Derived.Test.YtfddiediieblhaaSa
set_option linter.unusedVariables false
set_option linter.unusedSimpArgs false
namespace Go.Proofs
open Go Go.Abs
def cfgN : Cfg := ⟨inl0, fun _ _ => none⟩
noncomputable abbrev CC (n : Nat) : CallF := CN Try.prog cfgN n
@[reducible] def u32 (c : UInt32) : AV := .int .u32 c.toNat

theorem wrap_u32 (b : BitVec 32) : IntKind.u32.wrap (b.toNat : Int) = (b.toNat : Int) := by
  have h := b.isLt
  show (if (IntKind.u32.signed && decide ((b.toNat : Int) % (2 ^ 32 : Int) ≥ (2 ^ (32 - 1) : Int))) = true then (b.toNat : Int) % (2 ^ 32 : Int) - 2 ^ 32 else (b.toNat : Int) % (2 ^ 32 : Int)) = _
  rw [if_neg (by simp [IntKind.signed])]
  omega
theorem wrap_u8 (b : BitVec 8) : IntKind.u8.wrap (b.toNat : Int) = (b.toNat : Int) := by
  have h := b.isLt
  show (if (IntKind.u8.signed && decide ((b.toNat : Int) % (2 ^ 8 : Int) ≥ (2 ^ (8 - 1) : Int))) = true then (b.toNat : Int) % (2 ^ 8 : Int) - 2 ^ 8 else (b.toNat : Int) % (2 ^ 8 : Int)) = _
  rw [if_neg (by simp [IntKind.signed])]
  omega
theorem bv32 (c : UInt32) : BitVec.ofInt 32 (c.toNat : Int) = c.toBitVec := by
  rw [BitVec.ofInt_natCast]; apply BitVec.eq_of_toNat_eq; simp
theorem and_u32 (c d : UInt32) : IntKind.u32.wrap (BitVec.ofInt IntKind.u32.bits (c.toNat : Int) &&& BitVec.ofInt IntKind.u32.bits (d.toNat : Int)).toNat = ((c &&& d).toNat : Int) := by
  show IntKind.u32.wrap (BitVec.ofInt 32 (c.toNat : Int) &&& BitVec.ofInt 32 (d.toNat : Int)).toNat = _
  rw [bv32, bv32, wrap_u32]; rfl
theorem xor_u32 (c d : UInt32) : IntKind.u32.wrap (BitVec.ofInt IntKind.u32.bits (c.toNat : Int) ^^^ BitVec.ofInt IntKind.u32.bits (d.toNat : Int)).toNat = ((c ^^^ d).toNat : Int) := by
  show IntKind.u32.wrap (BitVec.ofInt 32 (c.toNat : Int) ^^^ BitVec.ofInt 32 (d.toNat : Int)).toNat = _
  rw [bv32, bv32, wrap_u32]; rfl
theorem xor_u8 (c d : UInt8) : IntKind.u8.wrap (BitVec.ofInt IntKind.u8.bits (c.toNat : Int) ^^^ BitVec.ofInt IntKind.u8.bits (d.toNat : Int)).toNat = ((c ^^^ d).toNat : Int) := by
  show IntKind.u8.wrap (BitVec.ofInt 8 (c.toNat : Int) ^^^ BitVec.ofInt 8 (d.toNat : Int)).toNat = _
  have e : ∀ c : UInt8, BitVec.ofInt 8 (c.toNat : Int) = c.toBitVec := fun c => by rw [BitVec.ofInt_natCast]; apply BitVec.eq_of_toNat_eq; simp
  rw [e, e, wrap_u8]; rfl
theorem not_u32 (c : UInt32) : IntKind.u32.wrap (BitVec.ofInt IntKind.u32.bits (if IntKind.u32.signed then -1 else IntKind.u32.max) ^^^ BitVec.ofInt IntKind.u32.bits (c.toNat : Int)).toNat = ((~~~c).toNat : Int) := by
  show IntKind.u32.wrap (BitVec.ofInt 32 4294967295 ^^^ BitVec.ofInt 32 (c.toNat : Int)).toNat = _
  rw [bv32, wrap_u32]
  have : (BitVec.ofInt 32 4294967295 ^^^ c.toBitVec) = ~~~c.toBitVec := by
    rw [show BitVec.ofInt 32 4294967295 = BitVec.allOnes 32 by decide]
    exact BitVec.allOnes_xor
  rw [this]; rfl
theorem shr_u32 (c : UInt32) (k : Nat) (hk : k < 32) : ((c.toNat : Int)).fdiv (2 ^ (min (k : Int).toNat IntKind.u32.bits)) = ((c >>> (UInt32.ofNat k)).toNat : Int) := by
  have h1 : min (k : Int).toNat IntKind.u32.bits = k := by show min (k : Int).toNat 32 = k; omega
  rw [h1]
  have h2 : (c >>> (UInt32.ofNat k)).toNat = c.toNat / 2 ^ k := by
    rw [UInt32.toNat_shiftRight, UInt32.toNat_ofNat', Nat.shiftRight_eq_div_pow]
    rw [Nat.mod_eq_of_lt (show k < 2 ^ 32 by omega), Nat.mod_eq_of_lt hk]
  rw [h2, Int.fdiv_eq_ediv_of_nonneg _ (by exact Int.pow_nonneg (by decide))]
  norm_cast
theorem low_u8 (c : UInt32) : IntKind.u8.wrap (c.toNat : Int) = (c.toUInt8.toNat : Int) := by
  have h := c.toNat_lt
  show (if (IntKind.u8.signed && decide ((c.toNat : Int) % (2 ^ 8 : Int) ≥ (2 ^ (8 - 1) : Int))) = true then (c.toNat : Int) % (2 ^ 8 : Int) - 2 ^ 8 else (c.toNat : Int) % (2 ^ 8 : Int)) = _
  rw [if_neg (by simp [IntKind.signed]), UInt32.toNat_toUInt8]
  omega

def bit (c : UInt32) : UInt32 := if c &&& 1 = 1 then (c >>> 1) ^^^ 3988292384 else c >>> 1
theorem u32_eq {c d : UInt32} : ((c.toNat : Int) == (d.toNat : Int)) = decide (c = d) := by
  by_cases h : c = d
  · subst h; simp
  · simp [h]; intro h'; exact h (UInt32.toNat_inj.1 (by omega))
section
variable {n : Nat} {h : AHeap}
theorem bit_eq (hn : 1 ≤ n) (c : UInt32) : CC n 80 [u32 c] h = some (.ret (u32 (bit c)), h) := by
  obtain ⟨m, rfl⟩ : ∃ m, n = m + 1 := ⟨n - 1, by omega⟩
  refine fun_pure F80 rfl rfl rfl rfl ?_
  conv => whnf
  refine zI (and_u32 c 1) ?_
  conv => whnf
  have e1 := @u32_eq (c &&& 1) 1
  refine br (fun a => ?_) (fun a => ?_)
  · have a' : c &&& 1 = 1 := by simpa [e1] using e1.symm.trans a
    conv => whnf
    refine ⟨by decide, _, shr_u32 c 1 (by decide), ?_⟩
    conv => whnf
    refine zI (xor_u32 _ 3988292384) ?_
    conv => whnf
    exact retP rfl (frz_int (by simp [bit, a']))
  · have a' : ¬ c &&& 1 = 1 := by simpa [e1] using e1.symm.trans a
    conv => whnf
    refine ⟨by decide, _, shr_u32 c 1 (by decide), ?_⟩
    conv => whnf
    exact retP rfl (frz_int (by simp [bit, a']))

def tab (i : UInt8) : UInt32 := bit (bit (bit (bit (bit (bit (bit (bit i.toUInt32)))))))
def bits : Nat → UInt32 → UInt32
  | 0, c => c
  | k + 1, c => bits k (bit c)
theorem bits_succ : ∀ (k : Nat) (c : UInt32), bits (k + 1) c = bit (bits k c)
  | 0, c => rfl
  | k + 1, c => bits_succ k (bit c)
def tabV (j : Nat) : AV := u32 (bits 8 (UInt32.ofNat j))
def tabC (i : Nat) : List AV := (List.range 256).map fun j => if j < i then tabV j else .int .u32 0
theorem tabC_len (i : Nat) : (tabC i).length = 256 := by simp [tabC]
theorem tabC_scal (i : Nat) : (tabC i).all AV.scal = true := by
  rw [List.all_eq_true]
  intro x hx
  obtain ⟨j, _, rfl⟩ := List.mem_map.1 hx
  split <;> rfl
theorem tabC_cells (i : Nat) : (AV.agg (tabC i)).cells? = some (tabC i) := by
  show (if (tabC i).all AV.scal = true then some (tabC i) else none) = _
  rw [if_pos (tabC_scal i)]
theorem tabC_frz (i n : Nat) : FrzOk (n + 2) (.agg (tabC i)) := frzOk_agg fun x hx => by
  obtain ⟨j, _, rfl⟩ := List.mem_map.1 hx
  split <;> exact frzOk_int
theorem tabC_over {zs : List AV} (hz : zs.length = 256) (i : Nat) : putAt zs 0 (tabC i) = tabC i := by
  unfold putAt
  rw [tabC_len, List.take_zero, List.drop_of_length_le (by omega)]
  simp
theorem tabC_same (i : Nat) : putAt (tabC i) 0 (tabC i) = tabC i := tabC_over (tabC_len i) i
theorem load149 {cs : List AV} (hcs : cs.length = 256) : loadA Try.prog [.cells 0 (some 149) cs 0] 149 (.ptr 0 0 0) = some (.agg cs) := by
  have ht : (ti Try.prog 149).map (fun d => (isAggD d.desc, d.size)) = some (true, 256) := by kernel_rfl
  obtain ⟨d, h1, h2⟩ := Option.map_eq_some_iff.1 ht
  simp only [Prod.mk.injEq] at h2
  unfold loadA
  simp only [h1, List.getElem?_cons_zero, if_true]
  unfold partA
  rw [h2.1, h2.2, hcs]
  simp [← hcs]
theorem tabC_put {i : Nat} (hi : i < 256) : putAt (tabC i) i [tabV i] = tabC (i + 1) := by
  apply List.ext_getElem?
  intro k
  unfold putAt tabC
  rw [List.append_assoc]
  by_cases h1 : k < i
  · rw [List.getElem?_append_left (by simp; omega), List.getElem?_take, if_pos h1]
    simp only [List.getElem?_map]
    by_cases h2 : k < 256
    · simp [List.getElem?_range h2, h1, show k < i + 1 by omega]
    · omega
  · rw [List.getElem?_append_right (by simp; omega)]
    by_cases h2 : k = i
    · subst h2
      simp [List.getElem?_range hi, hi, Nat.min_eq_left (Nat.le_of_lt hi)]
    · rw [List.getElem?_append_right (by simp; omega)]
      simp only [List.length_take, List.length_map, List.length_range, List.length_cons, List.length_nil, List.getElem?_drop, List.getElem?_map]
      rw [Nat.min_eq_left (Nat.le_of_lt hi), show i + (0 + 1) + (k - i - (0 + 1)) = k by omega]
      by_cases h3 : k < 256
      · simp [List.getElem?_range h3, show ¬ k < i by omega, show ¬ k < i + 1 by omega]
      · rw [List.getElem?_eq_none (by simp; omega)]; rfl

theorem wrap_u32n {j : Nat} (hj : j < 256) : IntKind.u32.wrap (j : Int) = ((UInt32.ofNat j).toNat : Int) := by
  have : ((UInt32.ofNat j).toNat : Int) = j := by rw [UInt32.toNat_ofNat']; omega
  rw [this]
  have := wrap_u32 (BitVec.ofNat 32 j)
  rwa [BitVec.toNat_ofNat, Nat.mod_eq_of_lt (show j < 2 ^ 32 by omega)] at this

theorem table_in {m : Nat} (hn : 1 ≤ m) (j : Nat) (hj : j < 256) (hp : AHeap) {Q : Ex → LS → Prop} {s : LS} (hs : LS.sub ⟨[(0, .ptr 0 0 0), (1, i64 j), (2, u32 (UInt32.ofNat j)), (3, i64 j), (8, i64 0)], hp, []⟩ s)
    (hE : ∀ L, subL [(0, .ptr 0 0 0), (1, i64 j), (2, tabV j), (3, i64 j)] L → Q (.exit 2) ⟨L, hp, []⟩) : OkR Try.prog (CC m) cfgN.inl KK 18 5 (.loop (c77.lp 1)) s Q := by
  refine loopI (by decide) rfl (α := Nat) (fun x => ⟨[(0, .ptr 0 0 0), (1, i64 j), (2, u32 (bits x (UInt32.ofNat j))), (3, i64 j), (8, i64 x)], hp, []⟩) (fun x => x ≤ 8) (fun x => 8 - x) 0 hs (by simp) (by show 8 - 0 < KK; simp only [KK]; omega) ?_
  intro x hx
  conv => whnf
  refine brd (fun a => ?_) (fun a => ?_)
  · conv => whnf
    refine clI (bit_eq (by omega) (bits x (UInt32.ofNat j))) ?_
    conv => whnf
    refine zI (z := ((x + 1 : Nat) : Int)) (by rw [wrap_i64 (by omega) (by omega)]; rfl) ?_
    refine nxI (x + 1) (by omega) (by omega) ⟨⟨rfl, rfl, ?_, rfl, rfl⟩, rfl, rfl⟩
    rw [bits_succ]; rfl
  · have : x = 8 := by omega
    subst this
    conv => whnf
    exact hE _ ⟨rfl, rfl, rfl, rfl⟩

set_option maxRecDepth 100000 in
theorem table_eq (hn : 2 ≤ n) : CC n 77 [] h = some (.ret (.agg (tabC 256)), h) := by
  obtain ⟨m, rfl⟩ : ∃ m, n = m + 1 := ⟨n - 1, by omega⟩
  refine fun_pure F77 rfl rfl rfl rfl ?_
  conv => whnf
  refine loopI (by decide) rfl (α := Nat) (fun x => ⟨[(0, .ptr 0 0 0), (3, i64 x)], [.cells 0 (some 149) (tabC x) 0], []⟩) (fun x => x ≤ 256) (fun x => 256 - x) 0 ⟨⟨rfl, rfl⟩, by kernel_rfl, rfl⟩ (by simp) (by show 256 - 0 < KK; simp only [KK]; omega) ?_
  intro x hx
  conv => whnf
  refine brd (fun a => ?_) (fun a => ?_)
  · have hx' : x < 256 := by omega
    conv => whnf
    refine zI (wrap_u32n hx') ?_
    conv => whnf
    refine table_in (by omega) x hx' _ ⟨⟨rfl, rfl, rfl, rfl, rfl⟩, rfl, rfl⟩ fun L hL => ?_
    conv => whnf
    refine cutI (by decide) rfl (t := ⟨[(0, .ptr 0 0 0), (1, i64 x), (2, tabV x), (3, i64 x)], [.cells 0 (some 149) (tabC x) 0], []⟩) ⟨hL, rfl, rfl⟩ ?_
    conv => whnf
    refine ⟨by omega, by omega, ?_⟩
    conv => whnf
    refine stI (cs := tabC x) (by rfl) (by rfl) (by rfl) (by rw [tabC_len]; show Nat.ble (0 + (x : Int).toNat * 1 + 1) 256 = true; exact Nat.ble_eq_true_of_le (by omega)) (by rfl) ?_
    refine cutI (by decide) rfl (t := ⟨[(0, .ptr 0 0 0), (3, i64 x)], [.cells 0 (some 149) (tabC (x + 1)) 0], []⟩) ⟨⟨rfl, rfl⟩, ?_, rfl⟩ ?_
    · show [AB.cells 0 (some 149) (putAt (tabC x) (0 + (x : Int).toNat * 1) [tabV x]) 0] = _
      rw [show 0 + (x : Int).toNat * 1 = x by omega, tabC_put hx']
    · conv => whnf
      refine zI (z := ((x + 1 : Nat) : Int)) (by rw [wrap_i64 (by omega) (by omega)]; rfl) ?_
      exact nxI (x + 1) (by omega) (by omega) ⟨⟨rfl, rfl⟩, rfl, rfl⟩
  · have : x = 256 := by omega
    subst this
    refine cutI (by decide) rfl (t := ⟨[(0, .ptr 0 0 0)], [.cells 0 (some 149) (tabC 256) 0], []⟩) ⟨rfl, rfl, rfl⟩ ?_
    conv => whnf
    refine ldI (cs := tabC 256) (by rfl) ?_
    conv => whnf
    have hcs : List.take 256 (List.drop 0 (tabC 256)) = tabC 256 := by rw [List.drop_zero, List.take_of_length_le (by rw [tabC_len]; decide)]
    refine stI (cs := tabC 256) (xs := tabC 256) (by rfl) (by show AV.cells? (.agg (List.take 256 (List.drop 0 (tabC 256)))) = _; rw [hcs]; exact tabC_cells 256) (tabC_len 256) (by rw [tabC_len]; rfl) (by rfl) ?_
    refine ⟨rfl, [.agg (tabC 256)], ?_, ?_⟩
    · show (match loadA Try.prog [.cells 0 (some 149) (putAt (tabC 256) 0 (tabC 256)) 0] 149 (.ptr 0 0 0) with | some v => some [v] | none => none) = _
      rw [tabC_same, load149 (tabC_len 256)]
    · exact tabC_frz 256 62 _

/-- The checksum of bytes. -/
def ext (s : List UInt8) (c : UInt32) : UInt32 := s.foldl (fun c b => tab (c.toUInt8 ^^^ b) ^^^ (c >>> 8)) c
def crc (s : List UInt8) : UInt32 := ~~~(ext s (~~~0))

theorem tab_at (b : UInt8) : (tabC 256)[b.toNat]? = some (u32 (tab b)) := by
  have h := b.toNat_lt
  unfold tabC
  rw [List.getElem?_map, List.getElem?_range (by omega)]
  simp only [Option.map_some]
  rw [if_pos (by omega)]
  have : UInt32.ofNat b.toNat = b.toUInt32 := by
    apply UInt32.toNat_inj.1
    rw [UInt32.toNat_ofNat', UInt8.toNat_toUInt32]
    omega
  unfold tabV bits bits bits bits bits bits bits bits bits tab
  rw [this]

theorem ext_loop {m : Nat} (s : Str) (hs : s.length < 1099511627776) (c0 : UInt32) {Q : Ex → LS → Prop} {st : LS} (h0 : LS.sub ⟨[(1, .str s), (5, .ptr 0 0 0), (6, u32 c0), (12, i64 s.length), (13, i64 0)], [.cells 0 (some 149) (tabC 256) 0], []⟩ st)
    (hE : ∀ L hp, lk L 6 = some (u32 (ext s c0)) → Q (.exit 0) ⟨L, hp, []⟩) : OkR Try.prog (CC m) cfgN.inl KK 30 5 (.loop (c72.lp 0)) st Q := by
  refine loopI (by decide) rfl (α := Nat × UInt32) (fun x => ⟨[(1, .str s), (5, .ptr 0 0 0), (6, u32 x.2), (12, i64 s.length), (13, i64 x.1)], [.cells 0 (some 149) (tabC 256) 0], []⟩) (fun x => x.1 ≤ s.length ∧ x.2 = ext (s.take x.1) c0) (fun x => s.length - x.1) (0, c0) h0 (by simp [ext]) (by show s.length - 0 < KK; simp only [KK]; omega) ?_
  rintro ⟨x, c⟩ ⟨hx, hc⟩
  simp only at hx hc
  conv => whnf
  refine brd (fun a => ?_) (fun a => ?_)
  · simp only at a
    have hx' : x < s.length := by omega
    have hst : tab (c.toUInt8 ^^^ s[x]) ^^^ (c >>> 8) = ext (s.take (x + 1)) c0 := by
      subst hc
      unfold ext
      rw [List.take_succ_eq_append_getElem hx', List.foldl_append]; rfl
    conv => whnf
    refine zI (low_u8 c) ?_
    conv => whnf
    refine ⟨by omega, s[x], by rw [Int.toNat_natCast]; exact List.getElem?_eq_getElem hx', ?_⟩
    conv => whnf
    refine zI (xor_u8 c.toUInt8 s[x]) ?_
    conv => whnf
    have hlt := (c.toUInt8 ^^^ s[x]).toNat_lt
    refine ⟨by omega, by omega, ?_⟩
    conv => whnf
    refine ldI (cs := tabC 256) (by rfl) ?_
    refine wpartI (v := u32 (tab (c.toUInt8 ^^^ s[x]))) (by show (tabC 256)[0 + (((c.toUInt8 ^^^ s[x]).toNat : Nat) : Int).toNat * 1]? = _; rw [Int.toNat_natCast, Nat.zero_add, Nat.mul_one]; exact tab_at _) ?_
    conv => whnf
    refine ⟨by decide, _, shr_u32 c 8 (by decide), ?_⟩
    conv => whnf
    refine zI (xor_u32 _ _) ?_
    conv => whnf
    refine zI (z := ((x + 1 : Nat) : Int)) (by rw [wrap_i64 (by omega) (by omega)]; rfl) ?_
    exact nxI (x + 1, tab (c.toUInt8 ^^^ s[x]) ^^^ (c >>> 8)) ⟨hx', hst⟩ (by simp only; omega) ⟨⟨rfl, rfl, rfl, rfl, rfl⟩, rfl, rfl⟩
  · simp only at a
    have : x = s.length := by omega
    subst this
    rw [List.take_length] at hc
    subst hc
    conv => whnf
    exact hE _ _ rfl

set_option maxRecDepth 100000 in
theorem extend_eq (hn : 3 ≤ n) (s : Str) (hs : s.length < 1099511627776) (c : UInt32) : CC n 72 [u32 c, .str s] h = some (.ret (u32 (~~~(ext s (~~~c)))), h) := by
  obtain ⟨m, rfl⟩ : ∃ m, n = m + 1 := ⟨n - 1, by omega⟩
  refine fun_pure F72 rfl rfl rfl rfl ?_
  conv => whnf
  refine clI (table_eq (by omega)) ?_
  conv => whnf
  refine stI (xs := tabC 256) (by rfl) (tabC_cells 256) (tabC_len 256) (by rw [tabC_len]; rfl) (by rfl) ?_
  conv => whnf
  refine zI (not_u32 c) ?_
  conv => whnf
  refine ext_loop s hs (~~~c) ⟨⟨rfl, rfl, rfl, rfl, rfl⟩, ?_, rfl⟩ fun L hp hL => ?_
  · exact congrArg (fun cs => [AB.cells 0 (some 149) cs 0]) (tabC_over (by rfl) 256)
  · refine cutI (by decide) rfl (t := ⟨[(6, u32 (ext s (~~~c)))], hp, []⟩) ⟨hL, rfl, rfl⟩ ?_
    conv => whnf
    refine zI (not_u32 _) ?_
    conv => whnf
    exact retP rfl (frz_int rfl)

theorem crc_eq (hn : 4 ≤ n) (s : Str) (hs : s.length < 1099511627776) : CC n 60 [.str s] h = some (.ret (u32 (crc s)), h) := by
  obtain ⟨m, rfl⟩ : ∃ m, n = m + 1 := ⟨n - 1, by omega⟩
  refine fun_pure F60 rfl rfl rfl rfl ?_
  conv => whnf
  refine clI (extend_eq (by omega) s hs 0) ?_
  conv => whnf
  exact retP rfl (frz_int rfl)
end
end Go.Proofs
