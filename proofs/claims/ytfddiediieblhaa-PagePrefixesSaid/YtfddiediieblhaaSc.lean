/- The chapter's examples hold: by a run of the small machine. -/
import Derived.Test.YtfddiediieblhaaSb
set_option linter.unusedVariables false
set_option linter.unusedSimpArgs false
namespace Go.Proofs
open Go Go.Abs
def bitN (c : Nat) : Nat := Nat.xor (Nat.shiftRight c 1) (Nat.mul (Nat.land c 1) 3988292384)
def byteN (c : Nat) : Nat := bitN (bitN (bitN (bitN (bitN (bitN (bitN (bitN c)))))))
def extN : List UInt8 → Nat → Nat
  | [], c => c
  | b :: r, c => extN r (Nat.xor (byteN (Nat.xor (Nat.mod c 256) b.toNat)) (Nat.shiftRight c 8))
def crcN (s : List UInt8) : Nat := Nat.xor (extN s 4294967295) 4294967295
theorem bitN_eq (c : UInt32) : bitN c.toNat = (bit c).toNat := by
  have h1 : (c &&& 1).toNat = c.toNat % 2 := by
    rw [UInt32.toNat_and]; exact Nat.and_one_is_mod _
  have h2 : (c >>> 1).toNat = c.toNat >>> 1 := by
    rw [UInt32.toNat_shiftRight]; rfl
  have h3 : Nat.land c.toNat 1 = c.toNat % 2 := Nat.and_one_is_mod _
  unfold bitN bit
  rw [h3]
  have h4 := Nat.mod_two_eq_zero_or_one c.toNat
  by_cases h : c &&& 1 = 1
  · rw [if_pos h, UInt32.toNat_xor, h2]
    have : c.toNat % 2 = 1 := by rw [← h1, h]; rfl
    rw [this]; rfl
  · rw [if_neg h, h2]
    have : c.toNat % 2 = 0 := by
      rcases h4 with h4 | h4
      · exact h4
      · exact (h (UInt32.toNat_inj.1 (by rw [h1, h4]; rfl))).elim
    rw [this]
    exact Nat.xor_zero _
theorem byteN_eq (i : UInt8) : byteN i.toNat = (tab i).toNat := by
  unfold byteN tab
  have : i.toNat = i.toUInt32.toNat := by simp
  rw [this, bitN_eq, bitN_eq, bitN_eq, bitN_eq, bitN_eq, bitN_eq, bitN_eq, bitN_eq]
theorem extN_eq : ∀ (s : List UInt8) (c : UInt32), extN s c.toNat = (ext s c).toNat
  | [], c => rfl
  | b :: r, c => by
    have h1 : Nat.xor (Nat.mod c.toNat 256) b.toNat = (c.toUInt8 ^^^ b).toNat := by
      rw [UInt8.toNat_xor, UInt32.toNat_toUInt8]; rfl
    have h2 : Nat.shiftRight c.toNat 8 = (c >>> 8).toNat := by rw [UInt32.toNat_shiftRight]; rfl
    show extN r (Nat.xor (byteN (Nat.xor (Nat.mod c.toNat 256) b.toNat)) (Nat.shiftRight c.toNat 8)) = _
    rw [h1, byteN_eq, h2]
    have h3 : Nat.xor (tab (c.toUInt8 ^^^ b)).toNat (c >>> 8).toNat = (tab (c.toUInt8 ^^^ b) ^^^ (c >>> 8)).toNat := by rw [UInt32.toNat_xor]; rfl
    rw [h3, extN_eq r]
    rfl
theorem crcN_eq (s : List UInt8) : crcN s = (crc s).toNat := by
  unfold crcN crc
  have h := extN_eq s (~~~0)
  rw [show (~~~(0 : UInt32)).toNat = 4294967295 by decide] at h
  rw [h]
  have : ~~~(ext s (~~~0)) = ext s (~~~0) ^^^ 4294967295 := by
    rw [show (4294967295 : UInt32) = -1 by decide, UInt32.xor_neg_one]
  rw [this, UInt32.toNat_xor]; rfl

/-- What is known of the checksum. -/
def sum1 : FuncId → List AV → Option AV := fun f args => cond (Nat.beq f 60) (match args with
  | [.str s] => cond (Nat.blt s.length 1099511627776) (some (.int .u32 (Int.ofNat (crcN s)))) none
  | _ => none) none
def cfg1 : Cfg := ⟨inl0, sum1⟩
theorem sumN_ok : SumOk Try.prog cfgN := fun f args v h => by cases h
theorem crc_pure (s : Str) (hs : s.length < 1099511627776) : PureCalls Try.prog 60 [.str s] (.ret (u32 (crc s))) := pure_of_CN (c := cfgN) (n := 9) sumN_ok rfl (crc_eq (by omega) s hs)
theorem sum1_ok : SumOk Try.prog cfg1 := fun f args v h => by
  change sum1 f args = some v at h
  unfold sum1 at h
  cases hf : Nat.beq f 60 with
  | false => rw [hf] at h; cases h
  | true =>
    rw [hf] at h
    have : f = 60 := Nat.eq_of_beq_eq_true hf
    subst this
    simp only [cond] at h
    split at h
    · rename_i s
      cases hl : Nat.blt s.length 1099511627776 with
      | false => rw [hl] at h; cases h
      | true =>
        rw [hl] at h
        cases h
        have hl' : s.length < 1099511627776 := by rwa [Nat.blt_eq] at hl
        have := crc_pure s hl'
        rw [crcN_eq]
        exact this
    · cases h

def ex : AV := .agg [.int .i64 (1), .int .i64 (2), .int .i64 (1), .int .i64 (0), .int .i64 (0), .bool true, .lst 22 [.agg [.str [97, 98], .str [120], .int .i64 (0), .int .i64 (0), .int .i64 (0), .int .i64 (0), .int .u8 (0), .int .u8 (0), .int .u8 (0), .int .u8 (0), .int .u8 (0), .int .u8 (0), .int .u8 (0), .int .u8 (0), .int .u8 (0), .int .u8 (0), .int .u8 (0), .int .u8 (0), .int .u8 (0), .int .u8 (0), .int .u8 (0), .int .u8 (0)], .agg [.str [97, 99], .str [121, 122], .int .i64 (0), .int .i64 (0), .int .i64 (0), .int .i64 (0), .int .u8 (0), .int .u8 (0), .int .u8 (0), .int .u8 (0), .int .u8 (0), .int .u8 (0), .int .u8 (0), .int .u8 (0), .int .u8 (0), .int .u8 (0), .int .u8 (0), .int .u8 (0), .int .u8 (0), .int .u8 (0), .int .u8 (0), .int .u8 (0)]] true, .int .i64 (0), .str [], .lst 0 [] true]
def st : AV := .str [85, 1, 0, 0, 0, 2, 0, 0, 0, 0, 0, 1, 0, 0, 1, 1, 0, 2, 97, 0, 23, 0, 28, 1, 98, 0, 1, 120, 1, 99, 0, 2, 121, 122, 0, 0, 0, 0, 0, 0, 0, 0, 0, 0, 0, 0, 0, 0, 0, 0, 0, 0, 0, 0, 0, 0, 0, 0, 0, 0, 0, 0, 0, 0, 0, 0, 0, 0, 0, 0, 0, 0, 0, 0, 0, 0, 0, 0, 0, 0, 0, 0, 0, 0, 0, 0, 0, 0, 0, 0, 0, 0, 0, 0, 0, 0, 0, 0, 0, 0, 0, 0, 0, 0, 0, 0, 0, 0, 0, 0, 0, 0, 0, 0, 0, 0, 0, 0, 0, 0, 0, 0, 0, 0, 0, 0, 0, 0, 0, 0, 0, 0, 0, 0, 0, 0, 0, 0, 0, 0, 0, 0, 0, 0, 0, 0, 0, 0, 0, 0, 0, 0, 0, 0, 0, 0, 0, 0, 0, 0, 0, 0, 0, 0, 0, 0, 0, 0, 0, 0, 0, 0, 0, 0, 0, 0, 0, 0, 0, 0, 0, 0, 0, 0, 0, 0, 0, 0, 0, 0, 0, 0, 0, 0, 0, 0, 0, 0, 0, 0, 0, 0, 0, 0, 0, 0, 0, 0, 0, 0, 0, 0, 0, 0, 0, 0, 0, 0, 0, 0, 0, 0, 0, 0, 0, 0, 0, 0, 0, 0, 0, 0, 0, 0, 0, 0, 0, 0, 0, 0, 0, 0, 0, 0, 0, 0, 0, 0, 0, 0, 0, 0, 0, 0, 0, 0, 0, 0, 0, 0, 0, 0, 0, 0, 0, 0, 0, 0, 0, 0, 0, 0, 0, 0, 0, 0, 0, 0, 0, 0, 0, 0, 0, 0, 0, 0, 0, 0, 0, 0, 0, 0, 0, 0, 0, 0, 0, 0, 0, 0, 0, 0, 0, 0, 0, 0, 0, 0, 0, 0, 0, 0, 0, 0, 0, 0, 0, 0, 0, 0, 0, 0, 0, 0, 0, 0, 0, 0, 0, 0, 0, 0, 0, 0, 0, 0, 0, 0, 0, 0, 0, 0, 0, 0, 0, 0, 0, 0, 0, 0, 0, 0, 0, 0, 0, 0, 0, 0, 0, 0, 0, 0, 0, 0, 0, 0, 0, 0, 0, 0, 0, 0, 0, 0, 0, 0, 0, 0, 0, 0, 0, 0, 0, 0, 0, 0, 0, 0, 0, 0, 0, 0, 0, 0, 0, 0, 0, 0, 0, 0, 0, 0, 0, 0, 0, 0, 0, 0, 0, 0, 0, 0, 0, 0, 0, 0, 0, 0, 0, 0, 0, 0, 0, 0, 0, 0, 0, 0, 0, 0, 0, 0, 0, 0, 0, 0, 0, 0, 0, 0, 0, 0, 0, 0, 0, 0, 0, 0, 0, 0, 0, 0, 0, 0, 0, 0, 0, 0, 0, 0, 0, 0, 0, 0, 0, 0, 0, 0, 0, 0, 0, 0, 0, 0, 0, 0, 0, 0, 0, 0, 0, 0, 0, 0, 0, 0, 0, 0, 0, 0, 0, 0, 0, 0, 0, 0, 0, 0, 0, 0, 0, 0, 0, 0, 0, 0, 0, 0, 53, 146, 233, 230]

theorem enc_run : CN Try.prog cfg1 20 9 [ex] [] = some (.ret (.tup [st, .int .i64 0]), []) := by kernel_rfl
end Go.Proofs
