/- The chapter's examples hold, with what is known of one block. -/
import Derived.Test.YtfddiediieblhaaSc
set_option linter.unusedVariables false
set_option linter.unusedSimpArgs false
namespace Go.Proofs
open Go Go.Abs
def sum2 : FuncId → List AV → Option AV := fun f args => cond (Nat.beq f 9) (cond (beqVs args [ex]) (some (.tup [st, .int .i64 0])) none) (sum1 f args)
def cfg2 : Cfg := ⟨inl0, sum2⟩
theorem enc_pure : PureCalls Try.prog 9 [ex] (.ret (.tup [st, .int .i64 0])) := pure_of_CN sum1_ok rfl enc_run
theorem sum2_ok : SumOk Try.prog cfg2 := fun f args v h => by
  change sum2 f args = some v at h
  unfold sum2 at h
  cases hf : Nat.beq f 9 with
  | false => rw [hf] at h; exact sum1_ok f args v h
  | true =>
    rw [hf] at h
    have : f = 9 := Nat.eq_of_beq_eq_true hf
    subst this
    simp only [cond] at h
    cases hb : beqVs args [ex] with
    | false => rw [hb] at h; cases h
    | true =>
      rw [hb] at h
      have := beqVs_eq args hb
      subst this
      cases h
      exact enc_pure
theorem sane_run : CN Try.prog cfg2 20 7 [] [] = some (.ret (.bool true), []) := by kernel_rfl
theorem sane_pure : PureCalls Try.prog 7 [] (.ret (.bool true)) := pure_of_CN sum2_ok rfl sane_run
#print axioms sane_pure
end Go.Proofs
