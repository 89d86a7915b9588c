/- The law PageCapacity: weights are additive; few entries fit: for every input it returns true. -/
import Derived.Test.YtfddiediieblhaaTg
import Derived.Test.YtfddiediieblhaaSd
import Derived.Test.YtfddiediieblhaaRows
set_option linter.unusedVariables false
set_option linter.unusedSimpArgs false
namespace Go.Proofs
open Go Go.Abs Go.ChangeShapes Go.WideShapes Go.ChangeAt Go.RowKit

theorem sum0_ok : SumOk Try.prog cfg0 := fun f args v h => by
  change sum0 f args = some v at h
  unfold sum0 at h
  cases hf : Nat.beq f 7 with
  | false => rw [hf] at h; cases h
  | true =>
    rw [hf] at h
    have : f = 7 := Nat.eq_of_beq_eq_true hf
    subst this
    simp only [cond] at h
    split at h
    · cases h; exact sane_pure
    · cases h
theorem sane_eq {n : Nat} (hn : 1 ≤ n) (h : AHeap) : C n 7 [] h = some (.ret (.bool true), h) := by
  obtain ⟨m, rfl⟩ : ∃ m, n = m + 1 := ⟨n - 1, by omega⟩
  exact fun_sum rfl (of_decide_eq_true (by kernel_rfl)) rfl rfl

set_option maxRecDepth 100000 in
theorem pageCapacity_calls {H : Type} {enc : TypeId × Value → H} {W : World} {base : Nat} {args : Array Value} {ds gs : List (DataW H)} {before : List MemPlace}
    (hval : ∀ (j : Nat) t v, Try.f5.params[j]? = some t → args[j]? = some v → Value.okWide Try.prog W .any base t v)
    (hW : DataW.Whole enc Try.prog Try.f5.params.toList [] false W args.toList ds gs before) : ∃ xs : List AV, VRs (cellsW W) noBM xs args.toList ∧ PureCalls Try.prog 5 xs (.ret (.bool true)) := by
  obtain ⟨p, q, hA0, _⟩ := hW
  have hA : DataW.TrodAll enc Try.prog W 0 (fun _ => true) true [22, 3, 5] args.toList ds p := hA0
  rw [show Try.f5.params = #[22, 3, 5] by kernel_rfl] at hval
  obtain ⟨args⟩ := args
  simp only at hA
  obtain ⟨v0, vs0, d0, ds0, p0, q0, rfl, rfl, rfl, ⟨_, h0⟩, r0⟩ := trodAll_cons hA
  obtain ⟨v1, vs1, d1, ds1, p1, q1, rfl, rfl, rfl, ⟨_, h1⟩, r1⟩ := trodAll_cons r0
  obtain ⟨v2, vs2, d2, ds2, p2, q2, rfl, rfl, rfl, ⟨_, h2⟩, r2⟩ := trodAll_cons r1
  obtain ⟨rfl, rfl, rfl⟩ := trodAll_nil r2
  obtain ⟨a, len, cap, rfl⟩ := okWide_slice ty22 (hval 0 22 v0 rfl rfl)
  obtain ⟨k1, rfl⟩ := okWide_int ty3 (hval 1 3 v1 rfl rfl)
  obtain ⟨k2, rfl⟩ := okWide_int ty5 (hval 2 5 v2 rfl rfl)
  obtain ⟨l, v, e0, g0⟩ := rd_entries h0
  cases e0
  obtain ⟨b, e2⟩ := rd_u8 ty5 h2
  cases e2
  refine ⟨[.lst 22 (l.map Entry.av) false, i64 k1, u8 b], VRs_app (VRs_one g0) (VRs_app (VRs_one (a := i64 k1) (by unfold VR; rfl)) (VRs_one (a := u8 b) (by unfold VR; rfl))), ?_⟩
  exact pure_of_CN (n := 9) sum0_ok rfl (pageCapacity_eq (by omega) (fun m hm h => sane_eq (by omega) h) l k1 b 22 (fun _ => rfl) false)

set_option maxRecDepth 100000 in
theorem pageCapacity_lifted (os : Os) (started : os.Started) (H : Type) (enc : TypeId × Value → H) :
    ReturnsInHanded {} Try.checked os 5 .any (Ytfddiediieblhaa.Rows.pageCapacitySpec.pre6 enc Try.prog Try.f5 Ytfddiediieblhaa.Rows.pageCapacityRow.domain false) (Ytfddiediieblhaa.Rows.pageCapacitySpec.post enc Try.prog Try.f5 false true false false) := by
  refine returnsInHanded_of_change (C := Try.checked) own started (by kernel_rfl) Try.func5
    (ChangeSpec.witness6 (enc := enc) (C := Try.checked) false ⟨#[], #[.slice none 0 0, .int .i64 0, .int .u8 0], []⟩ 8 (by kernel_rfl) (by kernel_rfl) (by kernel_rfl) (by kernel_rfl)) ?_
  intro W base args ds gs before hval hW _ _
  obtain ⟨xs, hv, hp⟩ := pageCapacity_calls hval hW
  refine law_call laid (by kernel_rfl) (tb := 4) (by kernel_rfl) ty4 rfl (fun ds hd => ?_) hW hv hp
  match ds, hd with
  | [_, _, _], _ => rfl

end Go.Proofs
namespace Go.Proofs.Ytfddiediieblhaa
open Go Go.Abs
/-- The law PageCapacity, for every input. -/
theorem pageCapacity_holds : Rows.PageCapacitySaid :=
  OpenClaim.holds_of_wide 5 Try.f5 rfl rfl rfl rfl rfl rfl rfl ⟨rfl, rfl, rfl, rfl, rfl⟩ rfl rfl rfl rfl rfl (by kernel_rfl) Try.func5 (by kernel_rfl)
    (of_decide_eq_true (by kernel_rfl)) (by unfold Func.isWrapper; first | (rw [if_pos (by decide +kernel)]; kernel_rfl) | (rw [if_neg (by decide +kernel)]; exact ⟨rfl, rfl⟩))
    (fun os started H enc _ => pageCapacity_lifted os started H enc)
#print axioms pageCapacity_holds
end Go.Proofs.Ytfddiediieblhaa
