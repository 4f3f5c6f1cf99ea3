/-
  PoolSteps: for every input the call returns true, and each argument reads afterwards as it read before. No conditions.
-/
import Derived.Test.YtmbabgaanpjmpaaSteps
namespace Go.Proofs.Ytmbabgaanpjmpaa
open Go.ChangeShapes Go.WideShapes Go.ChangeAt Go.RowKit

set_option maxRecDepth 100000 in
theorem poolSteps_lifted (os : Os) (started : os.Started) (H : Type) (enc : TypeId × Value → H) :
    ReturnsInHanded {} Try.checked os 6 .any (Rows.poolStepsSpec.pre6 enc Try.prog Try.f6 Rows.poolStepsRow.domain false) (Rows.poolStepsSpec.post enc Try.prog Try.f6 false true false false) := by
  refine law_lifted 6 Try.f6 Rows.poolStepsSpec Try.func6 (by kernel_rfl) rfl ?_ rfl ?_ os started
    (ChangeSpec.witness6 (enc := enc) (C := Try.checked) false ⟨#[], #[.int .i64 0, .slice none 0 0], []⟩ 8 (by kernel_rfl) (by kernel_rfl) (by kernel_rfl) (by kernel_rfl)) ?_
  · intro t ht
    have ht' : t = 3 ∨ t = 22 := by simpa [Try.f6] using ht
    rcases ht' with rfl | rfl
    · exact ⟨by kernel_rfl, of_decide_eq_true (by kernel_rfl)⟩
    · exact ⟨by kernel_rfl, of_decide_eq_true (by kernel_rfl)⟩
  · intro ds hd
    match ds, hd with
    | [d, d'], _ => exact ⟨rfl, rfl, rfl⟩
  · intro W base vs ds ps hval _ hA _
    obtain ⟨v0, vs0, d0, ds0, p0, q0, rfl, rfl, rfl, h0, r0⟩ := trodAll_cons (t := 3) (ts := [22]) hA
    obtain ⟨v1, vs1, d1, ds1, p1, q1, rfl, rfl, rfl, h1, r1⟩ := trodAll_cons r0
    obtain ⟨rfl, rfl, rfl⟩ := trodAll_nil r1
    obtain ⟨a, rfl, rfl, rfl, wa⟩ := open_int Try.underlying3 (hval 0 3 v0 rfl rfl) h0
    obtain ⟨a0, len, cap, rfl⟩ := okWide_slice Try.underlying22 (hval 1 22 v1 rfl rfl)
    obtain ⟨fuel, hf⟩ := h1
    obtain ⟨A, c, ss, e, hb⟩ := steps_in Try.underlying22 step29 step29_cells hf
    have e' : Value.slice a0 len cap = .slice A ss.length c := by simpa [Value.cells] using e
    rw [e']
    exact steps_law a A c ss W hb

theorem poolSteps_holds : Rows.PoolStepsSaid :=
  OpenClaim.holds_of_wide 6 Try.f6 rfl rfl rfl rfl rfl rfl rfl ⟨rfl, rfl, rfl, rfl, rfl⟩ rfl rfl rfl rfl rfl (by kernel_rfl) Try.func6 (by kernel_rfl)
    (of_decide_eq_true (by kernel_rfl)) (by unfold Func.isWrapper; first | (rw [if_pos (by decide +kernel)]; kernel_rfl) | (rw [if_neg (by decide +kernel)]; exact ⟨rfl, rfl⟩))
    (fun os started H enc _ => poolSteps_lifted os started H enc)
#print axioms poolSteps_holds
end Go.Proofs.Ytmbabgaanpjmpaa
