/-
  latticelaw: DiskSteps, where what came in is of bulk at most 1048576: the call returns true, and each argument reads afterwards as it read before.
-/
import Derived.Test.YtghddmdehbacaaaSteps
import Derived.Test.YtghddmdehbacaaaLawUpto
namespace Go.Proofs.Ytghddmdehbacaaa
open Go.ChangeShapes Go.WideShapes Go.ChangeAt Go.RowKit

set_option maxRecDepth 100000 in
theorem diskStepsUpto_lifted (os : Os) (started : os.Started) (H : Type) (enc : TypeId × Value → H) (F : Stop.Interp) :
    ReturnsInHanded {} Try.checked os 4 .any ((Rows.OpenSpec.upto Rows.diskStepsSpec).pre6 enc Try.prog Try.f4 Rows.diskStepsUptoRow.domain false) (((Rows.OpenSpec.upto Rows.diskStepsSpec).at F).post enc Try.prog Try.f4 false true false false) := by
  refine law_lifted_upto 4 Try.f4 Rows.diskStepsSpec Try.func4 (by kernel_rfl) rfl ?_ rfl ?_ os started F
    (OpenSpec.witness (enc := enc) (C := Try.checked) (s := Rows.OpenSpec.upto Rows.diskStepsSpec) (k := Rows.uptoSmall) rfl false ⟨#[], #[.int .i64 0, .slice none 0 0], []⟩ 8 (by kernel_rfl) (by kernel_rfl) (by kernel_rfl)
      (x := ([.lit (.int .i64 0), .nil], [], [])) (by kernel_rfl) rfl (by kernel_rfl)) ?_
  · intro t ht
    have ht' : t = 3 ∨ t = 22 := by simpa [Try.f4] using ht
    rcases ht' with rfl | rfl
    · exact ⟨by kernel_rfl, of_decide_eq_true (by kernel_rfl)⟩
    · exact ⟨by kernel_rfl, of_decide_eq_true (by kernel_rfl)⟩
  · intro ds hd
    match ds, hd with
    | [d0, d1], _ => exact ⟨rfl, rfl, rfl⟩
  · intro W base vs ds ps hval _ hA hbulk
    obtain ⟨v1, vs1, d1, ds1, p1, q1, rfl, rfl, rfl, h1, r1⟩ := trodAll_cons (t := 3) (ts := [22]) hA
    obtain ⟨v0, vs0, d0, ds0, p0, q0, rfl, rfl, rfl, h0, r0⟩ := trodAll_cons r1
    obtain ⟨rfl, rfl, rfl⟩ := trodAll_nil r0
    obtain ⟨a0, len, cap, rfl⟩ := okWide_slice Try.underlying22 (hval 1 22 v0 rfl rfl)
    obtain ⟨z, rfl, rfl, rfl, wz⟩ := open_int Try.underlying3 (hval 0 3 v1 rfl rfl) h1
    obtain ⟨fuel, hf⟩ := h0
    obtain ⟨A, c, ss, e, hb, hle⟩ := steps_in hf
    have hss : ss.length ≤ 1048576 := by
      simp only [Rows.uptoBulkAll] at hbulk hle
      omega
    have e' : Value.slice a0 len cap = .slice A ss.length c := by simpa [Value.cells] using e
    rw [e']
    exact steps_any z A c ss W hb hss

theorem diskStepsUpto_holds : Rows.DiskStepsUptoSaid :=
  OpenClaim.holds_of_cond 4 Try.f4 rfl rfl rfl rfl rfl rfl rfl ⟨rfl, rfl, rfl, rfl, rfl⟩ rfl rfl rfl rfl rfl (by kernel_rfl) Try.func4 (by kernel_rfl)
    (of_decide_eq_true (by kernel_rfl)) (by unfold Func.isWrapper; first | (rw [if_pos (by decide +kernel)]; kernel_rfl) | (rw [if_neg (by decide +kernel)]; exact ⟨rfl, rfl⟩))
    (fun os started H enc _ F => diskStepsUpto_lifted os started H enc F)
#print axioms diskStepsUpto_holds
end Go.Proofs.Ytghddmdehbacaaa
