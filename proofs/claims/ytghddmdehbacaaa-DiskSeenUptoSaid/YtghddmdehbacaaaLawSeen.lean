/-
  latticelaw: DiskSeen, where what came in is of bulk at most 1048576: the call returns true, and each argument reads afterwards as it read before.
-/
import Derived.Test.YtghddmdehbacaaaSeen
import Derived.Test.YtghddmdehbacaaaLawUpto
namespace Go.Proofs.Ytghddmdehbacaaa
open Go.ChangeShapes Go.WideShapes Go.ChangeAt Go.RowKit

set_option maxRecDepth 100000 in
theorem diskSeenUpto_lifted (os : Os) (started : os.Started) (H : Type) (enc : TypeId × Value → H) (F : Stop.Interp) :
    ReturnsInHanded {} Try.checked os 6 .any ((Rows.OpenSpec.upto Rows.diskSeenSpec).pre6 enc Try.prog Try.f6 Rows.diskSeenUptoRow.domain false) (((Rows.OpenSpec.upto Rows.diskSeenSpec).at F).post enc Try.prog Try.f6 false true false false) := by
  refine law_lifted_upto 6 Try.f6 Rows.diskSeenSpec Try.func6 (by kernel_rfl) rfl ?_ rfl ?_ os started F
    (OpenSpec.witness (enc := enc) (C := Try.checked) (s := Rows.OpenSpec.upto Rows.diskSeenSpec) (k := Rows.uptoSmall) rfl false ⟨#[], #[.slice none 0 0, .int .i64 0], []⟩ 8 (by kernel_rfl) (by kernel_rfl) (by kernel_rfl)
      (x := ([.nil, .lit (.int .i64 0)], [], [])) (by kernel_rfl) rfl (by kernel_rfl)) ?_
  · intro t ht
    have ht' : t = 22 ∨ t = 3 := by simpa [Try.f6] using ht
    rcases ht' with rfl | rfl
    · exact ⟨by kernel_rfl, of_decide_eq_true (by kernel_rfl)⟩
    · exact ⟨by kernel_rfl, of_decide_eq_true (by kernel_rfl)⟩
  · intro ds hd
    match ds, hd with
    | [d0, d1], _ => exact ⟨rfl, rfl, rfl⟩
  · intro W base vs ds ps hval _ hA hbulk
    obtain ⟨v0, vs0, d0, ds0, p0, q0, rfl, rfl, rfl, h0, r0⟩ := trodAll_cons (t := 22) (ts := [3]) hA
    obtain ⟨v1, vs1, d1, ds1, p1, q1, rfl, rfl, rfl, h1, r1⟩ := trodAll_cons r0
    obtain ⟨rfl, rfl, rfl⟩ := trodAll_nil r1
    obtain ⟨a0, len, cap, rfl⟩ := okWide_slice Try.underlying22 (hval 0 22 v0 rfl rfl)
    obtain ⟨z, rfl, rfl, rfl, wz⟩ := open_int Try.underlying3 (hval 1 3 v1 rfl rfl) h1
    obtain ⟨fuel, hf⟩ := h0
    obtain ⟨A, c, ss, e, hb, hle⟩ := steps_in hf
    have hss : ss.length ≤ 1048576 := by
      simp only [Rows.uptoBulkAll] at hbulk hle
      omega
    have e' : Value.slice a0 len cap = .slice A ss.length c := by simpa [Value.cells] using e
    rw [e']
    exact seen_any A c ss z W hb hss

theorem diskSeenUpto_holds : Rows.DiskSeenUptoSaid :=
  OpenClaim.holds_of_cond 6 Try.f6 rfl rfl rfl rfl rfl rfl rfl ⟨rfl, rfl, rfl, rfl, rfl⟩ rfl rfl rfl rfl rfl (by kernel_rfl) Try.func6 (by kernel_rfl)
    (of_decide_eq_true (by kernel_rfl)) (by unfold Func.isWrapper; first | (rw [if_pos (by decide +kernel)]; kernel_rfl) | (rw [if_neg (by decide +kernel)]; exact ⟨rfl, rfl⟩))
    (fun os started H enc _ F => diskSeenUpto_lifted os started H enc F)
#print axioms diskSeenUpto_holds
end Go.Proofs.Ytghddmdehbacaaa
