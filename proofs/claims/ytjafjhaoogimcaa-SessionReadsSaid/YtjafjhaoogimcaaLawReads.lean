/-
  SessionReads: for every input the call returns true, and each argument reads afterwards as it read before. No conditions.
-/
import Derived.Test.YtjafjhaoogimcaaReads
namespace Go.Proofs.Ytjafjhaoogimcaa
open Go.ChangeShapes Go.WideShapes Go.ChangeAt Go.RowKit

set_option maxRecDepth 100000 in
theorem sessionReads_lifted (os : Os) (started : os.Started) (H : Type) (enc : TypeId × Value → H) :
    ReturnsInHanded {} Try.checked os 5 .any (Rows.sessionReadsSpec.pre6 enc Try.prog Try.f5 Rows.sessionReadsRow.domain false) (Rows.sessionReadsSpec.post enc Try.prog Try.f5 false true false false) := by
  refine law_lifted 5 Try.f5 Rows.sessionReadsSpec Try.func5 (by kernel_rfl) rfl ?_ rfl ?_ os started
    (ChangeSpec.witness6 (enc := enc) (C := Try.checked) false ⟨#[], #[.slice none 0 0], []⟩ 8 (by kernel_rfl) (by kernel_rfl) (by kernel_rfl) (by kernel_rfl)) ?_
  · intro t ht
    obtain rfl : t = 42 := by simpa [Try.f5] using ht
    exact ⟨by kernel_rfl, of_decide_eq_true (by kernel_rfl)⟩
  · intro ds hd
    match ds, hd with
    | [d], _ => exact ⟨rfl, rfl, rfl⟩
  · intro W base vs ds ps hval _ hA _
    obtain ⟨v1, vs1, d1, ds1, p1, q1, rfl, rfl, rfl, h1, r1⟩ := trodAll_cons (t := 42) (ts := []) hA
    obtain ⟨rfl, rfl, rfl⟩ := trodAll_nil r1
    obtain ⟨a0, len, cap, rfl⟩ := okWide_slice Try.underlying42 (hval 0 42 v1 rfl rfl)
    obtain ⟨fuel, hf⟩ := h1
    obtain ⟨A, c, ss, e, hb⟩ := steps_in Try.underlying42 look50 look50_cells hf
    have e' : Value.slice a0 len cap = .slice A ss.length c := by simpa [Value.cells] using e
    rw [e']
    exact reads_any A c ss W hb

theorem sessionReads_holds : Rows.SessionReadsSaid :=
  OpenClaim.holds_of_wide 5 Try.f5 rfl rfl rfl rfl rfl rfl rfl ⟨rfl, rfl, rfl, rfl, rfl⟩ rfl rfl rfl rfl rfl (by kernel_rfl) Try.func5 (by kernel_rfl)
    (of_decide_eq_true (by kernel_rfl)) (by unfold Func.isWrapper; first | (rw [if_pos (by decide +kernel)]; kernel_rfl) | (rw [if_neg (by decide +kernel)]; exact ⟨rfl, rfl⟩))
    (fun os started H enc _ => sessionReads_lifted os started H enc)
#print axioms sessionReads_holds
end Go.Proofs.Ytjafjhaoogimcaa
