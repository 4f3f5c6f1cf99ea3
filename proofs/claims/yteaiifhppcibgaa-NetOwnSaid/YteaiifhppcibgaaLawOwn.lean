/-
  latticelaw04.NetOwn: for every input the call returns true, and each argument reads afterwards as it read before. No conditions.
-/
import Derived.Test.YteaiifhppcibgaaOwn
import Derived.Test.YteaiifhppcibgaaStepsIn
namespace Go.Proofs.Yteaiifhppcibgaa
open Go.ChangeShapes Go.WideShapes Go.ChangeAt Go.RowKit

/-- More bytes than a message holds: the small case alone is asked. -/
theorem ownLaw_long (A : Option Addr) (c len : Nat) (w : World) (hl : 65535 < len) : Calls Try.prog 5 #[.slice A len c] w fun e w' => e = .returned (.bool true) ∧ Fr NoB w w' := by
  have hd : decide (65535 < (len : Int)) = true := by simp; omega
  go_enter Try.func5, Try.ntmps5
  go_wp2_with fail
  refine (new_any 2 _).mono ?_
  rintro e w1 (⟨_, _, n, S, hn, rfl, hnet, hS, hfr⟩ | ⟨hno, _⟩)
  rotate_left
  · omega
  go_wp2_with fail
  refine (speaks_any w1).mono ?_
  rintro e w2 ⟨rfl, hfr2⟩
  go_wp2_with fail
  go_ret
  exact ⟨rfl, hfr.trans hfr2⟩

set_option maxRecDepth 100000 in
theorem netOwn_lifted (os : Os) (started : os.Started) (H : Type) (enc : TypeId × Value → H) :
    ReturnsInHanded {} Try.checked os 5 .any (Rows.netOwnSpec.pre6 enc Try.prog Try.f5 Rows.netOwnRow.domain false) (Rows.netOwnSpec.post enc Try.prog Try.f5 false true false false) := by
  refine law_lifted 5 Try.f5 Rows.netOwnSpec Try.func5 (by kernel_rfl) rfl ?_ rfl ?_ os started
    (ChangeSpec.witness6 (enc := enc) (C := Try.checked) false ⟨#[], #[.slice none 0 0], []⟩ 8 (by kernel_rfl) (by kernel_rfl) (by kernel_rfl) (by kernel_rfl)) ?_
  · intro t ht
    obtain rfl : t = 29 := by simpa [Try.f5] using ht
    exact ⟨by kernel_rfl, of_decide_eq_true (by kernel_rfl)⟩
  · intro ds hd
    match ds, hd with
    | [d], _ => exact ⟨rfl, rfl, rfl⟩
  · intro W base vs ds ps hval _ hA _
    obtain ⟨v0, vs0, d0, ds0, p0, q0, rfl, rfl, rfl, h0, r0⟩ := trodAll_cons (t := 29) (ts := []) hA
    obtain ⟨rfl, rfl, rfl⟩ := trodAll_nil r0
    obtain ⟨a0, len, cap, rfl⟩ := okWide_slice Try.underlying29 (hval 0 29 v0 rfl rfl)
    obtain ⟨fuel, hf⟩ := h0
    obtain ⟨A, c, l, e, hb⟩ := bytes_rd Try.underlying29 Try.underlying5 scells5 hf
    have e' : Value.slice a0 len cap = .slice A l.length c := by simpa [Value.cells] using e
    rw [e']
    by_cases hl : l.length ≤ 65535
    · exact ownLaw_any A c l W hb hl
    · exact ownLaw_long A c l.length W (by omega)

theorem netOwn_holds : Rows.NetOwnSaid :=
  OpenClaim.holds_of_wide 5 Try.f5 rfl rfl rfl rfl rfl rfl rfl ⟨rfl, rfl, rfl, rfl, rfl⟩ rfl rfl rfl rfl rfl (by kernel_rfl) Try.func5 (by kernel_rfl)
    (of_decide_eq_true (by kernel_rfl)) (by unfold Func.isWrapper; first | (rw [if_pos (by decide +kernel)]; kernel_rfl) | (rw [if_neg (by decide +kernel)]; exact ⟨rfl, rfl⟩))
    (fun os started H enc _ => netOwn_lifted os started H enc)
#print axioms netOwn_holds
end Go.Proofs.Yteaiifhppcibgaa
