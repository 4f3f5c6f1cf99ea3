/-
  latticelaw11.PoolNil: for every input the call returns true, and each argument reads afterwards as it read before. No conditions.
-/
import Derived.Test.YtmbabgaanpjmpaaSpeaks
import Derived.Test.YtmbabgaanpjmpaaLawFrame
namespace Go.Proofs.Ytmbabgaanpjmpaa
open Go.ChangeShapes Go.WideShapes Go.ChangeAt Go.RowKit

theorem oldest_nil (w : World) : Calls Try.prog 16 #[.pointer none] w fun e w' => e = .returned (.tuple #[.int .i64 0, .bool false]) ∧ Fr NoB w w' := by
  have hp := fun u => pages_nil u
  go_enter Try.func16, Try.ntmps16
  go_wp2_with fail
  refine (hp _).mono ?_
  rintro e w1 ⟨rfl, f1⟩
  go_wp2_with fail
  refine wp_loop_rounds 1 ?_
  rw [rounds_succ]
  go_wp2_with fail
  go_ret2
  exact ⟨rfl, f1⟩

set_option maxRecDepth 100000 in
set_option maxHeartbeats 1000000 in
theorem nil_0 (a b : Int) (w : World) (hd : a < 1) : Calls Try.prog 5 #[.int .i64 a, .int .i64 b] w (LawPost w) := by
  have d1 : decide (a < 1) = true := decide_eq_true (by omega)
  have kg : ∀ u, Calls Try.prog 11 #[.pointer none, .int .i64 a] u (fun e w' => e = .returned (.tuple #[gotV got0, .int .i64 1]) ∧ Fr NoB u w') := fun u => get_bad none a u (by omega)
  have ho := fun u => oldest_nil u
  have hp := fun u => pages_nil u
  simp only [gotV, got0] at kg
  clear hd
  go_enter Try.func5, Try.ntmps5
  go_wp2_with fail
  refine (kg _).mono ?_
  rintro e w1 ⟨rfl, f1⟩
  go_wp2_with fail
  refine (clean_nil a _).mono ?_
  rintro e w2 ⟨rfl, rfl⟩
  go_wp2_with fail
  refine (ho _).mono ?_
  rintro e w3 ⟨rfl, f3⟩
  go_wp2_with fail
  refine (unpin_nil a _).mono ?_
  rintro e w4 ⟨rfl, rfl⟩
  go_wp2_with fail
  refine (dirty_nil a b _).mono ?_
  rintro e w4 ⟨rfl | rfl, rfl⟩
  all_goals
    go_wp2_with fail
    refine (hp _).mono ?_
    rintro e w5 ⟨rfl, f5⟩
    go_wp2_with fail
    refine (pins_nil a _).mono ?_
    rintro e w6 ⟨rfl, rfl⟩
    go_wp2_with fail
    refine (speaks_any _).mono ?_
    rintro e w7 ⟨rfl, f7⟩
    go_wp2_with fail
    go_ret
    exact ⟨rfl, (((f1.alloc _).trans f3).trans f5).trans f7⟩
set_option maxRecDepth 100000 in
set_option maxHeartbeats 1000000 in
theorem nil_1 (a b : Int) (w : World) (hd : 1 ≤ a ∧ a ≤ 4096) : Calls Try.prog 5 #[.int .i64 a, .int .i64 b] w (LawPost w) := by
  have d1 : decide (a < 1) = false := decide_eq_false (by omega)
  have d2 : decide (4096 < a) = false := decide_eq_false (by omega)
  have kg : ∀ u, Calls Try.prog 11 #[.pointer none, .int .i64 a] u (fun e w' => e = .returned (.tuple #[gotV got0, .int .i64 5]) ∧ Fr NoB u w') := fun u => get_nil a u (by omega) (by omega)
  have ho := fun u => oldest_nil u
  have hp := fun u => pages_nil u
  simp only [gotV, got0] at kg
  clear hd
  go_enter Try.func5, Try.ntmps5
  go_wp2_with fail
  refine (kg _).mono ?_
  rintro e w1 ⟨rfl, f1⟩
  go_wp2_with fail
  refine (clean_nil a _).mono ?_
  rintro e w2 ⟨rfl, rfl⟩
  go_wp2_with fail
  refine (ho _).mono ?_
  rintro e w3 ⟨rfl, f3⟩
  go_wp2_with fail
  refine (unpin_nil a _).mono ?_
  rintro e w4 ⟨rfl, rfl⟩
  go_wp2_with fail
  refine (dirty_nil a b _).mono ?_
  rintro e w4 ⟨rfl | rfl, rfl⟩
  all_goals
    go_wp2_with fail
    refine (hp _).mono ?_
    rintro e w5 ⟨rfl, f5⟩
    go_wp2_with fail
    refine (pins_nil a _).mono ?_
    rintro e w6 ⟨rfl, rfl⟩
    go_wp2_with fail
    refine (speaks_any _).mono ?_
    rintro e w7 ⟨rfl, f7⟩
    go_wp2_with fail
    go_ret
    exact ⟨rfl, (((f1.alloc _).trans f3).trans f5).trans f7⟩
set_option maxRecDepth 100000 in
set_option maxHeartbeats 1000000 in
theorem nil_2 (a b : Int) (w : World) (hd : 4096 < a) : Calls Try.prog 5 #[.int .i64 a, .int .i64 b] w (LawPost w) := by
  have d1 : decide (a < 1) = false := decide_eq_false (by omega)
  have d2 : decide (4096 < a) = true := decide_eq_true (by omega)
  have kg : ∀ u, Calls Try.prog 11 #[.pointer none, .int .i64 a] u (fun e w' => e = .returned (.tuple #[gotV got0, .int .i64 1]) ∧ Fr NoB u w') := fun u => get_bad none a u (by omega)
  have ho := fun u => oldest_nil u
  have hp := fun u => pages_nil u
  simp only [gotV, got0] at kg
  clear hd
  go_enter Try.func5, Try.ntmps5
  go_wp2_with fail
  refine (kg _).mono ?_
  rintro e w1 ⟨rfl, f1⟩
  go_wp2_with fail
  refine (clean_nil a _).mono ?_
  rintro e w2 ⟨rfl, rfl⟩
  go_wp2_with fail
  refine (ho _).mono ?_
  rintro e w3 ⟨rfl, f3⟩
  go_wp2_with fail
  refine (unpin_nil a _).mono ?_
  rintro e w4 ⟨rfl, rfl⟩
  go_wp2_with fail
  refine (dirty_nil a b _).mono ?_
  rintro e w4 ⟨rfl | rfl, rfl⟩
  all_goals
    go_wp2_with fail
    refine (hp _).mono ?_
    rintro e w5 ⟨rfl, f5⟩
    go_wp2_with fail
    refine (pins_nil a _).mono ?_
    rintro e w6 ⟨rfl, rfl⟩
    go_wp2_with fail
    refine (speaks_any _).mono ?_
    rintro e w7 ⟨rfl, f7⟩
    go_wp2_with fail
    go_ret
    exact ⟨rfl, (((f1.alloc _).trans f3).trans f5).trans f7⟩
theorem nil_any (a b : Int) (w : World) : Calls Try.prog 5 #[.int .i64 a, .int .i64 b] w (LawPost w) := by
  have h : ((a < 1) ∨ (1 ≤ a ∧ a ≤ 4096) ∨ (4096 < a)) := by omega
  rcases h with h | h | h
  · exact nil_0 a b w h
  · exact nil_1 a b w h
  · exact nil_2 a b w h

set_option maxRecDepth 100000 in
theorem poolNil_lifted (os : Os) (started : os.Started) (H : Type) (enc : TypeId × Value → H) :
    ReturnsInHanded {} Try.checked os 5 .any (Rows.poolNilSpec.pre6 enc Try.prog Try.f5 Rows.poolNilRow.domain false) (Rows.poolNilSpec.post enc Try.prog Try.f5 false true false false) := by
  refine law_lifted 5 Try.f5 Rows.poolNilSpec Try.func5 (by kernel_rfl) rfl ?_ rfl ?_ os started
    (ChangeSpec.witness6 (enc := enc) (C := Try.checked) false ⟨#[], #[.int .i64 0, .int .i64 0], []⟩ 8 (by kernel_rfl) (by kernel_rfl) (by kernel_rfl) (by kernel_rfl)) ?_
  · intro t ht
    obtain rfl : t = 3 := by simpa [Try.f5] using ht
    exact ⟨by kernel_rfl, of_decide_eq_true (by kernel_rfl)⟩
  · intro ds hd
    match ds, hd with
    | [d, d'], _ => exact ⟨rfl, rfl, rfl⟩
  · intro W base vs ds ps hval _ hA _
    obtain ⟨v0, vs0, d0, ds0, p0, q0, rfl, rfl, rfl, h0, r0⟩ := trodAll_cons (t := 3) (ts := [3]) hA
    obtain ⟨v1, vs1, d1, ds1, p1, q1, rfl, rfl, rfl, h1, r1⟩ := trodAll_cons r0
    obtain ⟨rfl, rfl, rfl⟩ := trodAll_nil r1
    obtain ⟨a, rfl, rfl, rfl, wa⟩ := open_int Try.underlying3 (hval 0 3 v0 rfl rfl) h0
    obtain ⟨b, rfl, rfl, rfl, wb⟩ := open_int Try.underlying3 (hval 1 3 v1 rfl rfl) h1
    exact nil_any a b W

theorem poolNil_holds : Rows.PoolNilSaid :=
  OpenClaim.holds_of_wide 5 Try.f5 rfl rfl rfl rfl rfl rfl rfl ⟨rfl, rfl, rfl, rfl, rfl⟩ rfl rfl rfl rfl rfl (by kernel_rfl) Try.func5 (by kernel_rfl)
    (of_decide_eq_true (by kernel_rfl)) (by unfold Func.isWrapper; first | (rw [if_pos (by decide +kernel)]; kernel_rfl) | (rw [if_neg (by decide +kernel)]; exact ⟨rfl, rfl⟩))
    (fun os started H enc _ => poolNil_lifted os started H enc)
#print axioms poolNil_holds
end Go.Proofs.Ytmbabgaanpjmpaa
