/-
  latticelaw24.SessionNil: for every input the call returns true, and each argument reads afterwards as it read before. No conditions.
-/
import Derived.Test.YtjafjhaoogimcaaSpeaks
import Derived.Test.YtjafjhaoogimcaaLawFrame
namespace Go.Proofs.Ytjafjhaoogimcaa
open Go.ChangeShapes Go.WideShapes Go.ChangeAt Go.RowKit

set_option maxRecDepth 100000 in
set_option maxHeartbeats 1000000 in
theorem nil_0 (a b : Int) (w : World) (hd : a < 0) : Calls Try.prog 7 #[.int .i64 a, .int .i64 b] w (LawPost w) := by
  have kr := fun u => read_nil a b u
  have kw := fun u => wait_nil a b u
  have ka := fun u => again_nil a u
  have d1 : decide (a < 1) = true := decide_eq_true (by omega)
  have d5 : decide (a < 0) = true := decide_eq_true (by omega)
  rw [if_neg (by omega)] at kw
  rw [show isNode a = false from decide_eq_false (by omega)] at ka
  simp only [Bool.false_eq_true, if_false] at ka
  clear hd
  go_enter Try.func7, Try.ntmps7
  go_wp2_with fail
  refine (kr _).mono ?_
  rintro e w1 ⟨rfl | rfl, rfl⟩
  all_goals
    go_wp2_with fail
    refine (kw _).mono ?_
    rintro e w1 ⟨rfl, rfl⟩
    go_wp2_with fail
    refine (state_nil a _).mono ?_
    rintro e w1 ⟨rfl, rfl⟩
    go_wp2_with fail
    refine (settle_nil a _).mono ?_
    rintro e w2 ⟨rfl, fr2⟩
    go_wp2_with fail
    refine (leave_nil _).mono ?_
    rintro e w3 ⟨rfl, fr3⟩
    go_wp2_with fail
    refine (waiting_nil _).mono ?_
    rintro e w4 ⟨rfl, rfl⟩
    go_wp2_with fail
    refine (floor_nil a _).mono ?_
    rintro e w4 ⟨rfl, rfl⟩
    go_wp2_with fail
    refine (ka _).mono ?_
    rintro e w4 ⟨rfl, rfl⟩
    go_wp2_with fail
    refine (speaks_any _).mono ?_
    rintro e w5 ⟨rfl, fr5⟩
    go_wp2_with fail
    go_ret
    exact ⟨rfl, (fr2.trans fr3).trans fr5⟩
set_option maxRecDepth 100000 in
set_option maxHeartbeats 1000000 in
theorem nil_1 (a b : Int) (w : World) (hd : a = 0) : Calls Try.prog 7 #[.int .i64 a, .int .i64 b] w (LawPost w) := by
  have kr := fun u => read_nil a b u
  have kw := fun u => wait_nil a b u
  have ka := fun u => again_nil a u
  have d1 : decide (a < 1) = true := decide_eq_true (by omega)
  have d5 : decide (a < 0) = false := decide_eq_false (by omega)
  have d6 : decide (6 < a) = false := decide_eq_false (by omega)
  rw [if_neg (by omega)] at kw
  rw [show isNode a = true from decide_eq_true (by omega)] at ka
  simp only [if_true] at ka
  clear hd
  go_enter Try.func7, Try.ntmps7
  go_wp2_with fail
  refine (kr _).mono ?_
  rintro e w1 ⟨rfl | rfl, rfl⟩
  all_goals
    go_wp2_with fail
    refine (kw _).mono ?_
    rintro e w1 ⟨rfl, rfl⟩
    go_wp2_with fail
    refine (state_nil a _).mono ?_
    rintro e w1 ⟨rfl, rfl⟩
    go_wp2_with fail
    refine (settle_nil a _).mono ?_
    rintro e w2 ⟨rfl, fr2⟩
    go_wp2_with fail
    refine (leave_nil _).mono ?_
    rintro e w3 ⟨rfl, fr3⟩
    go_wp2_with fail
    refine (waiting_nil _).mono ?_
    rintro e w4 ⟨rfl, rfl⟩
    go_wp2_with fail
    refine (floor_nil a _).mono ?_
    rintro e w4 ⟨rfl, rfl⟩
    go_wp2_with fail
    refine (ka _).mono ?_
    rintro e w4 ⟨rfl, rfl⟩
    go_wp2_with fail
    refine (speaks_any _).mono ?_
    rintro e w5 ⟨rfl, fr5⟩
    go_wp2_with fail
    go_ret
    exact ⟨rfl, (fr2.trans fr3).trans fr5⟩
set_option maxRecDepth 100000 in
set_option maxHeartbeats 1000000 in
theorem nil_2 (a b : Int) (w : World) (hd : 1 ≤ a ∧ a ≤ 6 ∧ b < 1) : Calls Try.prog 7 #[.int .i64 a, .int .i64 b] w (LawPost w) := by
  have kr := fun u => read_nil a b u
  have kw := fun u => wait_nil a b u
  have ka := fun u => again_nil a u
  have d1 : decide (a < 1) = false := decide_eq_false (by omega)
  have d2 : decide (1099511627776 < a) = false := decide_eq_false (by omega)
  have d3 : decide (b < 1) = true := decide_eq_true (by omega)
  have d5 : decide (a < 0) = false := decide_eq_false (by omega)
  have d6 : decide (6 < a) = false := decide_eq_false (by omega)
  rw [if_neg (by omega)] at kw
  rw [show isNode a = true from decide_eq_true (by omega)] at ka
  simp only [if_true] at ka
  clear hd
  go_enter Try.func7, Try.ntmps7
  go_wp2_with fail
  refine (kr _).mono ?_
  rintro e w1 ⟨rfl | rfl, rfl⟩
  all_goals
    go_wp2_with fail
    refine (kw _).mono ?_
    rintro e w1 ⟨rfl, rfl⟩
    go_wp2_with fail
    refine (state_nil a _).mono ?_
    rintro e w1 ⟨rfl, rfl⟩
    go_wp2_with fail
    refine (settle_nil a _).mono ?_
    rintro e w2 ⟨rfl, fr2⟩
    go_wp2_with fail
    refine (leave_nil _).mono ?_
    rintro e w3 ⟨rfl, fr3⟩
    go_wp2_with fail
    refine (waiting_nil _).mono ?_
    rintro e w4 ⟨rfl, rfl⟩
    go_wp2_with fail
    refine (floor_nil a _).mono ?_
    rintro e w4 ⟨rfl, rfl⟩
    go_wp2_with fail
    refine (ka _).mono ?_
    rintro e w4 ⟨rfl, rfl⟩
    go_wp2_with fail
    refine (speaks_any _).mono ?_
    rintro e w5 ⟨rfl, fr5⟩
    go_wp2_with fail
    go_ret
    exact ⟨rfl, (fr2.trans fr3).trans fr5⟩
set_option maxRecDepth 100000 in
set_option maxHeartbeats 1000000 in
theorem nil_3 (a b : Int) (w : World) (hd : 1 ≤ a ∧ a ≤ 6 ∧ 1099511627776 < b) : Calls Try.prog 7 #[.int .i64 a, .int .i64 b] w (LawPost w) := by
  have kr := fun u => read_nil a b u
  have kw := fun u => wait_nil a b u
  have ka := fun u => again_nil a u
  have d1 : decide (a < 1) = false := decide_eq_false (by omega)
  have d2 : decide (1099511627776 < a) = false := decide_eq_false (by omega)
  have d3 : decide (b < 1) = false := decide_eq_false (by omega)
  have d4 : decide (1099511627776 < b) = true := decide_eq_true (by omega)
  have d5 : decide (a < 0) = false := decide_eq_false (by omega)
  have d6 : decide (6 < a) = false := decide_eq_false (by omega)
  rw [if_neg (by omega)] at kw
  rw [show isNode a = true from decide_eq_true (by omega)] at ka
  simp only [if_true] at ka
  clear hd
  go_enter Try.func7, Try.ntmps7
  go_wp2_with fail
  refine (kr _).mono ?_
  rintro e w1 ⟨rfl | rfl, rfl⟩
  all_goals
    go_wp2_with fail
    refine (kw _).mono ?_
    rintro e w1 ⟨rfl, rfl⟩
    go_wp2_with fail
    refine (state_nil a _).mono ?_
    rintro e w1 ⟨rfl, rfl⟩
    go_wp2_with fail
    refine (settle_nil a _).mono ?_
    rintro e w2 ⟨rfl, fr2⟩
    go_wp2_with fail
    refine (leave_nil _).mono ?_
    rintro e w3 ⟨rfl, fr3⟩
    go_wp2_with fail
    refine (waiting_nil _).mono ?_
    rintro e w4 ⟨rfl, rfl⟩
    go_wp2_with fail
    refine (floor_nil a _).mono ?_
    rintro e w4 ⟨rfl, rfl⟩
    go_wp2_with fail
    refine (ka _).mono ?_
    rintro e w4 ⟨rfl, rfl⟩
    go_wp2_with fail
    refine (speaks_any _).mono ?_
    rintro e w5 ⟨rfl, fr5⟩
    go_wp2_with fail
    go_ret
    exact ⟨rfl, (fr2.trans fr3).trans fr5⟩
set_option maxRecDepth 100000 in
set_option maxHeartbeats 1000000 in
theorem nil_4 (a b : Int) (w : World) (hd : 1 ≤ a ∧ a ≤ 6 ∧ 1 ≤ b ∧ b ≤ 1099511627776) : Calls Try.prog 7 #[.int .i64 a, .int .i64 b] w (LawPost w) := by
  have kr := fun u => read_nil a b u
  have kw := fun u => wait_nil a b u
  have ka := fun u => again_nil a u
  have d1 : decide (a < 1) = false := decide_eq_false (by omega)
  have d2 : decide (1099511627776 < a) = false := decide_eq_false (by omega)
  have d3 : decide (b < 1) = false := decide_eq_false (by omega)
  have d4 : decide (1099511627776 < b) = false := decide_eq_false (by omega)
  have d5 : decide (a < 0) = false := decide_eq_false (by omega)
  have d6 : decide (6 < a) = false := decide_eq_false (by omega)
  rw [if_pos (by omega)] at kw
  rw [show isNode a = true from decide_eq_true (by omega)] at ka
  simp only [if_true] at ka
  clear hd
  go_enter Try.func7, Try.ntmps7
  go_wp2_with fail
  refine (kr _).mono ?_
  rintro e w1 ⟨rfl | rfl, rfl⟩
  all_goals
    go_wp2_with fail
    refine (kw _).mono ?_
    rintro e w1 ⟨rfl, rfl⟩
    go_wp2_with fail
    refine (state_nil a _).mono ?_
    rintro e w1 ⟨rfl, rfl⟩
    go_wp2_with fail
    refine (settle_nil a _).mono ?_
    rintro e w2 ⟨rfl, fr2⟩
    go_wp2_with fail
    refine (leave_nil _).mono ?_
    rintro e w3 ⟨rfl, fr3⟩
    go_wp2_with fail
    refine (waiting_nil _).mono ?_
    rintro e w4 ⟨rfl, rfl⟩
    go_wp2_with fail
    refine (floor_nil a _).mono ?_
    rintro e w4 ⟨rfl, rfl⟩
    go_wp2_with fail
    refine (ka _).mono ?_
    rintro e w4 ⟨rfl, rfl⟩
    go_wp2_with fail
    refine (speaks_any _).mono ?_
    rintro e w5 ⟨rfl, fr5⟩
    go_wp2_with fail
    go_ret
    exact ⟨rfl, (fr2.trans fr3).trans fr5⟩
set_option maxRecDepth 100000 in
set_option maxHeartbeats 1000000 in
theorem nil_5 (a b : Int) (w : World) (hd : 7 ≤ a ∧ a ≤ 1099511627776 ∧ b < 1) : Calls Try.prog 7 #[.int .i64 a, .int .i64 b] w (LawPost w) := by
  have kr := fun u => read_nil a b u
  have kw := fun u => wait_nil a b u
  have ka := fun u => again_nil a u
  have d1 : decide (a < 1) = false := decide_eq_false (by omega)
  have d2 : decide (1099511627776 < a) = false := decide_eq_false (by omega)
  have d3 : decide (b < 1) = true := decide_eq_true (by omega)
  have d5 : decide (a < 0) = false := decide_eq_false (by omega)
  have d6 : decide (6 < a) = true := decide_eq_true (by omega)
  rw [if_neg (by omega)] at kw
  rw [show isNode a = false from decide_eq_false (by omega)] at ka
  simp only [Bool.false_eq_true, if_false] at ka
  clear hd
  go_enter Try.func7, Try.ntmps7
  go_wp2_with fail
  refine (kr _).mono ?_
  rintro e w1 ⟨rfl | rfl, rfl⟩
  all_goals
    go_wp2_with fail
    refine (kw _).mono ?_
    rintro e w1 ⟨rfl, rfl⟩
    go_wp2_with fail
    refine (state_nil a _).mono ?_
    rintro e w1 ⟨rfl, rfl⟩
    go_wp2_with fail
    refine (settle_nil a _).mono ?_
    rintro e w2 ⟨rfl, fr2⟩
    go_wp2_with fail
    refine (leave_nil _).mono ?_
    rintro e w3 ⟨rfl, fr3⟩
    go_wp2_with fail
    refine (waiting_nil _).mono ?_
    rintro e w4 ⟨rfl, rfl⟩
    go_wp2_with fail
    refine (floor_nil a _).mono ?_
    rintro e w4 ⟨rfl, rfl⟩
    go_wp2_with fail
    refine (ka _).mono ?_
    rintro e w4 ⟨rfl, rfl⟩
    go_wp2_with fail
    refine (speaks_any _).mono ?_
    rintro e w5 ⟨rfl, fr5⟩
    go_wp2_with fail
    go_ret
    exact ⟨rfl, (fr2.trans fr3).trans fr5⟩
set_option maxRecDepth 100000 in
set_option maxHeartbeats 1000000 in
theorem nil_6 (a b : Int) (w : World) (hd : 7 ≤ a ∧ a ≤ 1099511627776 ∧ 1099511627776 < b) : Calls Try.prog 7 #[.int .i64 a, .int .i64 b] w (LawPost w) := by
  have kr := fun u => read_nil a b u
  have kw := fun u => wait_nil a b u
  have ka := fun u => again_nil a u
  have d1 : decide (a < 1) = false := decide_eq_false (by omega)
  have d2 : decide (1099511627776 < a) = false := decide_eq_false (by omega)
  have d3 : decide (b < 1) = false := decide_eq_false (by omega)
  have d4 : decide (1099511627776 < b) = true := decide_eq_true (by omega)
  have d5 : decide (a < 0) = false := decide_eq_false (by omega)
  have d6 : decide (6 < a) = true := decide_eq_true (by omega)
  rw [if_neg (by omega)] at kw
  rw [show isNode a = false from decide_eq_false (by omega)] at ka
  simp only [Bool.false_eq_true, if_false] at ka
  clear hd
  go_enter Try.func7, Try.ntmps7
  go_wp2_with fail
  refine (kr _).mono ?_
  rintro e w1 ⟨rfl | rfl, rfl⟩
  all_goals
    go_wp2_with fail
    refine (kw _).mono ?_
    rintro e w1 ⟨rfl, rfl⟩
    go_wp2_with fail
    refine (state_nil a _).mono ?_
    rintro e w1 ⟨rfl, rfl⟩
    go_wp2_with fail
    refine (settle_nil a _).mono ?_
    rintro e w2 ⟨rfl, fr2⟩
    go_wp2_with fail
    refine (leave_nil _).mono ?_
    rintro e w3 ⟨rfl, fr3⟩
    go_wp2_with fail
    refine (waiting_nil _).mono ?_
    rintro e w4 ⟨rfl, rfl⟩
    go_wp2_with fail
    refine (floor_nil a _).mono ?_
    rintro e w4 ⟨rfl, rfl⟩
    go_wp2_with fail
    refine (ka _).mono ?_
    rintro e w4 ⟨rfl, rfl⟩
    go_wp2_with fail
    refine (speaks_any _).mono ?_
    rintro e w5 ⟨rfl, fr5⟩
    go_wp2_with fail
    go_ret
    exact ⟨rfl, (fr2.trans fr3).trans fr5⟩
set_option maxRecDepth 100000 in
set_option maxHeartbeats 1000000 in
theorem nil_7 (a b : Int) (w : World) (hd : 7 ≤ a ∧ a ≤ 1099511627776 ∧ 1 ≤ b ∧ b ≤ 1099511627776) : Calls Try.prog 7 #[.int .i64 a, .int .i64 b] w (LawPost w) := by
  have kr := fun u => read_nil a b u
  have kw := fun u => wait_nil a b u
  have ka := fun u => again_nil a u
  have d1 : decide (a < 1) = false := decide_eq_false (by omega)
  have d2 : decide (1099511627776 < a) = false := decide_eq_false (by omega)
  have d3 : decide (b < 1) = false := decide_eq_false (by omega)
  have d4 : decide (1099511627776 < b) = false := decide_eq_false (by omega)
  have d5 : decide (a < 0) = false := decide_eq_false (by omega)
  have d6 : decide (6 < a) = true := decide_eq_true (by omega)
  rw [if_pos (by omega)] at kw
  rw [show isNode a = false from decide_eq_false (by omega)] at ka
  simp only [Bool.false_eq_true, if_false] at ka
  clear hd
  go_enter Try.func7, Try.ntmps7
  go_wp2_with fail
  refine (kr _).mono ?_
  rintro e w1 ⟨rfl | rfl, rfl⟩
  all_goals
    go_wp2_with fail
    refine (kw _).mono ?_
    rintro e w1 ⟨rfl, rfl⟩
    go_wp2_with fail
    refine (state_nil a _).mono ?_
    rintro e w1 ⟨rfl, rfl⟩
    go_wp2_with fail
    refine (settle_nil a _).mono ?_
    rintro e w2 ⟨rfl, fr2⟩
    go_wp2_with fail
    refine (leave_nil _).mono ?_
    rintro e w3 ⟨rfl, fr3⟩
    go_wp2_with fail
    refine (waiting_nil _).mono ?_
    rintro e w4 ⟨rfl, rfl⟩
    go_wp2_with fail
    refine (floor_nil a _).mono ?_
    rintro e w4 ⟨rfl, rfl⟩
    go_wp2_with fail
    refine (ka _).mono ?_
    rintro e w4 ⟨rfl, rfl⟩
    go_wp2_with fail
    refine (speaks_any _).mono ?_
    rintro e w5 ⟨rfl, fr5⟩
    go_wp2_with fail
    go_ret
    exact ⟨rfl, (fr2.trans fr3).trans fr5⟩
set_option maxRecDepth 100000 in
set_option maxHeartbeats 1000000 in
theorem nil_8 (a b : Int) (w : World) (hd : 1099511627776 < a) : Calls Try.prog 7 #[.int .i64 a, .int .i64 b] w (LawPost w) := by
  have kr := fun u => read_nil a b u
  have kw := fun u => wait_nil a b u
  have ka := fun u => again_nil a u
  have d1 : decide (a < 1) = false := decide_eq_false (by omega)
  have d2 : decide (1099511627776 < a) = true := decide_eq_true (by omega)
  have d5 : decide (a < 0) = false := decide_eq_false (by omega)
  have d6 : decide (6 < a) = true := decide_eq_true (by omega)
  rw [if_neg (by omega)] at kw
  rw [show isNode a = false from decide_eq_false (by omega)] at ka
  simp only [Bool.false_eq_true, if_false] at ka
  clear hd
  go_enter Try.func7, Try.ntmps7
  go_wp2_with fail
  refine (kr _).mono ?_
  rintro e w1 ⟨rfl | rfl, rfl⟩
  all_goals
    go_wp2_with fail
    refine (kw _).mono ?_
    rintro e w1 ⟨rfl, rfl⟩
    go_wp2_with fail
    refine (state_nil a _).mono ?_
    rintro e w1 ⟨rfl, rfl⟩
    go_wp2_with fail
    refine (settle_nil a _).mono ?_
    rintro e w2 ⟨rfl, fr2⟩
    go_wp2_with fail
    refine (leave_nil _).mono ?_
    rintro e w3 ⟨rfl, fr3⟩
    go_wp2_with fail
    refine (waiting_nil _).mono ?_
    rintro e w4 ⟨rfl, rfl⟩
    go_wp2_with fail
    refine (floor_nil a _).mono ?_
    rintro e w4 ⟨rfl, rfl⟩
    go_wp2_with fail
    refine (ka _).mono ?_
    rintro e w4 ⟨rfl, rfl⟩
    go_wp2_with fail
    refine (speaks_any _).mono ?_
    rintro e w5 ⟨rfl, fr5⟩
    go_wp2_with fail
    go_ret
    exact ⟨rfl, (fr2.trans fr3).trans fr5⟩
theorem nil_any (a b : Int) (w : World) : Calls Try.prog 7 #[.int .i64 a, .int .i64 b] w (LawPost w) := by
  have h : ((a < 0) ∨ (a = 0) ∨ (1 ≤ a ∧ a ≤ 6 ∧ b < 1) ∨ (1 ≤ a ∧ a ≤ 6 ∧ 1099511627776 < b) ∨ (1 ≤ a ∧ a ≤ 6 ∧ 1 ≤ b ∧ b ≤ 1099511627776) ∨ (7 ≤ a ∧ a ≤ 1099511627776 ∧ b < 1) ∨ (7 ≤ a ∧ a ≤ 1099511627776 ∧ 1099511627776 < b) ∨ (7 ≤ a ∧ a ≤ 1099511627776 ∧ 1 ≤ b ∧ b ≤ 1099511627776) ∨ (1099511627776 < a)) := by omega
  rcases h with h | h | h | h | h | h | h | h | h
  · exact nil_0 a b w h
  · exact nil_1 a b w h
  · exact nil_2 a b w h
  · exact nil_3 a b w h
  · exact nil_4 a b w h
  · exact nil_5 a b w h
  · exact nil_6 a b w h
  · exact nil_7 a b w h
  · exact nil_8 a b w h

set_option maxRecDepth 100000 in
theorem sessionNil_lifted (os : Os) (started : os.Started) (H : Type) (enc : TypeId × Value → H) :
    ReturnsInHanded {} Try.checked os 7 .any (Rows.sessionNilSpec.pre6 enc Try.prog Try.f7 Rows.sessionNilRow.domain false) (Rows.sessionNilSpec.post enc Try.prog Try.f7 false true false false) := by
  refine law_lifted 7 Try.f7 Rows.sessionNilSpec Try.func7 (by kernel_rfl) rfl ?_ rfl ?_ os started
    (ChangeSpec.witness6 (enc := enc) (C := Try.checked) false ⟨#[], #[.int .i64 0, .int .i64 0], []⟩ 8 (by kernel_rfl) (by kernel_rfl) (by kernel_rfl) (by kernel_rfl)) ?_
  · intro t ht
    obtain rfl : t = 3 := by simpa [Try.f7] using ht
    exact ⟨by kernel_rfl, of_decide_eq_true (by kernel_rfl)⟩
  · intro ds hd
    match ds, hd with
    | [d, d'], _ => exact ⟨rfl, rfl, rfl⟩
  · intro W base vs ds ps hval _ hA _
    obtain ⟨v0, vs0, d0, ds0, p0, q0, rfl, rfl, rfl, h0, r0⟩ := trodAll_cons (t := 3) (ts := [3]) hA
    obtain ⟨v1, vs1, d1, ds1, p1, q1, rfl, rfl, rfl, h1, r1⟩ := trodAll_cons r0
    obtain ⟨rfl, rfl, rfl⟩ := trodAll_nil r1
    obtain ⟨a, rfl, rfl, rfl, wa⟩ := open_int Try.underlying3 (hval 0 3 v0 rfl rfl) h0
    obtain ⟨b, rfl, rfl, rfl, wb⟩ := open_int Try.underlying3 (hval 1 3 v1 rfl rfl) h1
    exact nil_any a b W

theorem sessionNil_holds : Rows.SessionNilSaid :=
  OpenClaim.holds_of_wide 7 Try.f7 rfl rfl rfl rfl rfl rfl rfl ⟨rfl, rfl, rfl, rfl, rfl⟩ rfl rfl rfl rfl rfl (by kernel_rfl) Try.func7 (by kernel_rfl)
    (of_decide_eq_true (by kernel_rfl)) (by unfold Func.isWrapper; first | (rw [if_pos (by decide +kernel)]; kernel_rfl) | (rw [if_neg (by decide +kernel)]; exact ⟨rfl, rfl⟩))
    (fun os started H enc _ => sessionNil_lifted os started H enc)
#print axioms sessionNil_holds
end Go.Proofs.Ytjafjhaoogimcaa
