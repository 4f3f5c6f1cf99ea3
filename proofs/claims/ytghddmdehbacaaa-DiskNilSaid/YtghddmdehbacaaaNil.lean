/-
  latticelaw03.DiskNil: for every input the call returns true, and each argument reads afterwards as it read before. No conditions.
-/
import Derived.Test.YtghddmdehbacaaaSpeaks
import Derived.Test.YtghddmdehbacaaaLawFrame
namespace Go.Proofs.Ytghddmdehbacaaa
open Go.ChangeShapes Go.WideShapes Go.ChangeAt Go.RowKit

theorem read_nil (i : Int) (w : World) : Calls Try.prog 13 #[.pointer none, .int .i64 i] w fun e w' => e = .returned (.tuple #[.slice none 0 0, .int .i64 6]) ∧ w = w' := by
  go_enter Try.func13, Try.ntmps13
  go_wp2_with fail
  refine (has_nil i w).mono ?_
  rintro e w' ⟨rfl, rfl⟩
  go_wp2_with fail
  go_ret2
  exact ⟨rfl, rfl⟩
theorem lasts_nil (i : Int) (w : World) : Calls Try.prog 19 #[.pointer none, .int .i64 i] w fun e w' => e = .returned (.tuple #[.slice none 0 0, .int .i64 6]) ∧ w = w' := by
  go_enter Try.func19, Try.ntmps19
  go_wp2_with fail
  refine (has_nil i w).mono ?_
  rintro e w' ⟨rfl, rfl⟩
  go_wp2_with fail
  go_ret2
  exact ⟨rfl, rfl⟩
theorem write_nil (i : Int) (w : World) : Calls Try.prog 9 #[.pointer none, .int .i64 i, .slice none 0 0] w fun e w' => e = .returned (.int .i64 6) ∧ w = w' := by
  go_enter Try.func9, Try.ntmps9
  go_wp2_with fail
  refine (has_nil i w).mono ?_
  rintro e w' ⟨rfl, rfl⟩
  go_wp2_with fail
  go_ret
  exact ⟨rfl, rfl⟩
def crashNil (i torn : Int) : Int := if i = 0 ∧ 0 ≤ torn ∧ torn ≤ 256 then 0 else 1
theorem crash_nil (i torn : Int) (w : World) : Calls Try.prog 12 #[.pointer none, .int .i64 i, .int .i64 torn] w fun e w' => e = .returned (.int .i64 (crashNil i torn)) ∧ w = w' := by
  unfold crashNil
  by_cases h1 : i < 0
  · rw [if_neg (by omega)]
    go_enter Try.func12, Try.ntmps12
    go_wp2_with fail
    refine (waits_nil w).mono ?_
    rintro e w' ⟨rfl, rfl⟩
    go_wp2_with fail
    go_ret
    exact ⟨rfl, rfl⟩
  by_cases h2 : 0 < i
  · rw [if_neg (by omega)]
    go_enter Try.func12, Try.ntmps12
    go_wp2_with fail
    refine (waits_nil w).mono ?_
    rintro e w' ⟨rfl, rfl⟩
    go_wp2_with fail
    go_ret
    exact ⟨rfl, rfl⟩
  obtain rfl : i = 0 := by omega
  clear h1 h2
  by_cases h3 : torn < 0
  · rw [if_neg (by omega)]
    go_enter Try.func12, Try.ntmps12
    go_wp2_with fail
    refine (waits_nil w).mono ?_
    rintro e w' ⟨rfl, rfl⟩
    go_wp2_with fail
    go_ret
    exact ⟨rfl, rfl⟩
  by_cases h4 : 256 < torn
  · rw [if_neg (by omega)]
    go_enter Try.func12, Try.ntmps12
    go_wp2_with fail
    refine (waits_nil w).mono ?_
    rintro e w' ⟨rfl, rfl⟩
    go_wp2_with fail
    go_ret
    exact ⟨rfl, rfl⟩
  rw [if_pos ⟨rfl, by omega, by omega⟩]
  go_enter Try.func12, Try.ntmps12
  go_wp2_with fail
  refine (waits_nil w).mono ?_
  rintro e w' ⟨rfl, rfl⟩
  go_wp2_with fail
  go_ret
  exact ⟨rfl, rfl⟩
theorem sync_nil (w : World) : Calls Try.prog 11 #[.pointer none] w fun e w' => e = .returned (.tuple #[]) ∧ w = w' := by
  go_enter Try.func11, Try.ntmps11
  go_wp2_with fail
  refine (waits_nil w).mono ?_
  rintro e w' ⟨rfl, rfl⟩
  go_wp2_with fail
  refine (crash_nil 0 0 w).mono ?_
  have h0 : crashNil 0 0 = 0 := rfl
  rw [h0]
  rintro e w' ⟨rfl, rfl⟩
  go_wp2_with fail
  refine bodyPost_end (v := .tuple #[]) ?_ rfl ?_
  · simp [results, Try.results11, go_sem]
  · exact ⟨rfl, rfl⟩

theorem nil_any (i torn : Int) (w : World) : Calls Try.prog 7 #[.int .i64 i, .int .i64 torn] w (LawPost w) := by
  have hc := crash_nil i torn w
  unfold crashNil at hc
  by_cases h1 : i = 0
  · subst h1
    by_cases h2 : 0 ≤ torn
    · by_cases h3 : torn ≤ 256
      · rw [if_pos ⟨rfl, h2, h3⟩] at hc
        go_enter Try.func7, Try.ntmps7
        go_wp2_with fail
        refine (read_nil _ w).mono ?_
        rintro e w' ⟨rfl, rfl⟩
        go_wp2_with fail
        refine (lasts_nil _ w).mono ?_
        rintro e w' ⟨rfl, rfl⟩
        go_wp2_with fail
        refine (sync_nil w).mono ?_
        rintro e w' ⟨rfl, rfl⟩
        go_wp2_with fail
        refine (write_nil _ w).mono ?_
        rintro e w' ⟨rfl, rfl⟩
        go_wp2_with fail
        refine (waits_nil w).mono ?_
        rintro e w' ⟨rfl, rfl⟩
        go_wp2_with fail
        refine hc.mono ?_
        rintro e w' ⟨rfl, rfl⟩
        go_wp2_with fail
        refine (speaks_any w).mono ?_
        rintro e w5 ⟨rfl, h5⟩
        go_wp2_with fail
        go_ret
        exact ⟨rfl, h5⟩
      · rw [if_neg (fun h => h3 h.2.2)] at hc
        have h3' : decide (torn ≤ 256) = false := decide_eq_false h3
        go_enter Try.func7, Try.ntmps7
        go_wp2_with fail
        refine (read_nil _ w).mono ?_
        rintro e w' ⟨rfl, rfl⟩
        go_wp2_with fail
        refine (lasts_nil _ w).mono ?_
        rintro e w' ⟨rfl, rfl⟩
        go_wp2_with fail
        refine (sync_nil w).mono ?_
        rintro e w' ⟨rfl, rfl⟩
        go_wp2_with fail
        refine (write_nil _ w).mono ?_
        rintro e w' ⟨rfl, rfl⟩
        go_wp2_with fail
        refine (waits_nil w).mono ?_
        rintro e w' ⟨rfl, rfl⟩
        go_wp2_with fail
        refine hc.mono ?_
        rintro e w' ⟨rfl, rfl⟩
        go_wp2_with fail
        refine (speaks_any w).mono ?_
        rintro e w5 ⟨rfl, h5⟩
        go_wp2_with fail
        go_ret
        exact ⟨rfl, h5⟩
    · rw [if_neg (fun h => h2 h.2.1)] at hc
      have h2' : decide (0 ≤ torn) = false := decide_eq_false h2
      go_enter Try.func7, Try.ntmps7
      go_wp2_with fail
      refine (read_nil _ w).mono ?_
      rintro e w' ⟨rfl, rfl⟩
      go_wp2_with fail
      refine (lasts_nil _ w).mono ?_
      rintro e w' ⟨rfl, rfl⟩
      go_wp2_with fail
      refine (sync_nil w).mono ?_
      rintro e w' ⟨rfl, rfl⟩
      go_wp2_with fail
      refine (write_nil _ w).mono ?_
      rintro e w' ⟨rfl, rfl⟩
      go_wp2_with fail
      refine (waits_nil w).mono ?_
      rintro e w' ⟨rfl, rfl⟩
      go_wp2_with fail
      refine hc.mono ?_
      rintro e w' ⟨rfl, rfl⟩
      go_wp2_with fail
      refine (speaks_any w).mono ?_
      rintro e w5 ⟨rfl, h5⟩
      go_wp2_with fail
      go_ret
      exact ⟨rfl, h5⟩
  · rw [if_neg (fun h => h1 h.1)] at hc
    have h1' : (i == 0) = false := by simp [h1]
    go_enter Try.func7, Try.ntmps7
    go_wp2_with fail
    refine (read_nil _ w).mono ?_
    rintro e w' ⟨rfl, rfl⟩
    go_wp2_with fail
    refine (lasts_nil _ w).mono ?_
    rintro e w' ⟨rfl, rfl⟩
    go_wp2_with fail
    refine (sync_nil w).mono ?_
    rintro e w' ⟨rfl, rfl⟩
    go_wp2_with fail
    refine (write_nil _ w).mono ?_
    rintro e w' ⟨rfl, rfl⟩
    go_wp2_with fail
    refine (waits_nil w).mono ?_
    rintro e w' ⟨rfl, rfl⟩
    go_wp2_with fail
    refine hc.mono ?_
    rintro e w' ⟨rfl, rfl⟩
    go_wp2_with fail
    refine (speaks_any w).mono ?_
    rintro e w5 ⟨rfl, h5⟩
    go_wp2_with fail
    go_ret
    exact ⟨rfl, h5⟩

set_option maxRecDepth 100000 in
theorem diskNil_lifted (os : Os) (started : os.Started) (H : Type) (enc : TypeId × Value → H) :
    ReturnsInHanded {} Try.checked os 7 .any (Rows.diskNilSpec.pre6 enc Try.prog Try.f7 Rows.diskNilRow.domain false) (Rows.diskNilSpec.post enc Try.prog Try.f7 false true false false) := by
  refine law_lifted 7 Try.f7 Rows.diskNilSpec Try.func7 (by kernel_rfl) rfl ?_ rfl ?_ os started
    (ChangeSpec.witness6 (enc := enc) (C := Try.checked) false ⟨#[], #[.int .i64 0, .int .i64 0], []⟩ 8 (by kernel_rfl) (by kernel_rfl) (by kernel_rfl) (by kernel_rfl)) ?_
  · intro t ht
    obtain rfl : t = 3 := by simpa [Try.f7] using ht
    exact ⟨by kernel_rfl, of_decide_eq_true (by kernel_rfl)⟩
  · intro ds hd
    match ds, hd with
    | [d, d'], _ => exact ⟨rfl, rfl, rfl⟩
  · intro W base vs ds ps hval _ hA _
    obtain ⟨v0, vs0, d0, ds0, p0, q0, rfl, rfl, rfl, h0, r0⟩ := trodAll_cons (t := 3) (ts := [3]) hA
    obtain ⟨v1, vs1, d1, ds1, p1, q1, rfl, rfl, rfl, h1, r1⟩ := trodAll_cons r0
    obtain ⟨rfl, rfl, rfl⟩ := trodAll_nil r1
    obtain ⟨a, rfl, rfl, rfl, wa⟩ := open_int Try.underlying3 (hval 0 3 v0 rfl rfl) h0
    obtain ⟨c, rfl, rfl, rfl, wc⟩ := open_int Try.underlying3 (hval 1 3 v1 rfl rfl) h1
    exact nil_any a c W

theorem diskNil_holds : Rows.DiskNilSaid :=
  OpenClaim.holds_of_wide 7 Try.f7 rfl rfl rfl rfl rfl rfl rfl ⟨rfl, rfl, rfl, rfl, rfl⟩ rfl rfl rfl rfl rfl (by kernel_rfl) Try.func7 (by kernel_rfl)
    (of_decide_eq_true (by kernel_rfl)) (by unfold Func.isWrapper; first | (rw [if_pos (by decide +kernel)]; kernel_rfl) | (rw [if_neg (by decide +kernel)]; exact ⟨rfl, rfl⟩))
    (fun os started H enc _ => diskNil_lifted os started H enc)
#print axioms diskNil_holds
end Go.Proofs.Ytghddmdehbacaaa
