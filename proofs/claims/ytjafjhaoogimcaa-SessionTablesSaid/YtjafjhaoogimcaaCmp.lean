/- The comparison that upTo hands to the sort. -/
import Derived.Test.YtjafjhaoogimcaaWait
namespace Go.Proofs.Ytjafjhaoogimcaa
open Go.RowKit

def orF (x y : Int) : Int := if x = 0 then y else x
theorem or_any (x y : Int) (g : Nat) (w : World) (h : Bk w g 3 #[.int .i64 x, .int .i64 y]) :
    Calls Try.prog 30 #[.slice (some ⟨g, 0, none⟩) 2 2] w fun e w' => e = .returned (.int .i64 (orF x y)) ∧ w = w' := by
  have c0 : w.cell? ⟨g, 0, none⟩ = some (.int .i64 x) := h.cell 0
  have c1 : w.cell? ⟨g, 1, none⟩ = some (.int .i64 y) := h.cell 1
  clear h
  unfold orF
  by_cases hx : x = 0
  · rw [if_pos hx]
    subst hx
    by_cases hy : y = 0
    · subst hy
      go_enter Try.func30, Try.ntmps30
      go_wp2_with fail
      refine wp_loop_rounds 3 ?_
      rw [rounds_succ]
      go_wp2_with fail
      rw [rounds_succ]
      go_wp2_with fail
      rw [rounds_succ]
      go_wp2_with fail
      go_ret
      exact ⟨rfl, rfl⟩
    · have hb : (y != 0) = true := by simpa using hy
      go_enter Try.func30, Try.ntmps30
      go_wp2_with fail
      refine wp_loop_rounds 3 ?_
      rw [rounds_succ]
      go_wp2_with fail
      rw [rounds_succ]
      go_wp2_with fail
      go_ret
      exact ⟨rfl, rfl⟩
  · rw [if_neg hx]
    have hb : (x != 0) = true := by simpa using hx
    go_enter Try.func30, Try.ntmps30
    go_wp2_with fail
    refine wp_loop_rounds 3 ?_
    rw [rounds_succ]
    go_wp2_with fail
    go_ret
    exact ⟨rfl, rfl⟩

def cmpF (q : List (Int × Int)) (x y : Int) : Int := orF (Lib.compareInt (val q 0 x) (val q 0 y)) (Lib.compareInt x y)
theorem compare_any (x y : Int) (w : World) : Calls Try.prog 31 #[.int .i64 x, .int .i64 y] w fun e w' => e = .returned (.int .i64 (Lib.compareInt x y)) ∧ w = w' := by
  have h := AnyG.cmp_Compare_int Try.cmpL x y w
  change Calls Try.prog 31 _ _ _ at h
  exact h.mono fun e w' ⟨a, b⟩ => ⟨a, b.symm⟩

set_option maxHeartbeats 2000000 in
theorem cmp_any {bx t bw : Nat} {q : List (Int × Int)} (W : World) (x y : Int) (hx : okI x) (hy : okI y) (h0 : W.cell? ⟨bx, 0, none⟩ = some (.pointer (some ⟨t, 0, none⟩))) (h1 : W.cell? ⟨t, 0, none⟩ = some (.map (some bw))) (hm : MI W bw q) :
    Calls Try.prog 29 #[.int .i64 x, .int .i64 y, .pointer (some ⟨bx, 0, none⟩)] W fun e w' => e = .returned (.int .i64 (cmpF q x y)) ∧ ∃ k os, w' = Sort.grow (W.drewN k) os := by
  have hS : ∀ W', Fr NoB W W' → W'.cell? ⟨bx, 0, none⟩ = some (.pointer (some ⟨t, 0, none⟩)) ∧ W'.cell? ⟨t, 0, none⟩ = some (.map (some bw)) ∧ (Instr.lookup 58 (.map (some bw)) (.int .i64 x) false).run Try.prog W' = .ok (.int .i64 (val q 0 x)) W' ∧ (Instr.lookup 58 (.map (some bw)) (.int .i64 y) false).run Try.prog W' = .ok (.int .i64 (val q 0 y)) W' := fun W' hf =>
    ⟨hf.cell_some h0 (fun h => h), hf.cell_some h1 (fun h => h), (hm.fr hf (fun h => h)).run_look elemI Try.underlying3 Try.underlying58 0 okI_zero (zero3 _) hx, (hm.fr hf (fun h => h)).run_look elemI Try.underlying3 Try.underlying58 0 okI_zero (zero3 _) hy⟩
  unfold cmpF
  have k1 := fun u => compare_any (val q 0 x) (val q 0 y) u
  have k2 := fun u => compare_any x y u
  clear h0 h1 hm hx hy
  generalize val q 0 x = vx at *
  generalize val q 0 y = vy at *
  generalize Lib.compareInt vx vy = a at *
  generalize Lib.compareInt x y = b at *
  go_enter Try.func29, Try.ntmps29
  go_wp2_with fail
  refine wp_region_plan 19 (fun W' => W'.cell? ⟨bx, 0, none⟩ = some (.pointer (some ⟨t, 0, none⟩)) ∧ W'.cell? ⟨t, 0, none⟩ = some (.map (some bw)) ∧ (Instr.lookup 58 (.map (some bw)) (.int .i64 x) false).run Try.prog W' = .ok (.int .i64 vx) W' ∧ (Instr.lookup 58 (.map (some bw)) (.int .i64 y) false).run Try.prog W' = .ok (.int .i64 vy) W')
    [(0, 1), (1, 0), (2, 0), (3, 1), (4, 0), (5, 1), (6, 1), (7, 0), (8, 0), (9, 1), (10, 0), (11, 1), (13, 0), (14, 0), (12, 2), (15, 2), (16, 2), (17, 2), (18, 0)] (by kernel_rfl) (by kernel_rfl) (fun _ _ _ _ _ h => h) (hS _ (Fr.refl NoB _).drew) ?_
  refine wpPlan_held _ ?_ rfl (by rfl) (fun w' hS => ?_) ?_
  rotate_left
  · obtain ⟨e0, e1, e2, e3⟩ := hS; go_simp; with_reducible rfl
  simp only [Act.put, List.setIfInBounds_toArray, List.set_cons_zero, List.set_cons_succ]
  refine wpPlan_free _ ?_ rfl (by rfl) (fun w' => ?_) ?_
  rotate_left
  · go_simp; with_reducible rfl
  simp only [Act.put, List.setIfInBounds_toArray, List.set_cons_zero, List.set_cons_succ]
  refine wpPlan_free _ ?_ rfl (by rfl) (fun w' => ?_) ?_
  rotate_left
  · go_simp; with_reducible rfl
  simp only [Act.put, List.setIfInBounds_toArray, List.set_cons_zero, List.set_cons_succ]
  refine wpPlan_held _ ?_ rfl (by rfl) (fun w' hS => ?_) ?_
  rotate_left
  · obtain ⟨e0, e1, e2, e3⟩ := hS; go_simp; with_reducible rfl
  simp only [Act.put, List.setIfInBounds_toArray, List.set_cons_zero, List.set_cons_succ]
  refine wpPlan_free _ ?_ rfl (by rfl) (fun w' => ?_) ?_
  rotate_left
  · go_simp; with_reducible rfl
  simp only [Act.put, List.setIfInBounds_toArray, List.set_cons_zero, List.set_cons_succ]
  refine wpPlan_held _ ?_ rfl (by rfl) (fun w' hS => ?_) ?_
  rotate_left
  · obtain ⟨e0, e1, e2, e3⟩ := hS; go_simp; with_reducible rfl
  simp only [Act.put, List.setIfInBounds_toArray, List.set_cons_zero, List.set_cons_succ]
  refine wpPlan_held _ ?_ rfl (by rfl) (fun w' hS => ?_) ?_
  rotate_left
  · obtain ⟨e0, e1, e2, e3⟩ := hS; go_simp; with_reducible rfl
  simp only [Act.put, List.setIfInBounds_toArray, List.set_cons_zero, List.set_cons_succ]
  refine wpPlan_free _ ?_ rfl (by rfl) (fun w' => ?_) ?_
  rotate_left
  · go_simp; with_reducible rfl
  simp only [Act.put, List.setIfInBounds_toArray, List.set_cons_zero, List.set_cons_succ]
  refine wpPlan_free _ ?_ rfl (by rfl) (fun w' => ?_) ?_
  rotate_left
  · go_simp; with_reducible rfl
  simp only [Act.put, List.setIfInBounds_toArray, List.set_cons_zero, List.set_cons_succ]
  refine wpPlan_held _ ?_ rfl (by rfl) (fun w' hS => ?_) ?_
  rotate_left
  · obtain ⟨e0, e1, e2, e3⟩ := hS; go_simp; with_reducible rfl
  simp only [Act.put, List.setIfInBounds_toArray, List.set_cons_zero, List.set_cons_succ]
  refine wpPlan_free _ ?_ rfl (by rfl) (fun w' => ?_) ?_
  rotate_left
  · go_simp; with_reducible rfl
  simp only [Act.put, List.setIfInBounds_toArray, List.set_cons_zero, List.set_cons_succ]
  refine wpPlan_held _ ?_ rfl (by rfl) (fun w' hS => ?_) ?_
  rotate_left
  · obtain ⟨e0, e1, e2, e3⟩ := hS; go_simp; with_reducible rfl
  simp only [Act.put, List.setIfInBounds_toArray, List.set_cons_zero, List.set_cons_succ]
  refine wpPlan_free _ ?_ rfl (by rfl) (fun w' => ?_) ?_
  rotate_left
  · go_simp; with_reducible rfl
  simp only [Act.put, List.setIfInBounds_toArray, List.set_cons_zero, List.set_cons_succ]
  refine wpPlan_free _ ?_ rfl (by rfl) (fun w' => ?_) ?_
  rotate_left
  · go_simp; with_reducible rfl
  simp only [Act.put, List.setIfInBounds_toArray, List.set_cons_zero, List.set_cons_succ]
  refine wpPlan_do _ rfl (fun K hK => ?_)
  go_simp
  refine (k1 _).mono ?_
  rintro e w1 ⟨rfl, rfl⟩
  refine hK _ _ (fun _ => hS _ (Fr.refl NoB _).drew) ?_
  clear hK K
  refine wpPlan_do _ rfl (fun K hK => ?_)
  go_simp
  refine (k2 _).mono ?_
  rintro e w1 ⟨rfl, rfl⟩
  refine hK _ _ (fun _ => hS _ (Fr.refl NoB _).drew) ?_
  clear hK K
  refine wpPlan_do _ rfl (fun K hK => ?_)
  go_simp
  refine hK _ _ (fun _ => hS _ ((Fr.refl NoB _).drew.alloc _)) ?_
  clear hK K
  refine wpPlan_do _ rfl (fun K hK => ?_)
  go_simp
  refine (or_any a b _ _ (Bk.new W.drew 3 #[.int .i64 a, .int .i64 b])).mono ?_
  rintro e w1 ⟨rfl, rfl⟩
  refine hK _ _ (fun _ => hS _ ((Fr.refl NoB _).drew.alloc _)) ?_
  clear hK K
  refine wpPlan_free _ ?_ rfl (by rfl) (fun w' => ?_) ?_
  rotate_left
  · go_simp; with_reducible rfl
  simp only [Act.put, List.setIfInBounds_toArray, List.set_cons_zero, List.set_cons_succ]
  refine wpPlan_nil ?_
  go_wp2_with fail
  go_ret
  exact ⟨rfl, 1, #[.cells #[.int .i64 a, .int .i64 b] 3], Sort.alloc_eq_grow _ _⟩
end Go.Proofs.Ytjafjhaoogimcaa
