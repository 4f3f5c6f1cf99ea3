/- AllocReads: the walk. -/
import Derived.Test.YtmceknchmflgoaaRefFrom
import Derived.Test.YtmceknchmflgoaaLawFrame
namespace Go.Proofs.Ytmceknchmflgoaa
open Go.RowKit

set_option maxHeartbeats 4000000 in
set_option maxRecDepth 100000 in
theorem reads_any (most : Int) (A : Option Addr) (c : Nat) (b : List UInt8) (w : World) (h : Rd w (fun k => k < w.heap.size) 1 A b.length c (bv b)) :
    Calls Try.prog 6 #[.int .i64 most, .slice A b.length c] w (LawPost w) := by
  go_enter Try.func6, Try.ntmps6
  go_wp2_with fail
  refine (from_any most A c b _ h).mono ?_
  rintro e w1 (⟨hno, rfl, fr1⟩ | ⟨mn, rfl, hm1, hm2, ⟨hB, rfl, fr1⟩ | ⟨hB, m, S, hm, rfl, mp1, up1, fr1⟩⟩)
  · go_wp2_with fail
    refine (refFrom_any most A c b _ ((h.fr fr1 (fun _ _ _ h => h)).mono (fun k hk => Nat.lt_of_lt_of_le hk fr1.size))).mono ?_
    rintro e w2 (⟨_, rfl, fr2⟩ | ⟨mn, rfl, hm1, hm2, _⟩)
    rotate_left
    · omega
    clear hno
    go_wp2_with fail
    refine (speaks_any _).mono ?_
    rintro e w3 ⟨rfl, fr3⟩
    go_wp2_with fail
    go_ret
    exact ⟨rfl, (fr1.trans fr2).trans fr3⟩
  · go_wp2_with fail
    refine (refFrom_any mn A c b _ ((h.fr fr1 (fun _ _ _ h => h)).mono (fun k hk => Nat.lt_of_lt_of_le hk fr1.size))).mono ?_
    rintro e w2 (⟨hno, _⟩ | ⟨mn', hmn, _, _, ⟨_, rfl, fr2⟩ | ⟨hB', _⟩⟩)
    · omega
    rotate_left
    · obtain rfl : mn = mn' := by omega
      exact absurd hB' hB
    clear hmn
    go_wp2_with fail
    refine (speaks_any _).mono ?_
    rintro e w3 ⟨rfl, fr3⟩
    go_wp2_with fail
    go_ret
    exact ⟨rfl, (fr1.trans fr2).trans fr3⟩
  · go_wp2_with fail
    refine (refFrom_any mn A c b _ ((h.fr fr1 (fun _ _ _ h => h)).mono (fun k hk => Nat.lt_of_lt_of_le hk fr1.size))).mono ?_
    rintro e w2 (⟨hno, _⟩ | ⟨mn', hmn, _, _, ⟨hB', _⟩ | ⟨_, p, T, hp, rfl, rf2, up2, fr2⟩⟩)
    · omega
    · obtain rfl : mn = mn' := by omega
      exact absurd hB hB'
    obtain rfl : mn = mn' := by omega
    have HB := Lib.hid hB
    have HM := Lib.hid (mp1.fr fr2 (fun _ _ h => h))
    have HR := Lib.hid rf2
    have HFR := Lib.hid (fr1.trans fr2)
    clear hB mp1 rf2 fr1 fr2 hmn up1 up2
    generalize hus : usOf mn b = us at *
    have hsum : IntKind.i64.wrap ((mn : Int) + 1) = (mn : Int) + 1 := by rw [IntKind.wrap_i64]; omega
    go_wp2_with fail
    go_loopg [9] 101 (fun n v9 wr => ∃ k : Nat, k ≤ 100 ∧ n = 101 - k ∧ v9 = .int .i64 (k : Int) ∧ wr = w2)
    case atStart => exact ⟨0, by omega, rfl, rfl, rfl⟩
    case round =>
      obtain ⟨k, hk, rfl, rfl, rfl⟩ := hrel
      by_cases hgo : k ≤ mn + 1 ∧ k < 100
      · obtain ⟨g1, g2⟩ := hgo
        have d1 : decide ((k : Int) ≤ (mn : Int) + 1) = true := decide_eq_true (by omega)
        have d2 : decide ((k : Int) < 100) = true := decide_eq_true (by omega)
        have x1 := has_any (k : Int) _ HM.out
        have x2 := refHas_any (k : Int) _ HR.out
        generalize hasU us (k : Int) = hx at *
        go_wp2_with fail
        refine x1.mono ?_
        rintro e w' ⟨rfl, rfl⟩
        go_wp2_with fail
        refine x2.mono ?_
        rintro e w' ⟨rfl, rfl⟩
        go_wp2_with fail
        go_roundg (101 - (k + 1))
        case measure => omega
        case rel => exact ⟨k + 1, by omega, rfl, by go_num, rfl⟩
      · by_cases g1 : k ≤ mn + 1
        · have d1 : decide ((k : Int) ≤ (mn : Int) + 1) = true := decide_eq_true (by omega)
          have d2 : decide ((k : Int) < 100) = false := decide_eq_false (by omega)
          clear hgo
          go_wp2_with fail
          have k0 : ∀ w' : World, Rd w' (fun k => k < w.heap.size) 1 A b.length c (bv b) → (convert 41 9 (.slice A b.length c)).run Try.prog w' = .ok (.string ⟨b.toArray⟩) w' := fun w' hr => run_conv_rd w' 41 9 5 Try.underlying41 Try.underlying5 Try.underlying9 b hr
          have hr0 := h.fr HFR.out (fun _ _ _ h => h)
          refine wp_region_planG 17 (fun w' => (convert 41 9 (.slice A b.length c)).run Try.prog w' = .ok (.string ⟨b.toArray⟩) w') [(0, 0), (3, 0), (4, 1), (1, 2), (2, 1), (5, 0), (6, 0), (7, 0), (9, 0), (8, 2), (10, 2), (11, 0), (12, 0), (13, 0), (14, 2), (15, 0), (16, 0)] (by kernel_rfl) (by kernel_rfl) (fun _ _ _ _ _ h => h) (k0 _ hr0.drew) ?_
          refine wpPlanG_free _ ?_ rfl (by rfl) (fun w' => ?_) ?_
          rotate_left
          · go_simp; with_reducible rfl
          simp only [Act.put, List.setIfInBounds_toArray, List.set_cons_zero, List.set_cons_succ]
          refine wpPlanG_free _ ?_ rfl (by rfl) (fun w' => ?_) ?_
          rotate_left
          · go_simp; with_reducible rfl
          simp only [Act.put, List.setIfInBounds_toArray, List.set_cons_zero, List.set_cons_succ]
          refine wpPlanG_held _ ?_ rfl (by rfl) (fun w' hS => ?_) ?_
          rotate_left
          · have e0 := hS; go_simp; with_reducible rfl
          simp only [Act.put, List.setIfInBounds_toArray, List.set_cons_zero, List.set_cons_succ]
          refine wpPlanG_do _ rfl (fun K hK => ?_)
          go_simp
          refine (bytes_any _ (HM.out.fr ((Fr.refl NoB _).drew) (fun _ _ h => h))).mono ?_
          rintro e w5 ⟨bs, A1, c1, hbits1, rfl, harr1, hin1, fr5⟩
          obtain rfl : b = bs := HB.out.inj hbits1
          have f5 : Fr NoB _ w5 := ((Fr.refl NoB _).drew).trans fr5
          have hr5 := hr0.fr f5 (fun _ _ _ h => h)
          have k1 : ∀ w' : World, Rd w' (InB A1) 1 A1 b.length c1 (bv b) → (convert 41 9 (.slice A1 b.length c1)).run Try.prog w' = .ok (.string ⟨b.toArray⟩) w' := fun w' hr => run_conv_rd w' 41 9 5 Try.underlying41 Try.underlying5 Try.underlying9 b hr
          refine hK _ _ (fun w' => (convert 41 9 (.slice A b.length c)).run Try.prog w' = .ok (.string ⟨b.toArray⟩) w' ∧ (convert 41 9 (.slice A1 b.length c1)).run Try.prog w' = .ok (.string ⟨b.toArray⟩) w') (fun _ h => h.1) (fun _ => ⟨k0 _ hr5, k1 _ harr1.rd⟩) ?_
          clear hK K
          refine wpPlanG_held _ ?_ rfl (by rfl) (fun w' hS => ?_) ?_
          rotate_left
          · have e0 := hS.2; go_simp; with_reducible rfl
          simp only [Act.put, List.setIfInBounds_toArray, List.set_cons_zero, List.set_cons_succ]
          refine wpPlanG_free _ ?_ rfl (by rfl) (fun w' => ?_) ?_
          rotate_left
          · go_simp; with_reducible rfl
          simp only [Act.put, List.setIfInBounds_toArray, List.set_cons_zero, List.set_cons_succ]
          refine wpPlanG_free _ ?_ rfl (by rfl) (fun w' => ?_) ?_
          rotate_left
          · go_simp; with_reducible rfl
          simp only [Act.put, List.setIfInBounds_toArray, List.set_cons_zero, List.set_cons_succ]
          refine wpPlanG_free _ ?_ rfl (by rfl) (fun w' => ?_) ?_
          rotate_left
          · go_simp; with_reducible rfl
          simp only [Act.put, List.setIfInBounds_toArray, List.set_cons_zero, List.set_cons_succ]
          refine wpPlanG_free _ ?_ rfl (by rfl) (fun w' => ?_) ?_
          rotate_left
          · go_simp; with_reducible rfl
          simp only [Act.put, List.setIfInBounds_toArray, List.set_cons_zero, List.set_cons_succ]
          refine wpPlanG_do _ rfl (fun K hK => ?_)
          go_simp
          refine (used_any _ (HM.out.fr f5 (fun _ _ h => h))).mono ?_
          rintro e w6 ⟨rfl, fr6⟩
          have f6 := f5.trans fr6
          have hr6 := hr0.fr f6 (fun _ _ _ h => h)
          have ha6 := harr1.rd.fr fr6 (fun _ _ _ h => h)
          refine hK _ _ (fun w' => (convert 41 9 (.slice A b.length c)).run Try.prog w' = .ok (.string ⟨b.toArray⟩) w' ∧ (convert 41 9 (.slice A1 b.length c1)).run Try.prog w' = .ok (.string ⟨b.toArray⟩) w') (fun _ h => h) (fun _ => ⟨k0 _ hr6, k1 _ ha6⟩) ?_
          clear hK K
          refine wpPlanG_do _ rfl (fun K hK => ?_)
          go_simp
          refine (refCount_any _ (HR.out.fr f6 (fun _ _ h => h))).mono ?_
          rintro e w7 ⟨rfl, rfl⟩
          refine hK _ _ (fun w' => (convert 41 9 (.slice A b.length c)).run Try.prog w' = .ok (.string ⟨b.toArray⟩) w' ∧ (convert 41 9 (.slice A1 b.length c1)).run Try.prog w' = .ok (.string ⟨b.toArray⟩) w') (fun _ h => h) (fun _ => ⟨k0 _ hr6, k1 _ ha6⟩) ?_
          clear hK K
          refine wpPlanG_free _ ?_ rfl (by rfl) (fun w' => ?_) ?_
          rotate_left
          · go_simp; with_reducible rfl
          simp only [Act.put, List.setIfInBounds_toArray, List.set_cons_zero, List.set_cons_succ]
          refine wpPlanG_free _ ?_ rfl (by rfl) (fun w' => ?_) ?_
          rotate_left
          · go_simp; with_reducible rfl
          simp only [Act.put, List.setIfInBounds_toArray, List.set_cons_zero, List.set_cons_succ]
          refine wpPlanG_free _ ?_ rfl (by rfl) (fun w' => ?_) ?_
          rotate_left
          · go_simp; with_reducible rfl
          simp only [Act.put, List.setIfInBounds_toArray, List.set_cons_zero, List.set_cons_succ]
          refine wpPlanG_do _ rfl (fun K hK => ?_)
          go_simp
          refine (speaks_any _).mono ?_
          rintro e w8 ⟨rfl, fr8⟩
          refine hK _ _ (fun w' => (convert 41 9 (.slice A b.length c)).run Try.prog w' = .ok (.string ⟨b.toArray⟩) w' ∧ (convert 41 9 (.slice A1 b.length c1)).run Try.prog w' = .ok (.string ⟨b.toArray⟩) w') (fun _ h => h) (fun _ => ⟨k0 _ (hr6.fr fr8 (fun _ _ _ h => h)), k1 _ (ha6.fr fr8 (fun _ _ _ h => h))⟩) ?_
          clear hK K
          refine wpPlanG_free _ ?_ rfl (by rfl) (fun w' => ?_) ?_
          rotate_left
          · go_simp; with_reducible rfl
          simp only [Act.put, List.setIfInBounds_toArray, List.set_cons_zero, List.set_cons_succ]
          refine wpPlanG_free _ ?_ rfl (by rfl) (fun w' => ?_) ?_
          rotate_left
          · go_simp; with_reducible rfl
          simp only [Act.put, List.setIfInBounds_toArray, List.set_cons_zero, List.set_cons_succ]
          refine wpPlanG_nil ?_
          go_wp2_with fail
          go_ret
          exact ⟨rfl, HFR.out.trans (f6.trans fr8)⟩
        · have d1 : decide ((k : Int) ≤ (mn : Int) + 1) = false := decide_eq_false (by omega)
          clear hgo
          go_wp2_with fail
          have k0 : ∀ w' : World, Rd w' (fun k => k < w.heap.size) 1 A b.length c (bv b) → (convert 41 9 (.slice A b.length c)).run Try.prog w' = .ok (.string ⟨b.toArray⟩) w' := fun w' hr => run_conv_rd w' 41 9 5 Try.underlying41 Try.underlying5 Try.underlying9 b hr
          have hr0 := h.fr HFR.out (fun _ _ _ h => h)
          refine wp_region_planG 17 (fun w' => (convert 41 9 (.slice A b.length c)).run Try.prog w' = .ok (.string ⟨b.toArray⟩) w') [(0, 0), (3, 0), (4, 1), (1, 2), (2, 1), (5, 0), (6, 0), (7, 0), (9, 0), (8, 2), (10, 2), (11, 0), (12, 0), (13, 0), (14, 2), (15, 0), (16, 0)] (by kernel_rfl) (by kernel_rfl) (fun _ _ _ _ _ h => h) (k0 _ hr0.drew) ?_
          refine wpPlanG_free _ ?_ rfl (by rfl) (fun w' => ?_) ?_
          rotate_left
          · go_simp; with_reducible rfl
          simp only [Act.put, List.setIfInBounds_toArray, List.set_cons_zero, List.set_cons_succ]
          refine wpPlanG_free _ ?_ rfl (by rfl) (fun w' => ?_) ?_
          rotate_left
          · go_simp; with_reducible rfl
          simp only [Act.put, List.setIfInBounds_toArray, List.set_cons_zero, List.set_cons_succ]
          refine wpPlanG_held _ ?_ rfl (by rfl) (fun w' hS => ?_) ?_
          rotate_left
          · have e0 := hS; go_simp; with_reducible rfl
          simp only [Act.put, List.setIfInBounds_toArray, List.set_cons_zero, List.set_cons_succ]
          refine wpPlanG_do _ rfl (fun K hK => ?_)
          go_simp
          refine (bytes_any _ (HM.out.fr ((Fr.refl NoB _).drew) (fun _ _ h => h))).mono ?_
          rintro e w5 ⟨bs, A1, c1, hbits1, rfl, harr1, hin1, fr5⟩
          obtain rfl : b = bs := HB.out.inj hbits1
          have f5 : Fr NoB _ w5 := ((Fr.refl NoB _).drew).trans fr5
          have hr5 := hr0.fr f5 (fun _ _ _ h => h)
          have k1 : ∀ w' : World, Rd w' (InB A1) 1 A1 b.length c1 (bv b) → (convert 41 9 (.slice A1 b.length c1)).run Try.prog w' = .ok (.string ⟨b.toArray⟩) w' := fun w' hr => run_conv_rd w' 41 9 5 Try.underlying41 Try.underlying5 Try.underlying9 b hr
          refine hK _ _ (fun w' => (convert 41 9 (.slice A b.length c)).run Try.prog w' = .ok (.string ⟨b.toArray⟩) w' ∧ (convert 41 9 (.slice A1 b.length c1)).run Try.prog w' = .ok (.string ⟨b.toArray⟩) w') (fun _ h => h.1) (fun _ => ⟨k0 _ hr5, k1 _ harr1.rd⟩) ?_
          clear hK K
          refine wpPlanG_held _ ?_ rfl (by rfl) (fun w' hS => ?_) ?_
          rotate_left
          · have e0 := hS.2; go_simp; with_reducible rfl
          simp only [Act.put, List.setIfInBounds_toArray, List.set_cons_zero, List.set_cons_succ]
          refine wpPlanG_free _ ?_ rfl (by rfl) (fun w' => ?_) ?_
          rotate_left
          · go_simp; with_reducible rfl
          simp only [Act.put, List.setIfInBounds_toArray, List.set_cons_zero, List.set_cons_succ]
          refine wpPlanG_free _ ?_ rfl (by rfl) (fun w' => ?_) ?_
          rotate_left
          · go_simp; with_reducible rfl
          simp only [Act.put, List.setIfInBounds_toArray, List.set_cons_zero, List.set_cons_succ]
          refine wpPlanG_free _ ?_ rfl (by rfl) (fun w' => ?_) ?_
          rotate_left
          · go_simp; with_reducible rfl
          simp only [Act.put, List.setIfInBounds_toArray, List.set_cons_zero, List.set_cons_succ]
          refine wpPlanG_free _ ?_ rfl (by rfl) (fun w' => ?_) ?_
          rotate_left
          · go_simp; with_reducible rfl
          simp only [Act.put, List.setIfInBounds_toArray, List.set_cons_zero, List.set_cons_succ]
          refine wpPlanG_do _ rfl (fun K hK => ?_)
          go_simp
          refine (used_any _ (HM.out.fr f5 (fun _ _ h => h))).mono ?_
          rintro e w6 ⟨rfl, fr6⟩
          have f6 := f5.trans fr6
          have hr6 := hr0.fr f6 (fun _ _ _ h => h)
          have ha6 := harr1.rd.fr fr6 (fun _ _ _ h => h)
          refine hK _ _ (fun w' => (convert 41 9 (.slice A b.length c)).run Try.prog w' = .ok (.string ⟨b.toArray⟩) w' ∧ (convert 41 9 (.slice A1 b.length c1)).run Try.prog w' = .ok (.string ⟨b.toArray⟩) w') (fun _ h => h) (fun _ => ⟨k0 _ hr6, k1 _ ha6⟩) ?_
          clear hK K
          refine wpPlanG_do _ rfl (fun K hK => ?_)
          go_simp
          refine (refCount_any _ (HR.out.fr f6 (fun _ _ h => h))).mono ?_
          rintro e w7 ⟨rfl, rfl⟩
          refine hK _ _ (fun w' => (convert 41 9 (.slice A b.length c)).run Try.prog w' = .ok (.string ⟨b.toArray⟩) w' ∧ (convert 41 9 (.slice A1 b.length c1)).run Try.prog w' = .ok (.string ⟨b.toArray⟩) w') (fun _ h => h) (fun _ => ⟨k0 _ hr6, k1 _ ha6⟩) ?_
          clear hK K
          refine wpPlanG_free _ ?_ rfl (by rfl) (fun w' => ?_) ?_
          rotate_left
          · go_simp; with_reducible rfl
          simp only [Act.put, List.setIfInBounds_toArray, List.set_cons_zero, List.set_cons_succ]
          refine wpPlanG_free _ ?_ rfl (by rfl) (fun w' => ?_) ?_
          rotate_left
          · go_simp; with_reducible rfl
          simp only [Act.put, List.setIfInBounds_toArray, List.set_cons_zero, List.set_cons_succ]
          refine wpPlanG_free _ ?_ rfl (by rfl) (fun w' => ?_) ?_
          rotate_left
          · go_simp; with_reducible rfl
          simp only [Act.put, List.setIfInBounds_toArray, List.set_cons_zero, List.set_cons_succ]
          refine wpPlanG_do _ rfl (fun K hK => ?_)
          go_simp
          refine (speaks_any _).mono ?_
          rintro e w8 ⟨rfl, fr8⟩
          refine hK _ _ (fun w' => (convert 41 9 (.slice A b.length c)).run Try.prog w' = .ok (.string ⟨b.toArray⟩) w' ∧ (convert 41 9 (.slice A1 b.length c1)).run Try.prog w' = .ok (.string ⟨b.toArray⟩) w') (fun _ h => h) (fun _ => ⟨k0 _ (hr6.fr fr8 (fun _ _ _ h => h)), k1 _ (ha6.fr fr8 (fun _ _ _ h => h))⟩) ?_
          clear hK K
          refine wpPlanG_free _ ?_ rfl (by rfl) (fun w' => ?_) ?_
          rotate_left
          · go_simp; with_reducible rfl
          simp only [Act.put, List.setIfInBounds_toArray, List.set_cons_zero, List.set_cons_succ]
          refine wpPlanG_free _ ?_ rfl (by rfl) (fun w' => ?_) ?_
          rotate_left
          · go_simp; with_reducible rfl
          simp only [Act.put, List.setIfInBounds_toArray, List.set_cons_zero, List.set_cons_succ]
          refine wpPlanG_nil ?_
          go_wp2_with fail
          go_ret
          exact ⟨rfl, HFR.out.trans (f6.trans fr8)⟩
end Go.Proofs.Ytmceknchmflgoaa
