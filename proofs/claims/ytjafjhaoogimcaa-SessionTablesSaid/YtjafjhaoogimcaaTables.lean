/- SessionTables: the walk. -/
import Derived.Test.YtjafjhaoogimcaaRefLeave
namespace Go.Proofs.Ytjafjhaoogimcaa
open Go.RowKit

structure TS (w : World) (t p : Nat) (S T : Nat → Prop) (q : List (Int × Int)) (dn : List Int) (k : Nat) (wr : World) : Prop where
  tab : TabAt wr S t q dn
  rt : RTab wr T p q dn
  dis : ∀ j, S j → ¬ T j
  ups : Up w.heap.size S
  upt : Up w.heap.size T
  fr : Fr NoB w wr
  cnt : q.length + dn.length ≤ k
section
variable {w wr W w2 w3 : World} {t p k : Nat} {S T T2 : Nat → Prop} {q q2 : List (Int × Int)} {dn dn2 : List Int}
theorem TS.keep (h : TS w t p S T q dn k wr) (hf : Fr NoB wr W) : TS w t p S T q dn k W :=
  ⟨h.tab.fr hf (fun _ _ h => h), h.rt.fr hf (fun _ _ h => h), h.dis, h.ups, h.upt, h.fr.trans hf, h.cnt⟩
theorem TS.more (h : TS w t p S T q dn k wr) : TS w t p S T q dn (k + 1) wr := ⟨h.tab, h.rt, h.dis, h.ups, h.upt, h.fr, by have := h.cnt; omega⟩
theorem TS.ref (h : TS w t p S T q dn k wr) (hf : Fr S wr w2) : RTab w2 T p q dn := h.rt.fr hf (fun j ht hs => h.dis j hs ht)
theorem TS.turn (h : TS w t p S T q dn k wr) (hn : TabAt w2 S t q2 dn2) (hf : Fr S wr w2) (hr : RTab w3 T2 p q2 dn2) (hf2 : Fr T w2 w3) (hg : Gr T T2 w2) (hc : q2.length + dn2.length ≤ k + 1) : TS w t p S T2 q2 dn2 (k + 1) w3 := by
  have z0 := h.fr.size
  have z1 := hf.size
  refine ⟨hn.fr hf2 h.dis, hr, fun j hs ht => ?_, h.ups, fun j hj => ?_, (h.fr.up hf h.ups).up hf2 h.upt, hc⟩
  · rcases hg j ht with h' | h'
    · exact h.dis j hs h'
    · have := hn.lt j hs; omega
  · rcases hg j hj with h' | h'
    · exact h.upt j h'
    · omega
end
def TSs (ss : List Step3) (w : World) (t p : Nat) (n : Nat) (v14 : Value) (wr : World) : Prop :=
  ∃ (k : Nat) (S T : Nat → Prop) (q : List (Int × Int)) (dn : List Int), k ≤ ss.length ∧ n = ss.length - k ∧ v14 = .int .i64 k ∧ TS w t p S T q dn k wr

set_option maxHeartbeats 16000000 in
set_option maxRecDepth 100000 in
theorem tables_any (A : Option Addr) (c : Nat) (ss : List Step3) (w : World) (h : StepsIn w w.heap.size A c ss) :
    Calls Try.prog 4 #[.slice A ss.length c] w (LawPost w) := by
  have hsl : ss.length ≤ 9223372036854775807 := by have := h.1.2.1; have := h.1.2.2.1; simp only [maxLen] at this; omega
  go_enter Try.func4, Try.ntmps4
  go_wp2_with fail
  refine (new_any _).mono ?_
  rintro e w1 ⟨t, S, ht, rfl, tb1, up1, fr1⟩
  have hk2 : Fr NoB w1 (w1.alloc (.cells #[.slice none 0 0, .slice none 0 0] 38)) := (Fr.refl _ _).alloc _
  have hz1 := fr1.size
  have hrt : RTab (w1.alloc (.cells #[.slice none 0 0, .slice none 0 0] 38)) (fun j => j = w1.heap.size) w1.heap.size [] [] :=
    ⟨⟨none, 0, none, 0, Bk.new _ _ _, Arr.none_ _ _ _, Arr.none_ _ _ _, fun k hk => (InB.none_ k hk).elim, fun k hk => (InB.none_ k hk).elim⟩, rfl, fun k hk => by simp; omega⟩
  have HN : Hid (TSs ss w t w1.heap.size ss.length (.int .i64 (0 : Nat)) (w1.alloc (.cells #[.slice none 0 0, .slice none 0 0] 38))) :=
    ⟨0, S, fun j => j = w1.heap.size, [], [], Nat.zero_le _, rfl, rfl, tb1.fr hk2 (fun _ _ h => h), hrt, fun j hs e => by have := tb1.lt j hs; omega, up1, fun j hj => by omega, fr1.trans hk2, Nat.le_refl _⟩
  clear tb1 up1 fr1 hk2 hrt hz1
  go_wp2_with fail
  generalize w1.alloc (.cells #[.slice none 0 0, .slice none 0 0] 38) = w2 at *
  generalize w1.heap.size = p at *
  go_loopg [14] ss.length (fun n v14 wr => TSs ss w t p n v14 wr)
  case atStart => exact HN.out
  case round =>
    obtain ⟨k, S, T, q, dn, hk, rfl, rfl, hw⟩ := hrel
    by_cases hlt : k < ss.length
    · obtain ⟨b, off, kd, ka, kb, hsk, rfl, x0, x1, x2, o1, o2, o3⟩ := (h.fr hw.fr).step hlt
      have hW : Fr NoB wr (wr.alloc (.cells #[.int .i64 kd, .int .i64 ka, .int .i64 kb] 27)) := (Fr.refl _ _).alloc _
      have HW := Lib.hid (hw.keep hW)
      have HB := Lib.hid (Bk.new wr 27 #[.int .i64 kd, .int .i64 ka, .int .i64 kb])
      have hnS : ¬ S wr.heap.size := fun h => by have := hw.tab.lt _ h; omega
      have hnT : ¬ T wr.heap.size := fun h => by have := hw.rt.lt _ h; omega
      have hcnt := hw.cnt
      have hfew := hw.tab.good.few
      clear hw hW hsk
      by_cases hbig : 2000 ≤ k
      · have d1 : decide ((2000 : Int) ≤ (k : Int)) = true := decide_eq_true (by omega)
        go_wp2_with fail
        refine (speaks_any _).mono ?_
        rintro e w9 ⟨rfl, fr9⟩
        go_wp2_with fail
        go_ret
        exact ⟨rfl, HW.out.fr.trans fr9⟩
      have db : decide ((2000 : Int) ≤ (k : Int)) = false := decide_eq_false (by omega)
      by_cases hk0 : kd = 0
      · subst hk0
        go_wp2_with fail
        have d1 : (wr.alloc (.cells #[.int .i64 0, .int .i64 ka, .int .i64 kb] 27)).cell? ⟨wr.heap.size, 1, none⟩ = some (.int .i64 ka) := HB.out.cell 1
        have d2 : (wr.alloc (.cells #[.int .i64 0, .int .i64 ka, .int .i64 kb] 27)).cell? ⟨wr.heap.size, 2, none⟩ = some (.int .i64 kb) := HB.out.cell 2
        generalize hWW : wr.alloc (.cells #[.int .i64 0, .int .i64 ka, .int .i64 kb] 27) = WW at *
        clear hWW
        refine wp_region_plan 13 (fun w' => w'.cell? ⟨wr.heap.size, 1, none⟩ = some (.int .i64 ka) ∧ w'.cell? ⟨wr.heap.size, 2, none⟩ = some (.int .i64 kb))
          [(0, 0), (1, 0), (2, 1), (3, 0), (4, 1), (6, 0), (7, 0), (8, 1), (9, 0), (10, 1), (5, 2), (11, 2), (12, 0)] (by kernel_rfl) (by kernel_rfl) (fun _ _ _ _ _ h => h) ⟨d1, d2⟩ ?_
        refine wpPlan_free _ ?_ rfl (by rfl) (fun w' => ?_) ?_
        rotate_left
        · go_simp; with_reducible rfl
        simp only [Act.put, List.setIfInBounds_toArray, List.set_cons_zero, List.set_cons_succ]
        refine wpPlan_free _ ?_ rfl (by rfl) (fun w' => ?_) ?_
        rotate_left
        · go_simp; with_reducible rfl
        simp only [Act.put, List.setIfInBounds_toArray, List.set_cons_zero, List.set_cons_succ]
        refine wpPlan_held _ ?_ rfl (by rfl) (fun w' hS => ?_) ?_
        rotate_left
        · obtain ⟨e0, e1⟩ := hS; go_simp; with_reducible rfl
        simp only [Act.put, List.setIfInBounds_toArray, List.set_cons_zero, List.set_cons_succ]
        refine wpPlan_free _ ?_ rfl (by rfl) (fun w' => ?_) ?_
        rotate_left
        · go_simp; with_reducible rfl
        simp only [Act.put, List.setIfInBounds_toArray, List.set_cons_zero, List.set_cons_succ]
        refine wpPlan_held _ ?_ rfl (by rfl) (fun w' hS => ?_) ?_
        rotate_left
        · obtain ⟨e0, e1⟩ := hS; go_simp; with_reducible rfl
        simp only [Act.put, List.setIfInBounds_toArray, List.set_cons_zero, List.set_cons_succ]
        refine wpPlan_free _ ?_ rfl (by rfl) (fun w' => ?_) ?_
        rotate_left
        · go_simp; with_reducible rfl
        simp only [Act.put, List.setIfInBounds_toArray, List.set_cons_zero, List.set_cons_succ]
        refine wpPlan_free _ ?_ rfl (by rfl) (fun w' => ?_) ?_
        rotate_left
        · go_simp; with_reducible rfl
        simp only [Act.put, List.setIfInBounds_toArray, List.set_cons_zero, List.set_cons_succ]
        refine wpPlan_held _ ?_ rfl (by rfl) (fun w' hS => ?_) ?_
        rotate_left
        · obtain ⟨e0, e1⟩ := hS; go_simp; with_reducible rfl
        simp only [Act.put, List.setIfInBounds_toArray, List.set_cons_zero, List.set_cons_succ]
        refine wpPlan_free _ ?_ rfl (by rfl) (fun w' => ?_) ?_
        rotate_left
        · go_simp; with_reducible rfl
        simp only [Act.put, List.setIfInBounds_toArray, List.set_cons_zero, List.set_cons_succ]
        refine wpPlan_held _ ?_ rfl (by rfl) (fun w' hS => ?_) ?_
        rotate_left
        · obtain ⟨e0, e1⟩ := hS; go_simp; with_reducible rfl
        simp only [Act.put, List.setIfInBounds_toArray, List.set_cons_zero, List.set_cons_succ]
        refine wpPlan_do _ rfl (fun K hK => ?_)
        go_simp
        refine (wait_any ka kb _ (HW.out.tab.fr ((Fr.refl NoB _).drew) (fun _ _ h => h))).mono ?_
        rintro e w3 ⟨rfl, tb3, fr3⟩
        have fr3' : Fr S WW w3 := ((Fr.refl S _).drew).trans fr3
        have b3 := HB.out.fr fr3' hnS
        have y1 : w3.cell? ⟨wr.heap.size, 1, none⟩ = some (.int .i64 ka) := b3.cell 1
        have y2 : w3.cell? ⟨wr.heap.size, 2, none⟩ = some (.int .i64 kb) := b3.cell 2
        refine hK _ _ (fun _ => ⟨y1, y2⟩) ?_
        clear hK K
        have rt3 := HW.out.ref fr3'
        refine wpPlan_do _ rfl (fun K hK => ?_)
        go_simp
        refine (refWait_any ka kb _ rt3 hfew).mono ?_
        rintro e w4 ⟨T4, rfl, rt4, fr4, gr4⟩
        have yb := fr4.cell_some y1 hnT
        have yb2 := fr4.cell_some y2 hnT
        refine hK _ _ (fun _ => ⟨yb, yb2⟩) ?_
        clear hK K
        refine wpPlan_free _ ?_ rfl (by rfl) (fun w' => ?_) ?_
        rotate_left
        · go_simp; with_reducible rfl
        simp only [Act.put, List.setIfInBounds_toArray, List.set_cons_zero, List.set_cons_succ]
        refine wpPlan_nil ?_
        have hlen := waitF_len q dn ka kb
        have HT := Lib.hid (HW.out.turn tb3 fr3' rt4 fr4 gr4 (by omega))
        clear tb3 fr3 fr3' rt4 fr4 gr4 b3 y1 y2 rt3 hlen yb2
        generalize (waitF q dn ka kb).1 = r1 at *
        generalize (waitF q dn ka kb).2 = q4 at *
        obtain ⟨dn4, hdn4⟩ : ∃ dn4, dn4 = dn := ⟨_, rfl⟩
        rw [← hdn4] at HT
        clear hdn4
        obtain ⟨⟨L4, l4, D4, d4, hb4, _⟩, _⟩ := HT.out.rt
        have yp : w4.cell? ⟨p, 0, none⟩ = some (.slice L4 q4.length l4) := hb4.cell 0
        clear hb4
        go_wp2_with fail
        refine wp_region_plan 19 (fun w' => w'.cell? ⟨wr.heap.size, 1, none⟩ = some (.int .i64 ka) ∧ w'.cell? ⟨p, 0, none⟩ = some (.slice L4 q4.length l4)) [(0, 0), (1, 0), (2, 1), (4, 0), (5, 0), (6, 1), (3, 2), (7, 2), (8, 0), (9, 0), (10, 0), (12, 0), (13, 0), (14, 0), (15, 1), (16, 0), (11, 2), (17, 0), (18, 0)] (by kernel_rfl) (by kernel_rfl) (fun _ _ _ _ _ h => h) ⟨yb, yp⟩ ?_
        refine wpPlan_free _ ?_ rfl (by rfl) (fun w' => ?_) ?_
        rotate_left
        · go_simp; with_reducible rfl
        simp only [Act.put, List.setIfInBounds_toArray, List.set_cons_zero, List.set_cons_succ]
        refine wpPlan_free _ ?_ rfl (by rfl) (fun w' => ?_) ?_
        rotate_left
        · go_simp; with_reducible rfl
        simp only [Act.put, List.setIfInBounds_toArray, List.set_cons_zero, List.set_cons_succ]
        refine wpPlan_held _ ?_ rfl (by rfl) (fun w' hS => ?_) ?_
        rotate_left
        · obtain ⟨e0, e1⟩ := hS; go_simp; with_reducible rfl
        simp only [Act.put, List.setIfInBounds_toArray, List.set_cons_zero, List.set_cons_succ]
        refine wpPlan_free _ ?_ rfl (by rfl) (fun w' => ?_) ?_
        rotate_left
        · go_simp; with_reducible rfl
        simp only [Act.put, List.setIfInBounds_toArray, List.set_cons_zero, List.set_cons_succ]
        refine wpPlan_free _ ?_ rfl (by rfl) (fun w' => ?_) ?_
        rotate_left
        · go_simp; with_reducible rfl
        simp only [Act.put, List.setIfInBounds_toArray, List.set_cons_zero, List.set_cons_succ]
        refine wpPlan_held _ ?_ rfl (by rfl) (fun w' hS => ?_) ?_
        rotate_left
        · obtain ⟨e0, e1⟩ := hS; go_simp; with_reducible rfl
        simp only [Act.put, List.setIfInBounds_toArray, List.set_cons_zero, List.set_cons_succ]
        refine wpPlan_do _ rfl (fun K hK => ?_)
        go_simp
        refine (state_any ka _ (HT.out.tab.fr ((Fr.refl NoB _).drew) (fun _ _ h => h)) o2).mono ?_
        rintro e w5 ⟨rfl, rfl⟩
        refine hK _ _ (fun _ => ⟨yb, yp⟩) ?_
        clear hK K
        refine wpPlan_do _ rfl (fun K hK => ?_)
        go_simp
        refine (refState_any ka _ (HT.out.rt.fr ((Fr.refl NoB _).drew) (fun _ _ h => h))).mono ?_
        rintro e w5 ⟨rfl, fr5⟩
        have g5 : Fr NoB w4 w5 := ((Fr.refl NoB _).drew).trans fr5
        have yb5 := g5.cell_some yb (fun h => h)
        have yp5 := g5.cell_some yp (fun h => h)
        have H5 := Lib.hid (HT.out.keep g5)
        refine hK _ _ (fun _ => ⟨yb5, yp5⟩) ?_
        clear hK K fr5 g5
        generalize stateF q4 dn4 ka = st at *
        refine wpPlan_free _ ?_ rfl (by rfl) (fun w' => ?_) ?_
        rotate_left
        · go_simp; with_reducible rfl
        simp only [Act.put, List.setIfInBounds_toArray, List.set_cons_zero, List.set_cons_succ]
        refine wpPlan_free _ ?_ rfl (by rfl) (fun w' => ?_) ?_
        rotate_left
        · go_simp; with_reducible rfl
        simp only [Act.put, List.setIfInBounds_toArray, List.set_cons_zero, List.set_cons_succ]
        refine wpPlan_free _ ?_ rfl (by rfl) (fun w' => ?_) ?_
        rotate_left
        · go_simp; with_reducible rfl
        simp only [Act.put, List.setIfInBounds_toArray, List.set_cons_zero, List.set_cons_succ]
        refine wpPlan_free _ ?_ rfl (by rfl) (fun w' => ?_) ?_
        rotate_left
        · go_simp; with_reducible rfl
        simp only [Act.put, List.setIfInBounds_toArray, List.set_cons_zero, List.set_cons_succ]
        refine wpPlan_free _ ?_ rfl (by rfl) (fun w' => ?_) ?_
        rotate_left
        · go_simp; with_reducible rfl
        simp only [Act.put, List.setIfInBounds_toArray, List.set_cons_zero, List.set_cons_succ]
        refine wpPlan_free _ ?_ rfl (by rfl) (fun w' => ?_) ?_
        rotate_left
        · go_simp; with_reducible rfl
        simp only [Act.put, List.setIfInBounds_toArray, List.set_cons_zero, List.set_cons_succ]
        refine wpPlan_held _ ?_ rfl (by rfl) (fun w' hS => ?_) ?_
        rotate_left
        · obtain ⟨e0, e1⟩ := hS; go_simp; with_reducible rfl
        simp only [Act.put, List.setIfInBounds_toArray, List.set_cons_zero, List.set_cons_succ]
        refine wpPlan_free _ ?_ rfl (by rfl) (fun w' => ?_) ?_
        rotate_left
        · go_simp; with_reducible rfl
        simp only [Act.put, List.setIfInBounds_toArray, List.set_cons_zero, List.set_cons_succ]
        refine wpPlan_do _ rfl (fun K hK => ?_)
        go_simp
        refine (waiting_any _ H5.out.tab).mono ?_
        rintro e w6 ⟨rfl, rfl⟩
        refine hK _ _ (fun _ => ⟨yb5, yp5⟩) ?_
        clear hK K
        refine wpPlan_free _ ?_ rfl (by rfl) (fun w' => ?_) ?_
        rotate_left
        · go_simp; with_reducible rfl
        simp only [Act.put, List.setIfInBounds_toArray, List.set_cons_zero, List.set_cons_succ]
        refine wpPlan_free _ ?_ rfl (by rfl) (fun w' => ?_) ?_
        rotate_left
        · go_simp; with_reducible rfl
        simp only [Act.put, List.setIfInBounds_toArray, List.set_cons_zero, List.set_cons_succ]
        refine wpPlan_nil ?_
        go_wp2_with fail
        go_roundg (ss.length - (k + 1))
        case measure => omega
        case rel => exact ⟨k + 1, S, _, q4, dn4, by omega, rfl, by go_num, H5.out⟩
      have hk0' : (kd == 0) = false := by simp [hk0]
      by_cases hk1 : kd = 1
      · subst hk1
        go_wp2_with fail
        have d1 : (wr.alloc (.cells #[.int .i64 1, .int .i64 ka, .int .i64 kb] 27)).cell? ⟨wr.heap.size, 1, none⟩ = some (.int .i64 ka) := HB.out.cell 1
        have d2 : (wr.alloc (.cells #[.int .i64 1, .int .i64 ka, .int .i64 kb] 27)).cell? ⟨wr.heap.size, 2, none⟩ = some (.int .i64 kb) := HB.out.cell 2
        generalize hWW : wr.alloc (.cells #[.int .i64 1, .int .i64 ka, .int .i64 kb] 27) = WW at *
        clear hWW
        refine wp_region_plan 13 (fun w' => w'.cell? ⟨wr.heap.size, 1, none⟩ = some (.int .i64 ka) ∧ w'.cell? ⟨wr.heap.size, 2, none⟩ = some (.int .i64 kb))
          [(0, 0), (1, 0), (2, 1), (3, 0), (4, 1), (6, 0), (7, 0), (8, 1), (9, 0), (10, 1), (5, 2), (11, 2), (12, 0)] (by kernel_rfl) (by kernel_rfl) (fun _ _ _ _ _ h => h) ⟨d1, d2⟩ ?_
        refine wpPlan_free _ ?_ rfl (by rfl) (fun w' => ?_) ?_
        rotate_left
        · go_simp; with_reducible rfl
        simp only [Act.put, List.setIfInBounds_toArray, List.set_cons_zero, List.set_cons_succ]
        refine wpPlan_free _ ?_ rfl (by rfl) (fun w' => ?_) ?_
        rotate_left
        · go_simp; with_reducible rfl
        simp only [Act.put, List.setIfInBounds_toArray, List.set_cons_zero, List.set_cons_succ]
        refine wpPlan_held _ ?_ rfl (by rfl) (fun w' hS => ?_) ?_
        rotate_left
        · obtain ⟨e0, e1⟩ := hS; go_simp; with_reducible rfl
        simp only [Act.put, List.setIfInBounds_toArray, List.set_cons_zero, List.set_cons_succ]
        refine wpPlan_free _ ?_ rfl (by rfl) (fun w' => ?_) ?_
        rotate_left
        · go_simp; with_reducible rfl
        simp only [Act.put, List.setIfInBounds_toArray, List.set_cons_zero, List.set_cons_succ]
        refine wpPlan_held _ ?_ rfl (by rfl) (fun w' hS => ?_) ?_
        rotate_left
        · obtain ⟨e0, e1⟩ := hS; go_simp; with_reducible rfl
        simp only [Act.put, List.setIfInBounds_toArray, List.set_cons_zero, List.set_cons_succ]
        refine wpPlan_free _ ?_ rfl (by rfl) (fun w' => ?_) ?_
        rotate_left
        · go_simp; with_reducible rfl
        simp only [Act.put, List.setIfInBounds_toArray, List.set_cons_zero, List.set_cons_succ]
        refine wpPlan_free _ ?_ rfl (by rfl) (fun w' => ?_) ?_
        rotate_left
        · go_simp; with_reducible rfl
        simp only [Act.put, List.setIfInBounds_toArray, List.set_cons_zero, List.set_cons_succ]
        refine wpPlan_held _ ?_ rfl (by rfl) (fun w' hS => ?_) ?_
        rotate_left
        · obtain ⟨e0, e1⟩ := hS; go_simp; with_reducible rfl
        simp only [Act.put, List.setIfInBounds_toArray, List.set_cons_zero, List.set_cons_succ]
        refine wpPlan_free _ ?_ rfl (by rfl) (fun w' => ?_) ?_
        rotate_left
        · go_simp; with_reducible rfl
        simp only [Act.put, List.setIfInBounds_toArray, List.set_cons_zero, List.set_cons_succ]
        refine wpPlan_held _ ?_ rfl (by rfl) (fun w' hS => ?_) ?_
        rotate_left
        · obtain ⟨e0, e1⟩ := hS; go_simp; with_reducible rfl
        simp only [Act.put, List.setIfInBounds_toArray, List.set_cons_zero, List.set_cons_succ]
        refine wpPlan_do _ rfl (fun K hK => ?_)
        go_simp
        refine (wait_any ka kb _ (HW.out.tab.fr ((Fr.refl NoB _).drew) (fun _ _ h => h))).mono ?_
        rintro e w3 ⟨rfl, tb3, fr3⟩
        have fr3' : Fr S WW w3 := ((Fr.refl S _).drew).trans fr3
        have b3 := HB.out.fr fr3' hnS
        have y1 : w3.cell? ⟨wr.heap.size, 1, none⟩ = some (.int .i64 ka) := b3.cell 1
        have y2 : w3.cell? ⟨wr.heap.size, 2, none⟩ = some (.int .i64 kb) := b3.cell 2
        refine hK _ _ (fun _ => ⟨y1, y2⟩) ?_
        clear hK K
        have rt3 := HW.out.ref fr3'
        refine wpPlan_do _ rfl (fun K hK => ?_)
        go_simp
        refine (refWait_any ka kb _ rt3 hfew).mono ?_
        rintro e w4 ⟨T4, rfl, rt4, fr4, gr4⟩
        have yb := fr4.cell_some y1 hnT
        have yb2 := fr4.cell_some y2 hnT
        refine hK _ _ (fun _ => ⟨yb, yb2⟩) ?_
        clear hK K
        refine wpPlan_free _ ?_ rfl (by rfl) (fun w' => ?_) ?_
        rotate_left
        · go_simp; with_reducible rfl
        simp only [Act.put, List.setIfInBounds_toArray, List.set_cons_zero, List.set_cons_succ]
        refine wpPlan_nil ?_
        have hlen := waitF_len q dn ka kb
        have HT := Lib.hid (HW.out.turn tb3 fr3' rt4 fr4 gr4 (by omega))
        clear tb3 fr3 fr3' rt4 fr4 gr4 b3 y1 y2 rt3 hlen yb2
        generalize (waitF q dn ka kb).1 = r1 at *
        generalize (waitF q dn ka kb).2 = q4 at *
        obtain ⟨dn4, hdn4⟩ : ∃ dn4, dn4 = dn := ⟨_, rfl⟩
        rw [← hdn4] at HT
        clear hdn4
        obtain ⟨⟨L4, l4, D4, d4, hb4, _⟩, _⟩ := HT.out.rt
        have yp : w4.cell? ⟨p, 0, none⟩ = some (.slice L4 q4.length l4) := hb4.cell 0
        clear hb4
        go_wp2_with fail
        refine wp_region_plan 19 (fun w' => w'.cell? ⟨wr.heap.size, 1, none⟩ = some (.int .i64 ka) ∧ w'.cell? ⟨p, 0, none⟩ = some (.slice L4 q4.length l4)) [(0, 0), (1, 0), (2, 1), (4, 0), (5, 0), (6, 1), (3, 2), (7, 2), (8, 0), (9, 0), (10, 0), (12, 0), (13, 0), (14, 0), (15, 1), (16, 0), (11, 2), (17, 0), (18, 0)] (by kernel_rfl) (by kernel_rfl) (fun _ _ _ _ _ h => h) ⟨yb, yp⟩ ?_
        refine wpPlan_free _ ?_ rfl (by rfl) (fun w' => ?_) ?_
        rotate_left
        · go_simp; with_reducible rfl
        simp only [Act.put, List.setIfInBounds_toArray, List.set_cons_zero, List.set_cons_succ]
        refine wpPlan_free _ ?_ rfl (by rfl) (fun w' => ?_) ?_
        rotate_left
        · go_simp; with_reducible rfl
        simp only [Act.put, List.setIfInBounds_toArray, List.set_cons_zero, List.set_cons_succ]
        refine wpPlan_held _ ?_ rfl (by rfl) (fun w' hS => ?_) ?_
        rotate_left
        · obtain ⟨e0, e1⟩ := hS; go_simp; with_reducible rfl
        simp only [Act.put, List.setIfInBounds_toArray, List.set_cons_zero, List.set_cons_succ]
        refine wpPlan_free _ ?_ rfl (by rfl) (fun w' => ?_) ?_
        rotate_left
        · go_simp; with_reducible rfl
        simp only [Act.put, List.setIfInBounds_toArray, List.set_cons_zero, List.set_cons_succ]
        refine wpPlan_free _ ?_ rfl (by rfl) (fun w' => ?_) ?_
        rotate_left
        · go_simp; with_reducible rfl
        simp only [Act.put, List.setIfInBounds_toArray, List.set_cons_zero, List.set_cons_succ]
        refine wpPlan_held _ ?_ rfl (by rfl) (fun w' hS => ?_) ?_
        rotate_left
        · obtain ⟨e0, e1⟩ := hS; go_simp; with_reducible rfl
        simp only [Act.put, List.setIfInBounds_toArray, List.set_cons_zero, List.set_cons_succ]
        refine wpPlan_do _ rfl (fun K hK => ?_)
        go_simp
        refine (state_any ka _ (HT.out.tab.fr ((Fr.refl NoB _).drew) (fun _ _ h => h)) o2).mono ?_
        rintro e w5 ⟨rfl, rfl⟩
        refine hK _ _ (fun _ => ⟨yb, yp⟩) ?_
        clear hK K
        refine wpPlan_do _ rfl (fun K hK => ?_)
        go_simp
        refine (refState_any ka _ (HT.out.rt.fr ((Fr.refl NoB _).drew) (fun _ _ h => h))).mono ?_
        rintro e w5 ⟨rfl, fr5⟩
        have g5 : Fr NoB w4 w5 := ((Fr.refl NoB _).drew).trans fr5
        have yb5 := g5.cell_some yb (fun h => h)
        have yp5 := g5.cell_some yp (fun h => h)
        have H5 := Lib.hid (HT.out.keep g5)
        refine hK _ _ (fun _ => ⟨yb5, yp5⟩) ?_
        clear hK K fr5 g5
        generalize stateF q4 dn4 ka = st at *
        refine wpPlan_free _ ?_ rfl (by rfl) (fun w' => ?_) ?_
        rotate_left
        · go_simp; with_reducible rfl
        simp only [Act.put, List.setIfInBounds_toArray, List.set_cons_zero, List.set_cons_succ]
        refine wpPlan_free _ ?_ rfl (by rfl) (fun w' => ?_) ?_
        rotate_left
        · go_simp; with_reducible rfl
        simp only [Act.put, List.setIfInBounds_toArray, List.set_cons_zero, List.set_cons_succ]
        refine wpPlan_free _ ?_ rfl (by rfl) (fun w' => ?_) ?_
        rotate_left
        · go_simp; with_reducible rfl
        simp only [Act.put, List.setIfInBounds_toArray, List.set_cons_zero, List.set_cons_succ]
        refine wpPlan_free _ ?_ rfl (by rfl) (fun w' => ?_) ?_
        rotate_left
        · go_simp; with_reducible rfl
        simp only [Act.put, List.setIfInBounds_toArray, List.set_cons_zero, List.set_cons_succ]
        refine wpPlan_free _ ?_ rfl (by rfl) (fun w' => ?_) ?_
        rotate_left
        · go_simp; with_reducible rfl
        simp only [Act.put, List.setIfInBounds_toArray, List.set_cons_zero, List.set_cons_succ]
        refine wpPlan_free _ ?_ rfl (by rfl) (fun w' => ?_) ?_
        rotate_left
        · go_simp; with_reducible rfl
        simp only [Act.put, List.setIfInBounds_toArray, List.set_cons_zero, List.set_cons_succ]
        refine wpPlan_held _ ?_ rfl (by rfl) (fun w' hS => ?_) ?_
        rotate_left
        · obtain ⟨e0, e1⟩ := hS; go_simp; with_reducible rfl
        simp only [Act.put, List.setIfInBounds_toArray, List.set_cons_zero, List.set_cons_succ]
        refine wpPlan_free _ ?_ rfl (by rfl) (fun w' => ?_) ?_
        rotate_left
        · go_simp; with_reducible rfl
        simp only [Act.put, List.setIfInBounds_toArray, List.set_cons_zero, List.set_cons_succ]
        refine wpPlan_do _ rfl (fun K hK => ?_)
        go_simp
        refine (waiting_any _ H5.out.tab).mono ?_
        rintro e w6 ⟨rfl, rfl⟩
        refine hK _ _ (fun _ => ⟨yb5, yp5⟩) ?_
        clear hK K
        refine wpPlan_free _ ?_ rfl (by rfl) (fun w' => ?_) ?_
        rotate_left
        · go_simp; with_reducible rfl
        simp only [Act.put, List.setIfInBounds_toArray, List.set_cons_zero, List.set_cons_succ]
        refine wpPlan_free _ ?_ rfl (by rfl) (fun w' => ?_) ?_
        rotate_left
        · go_simp; with_reducible rfl
        simp only [Act.put, List.setIfInBounds_toArray, List.set_cons_zero, List.set_cons_succ]
        refine wpPlan_nil ?_
        go_wp2_with fail
        go_roundg (ss.length - (k + 1))
        case measure => omega
        case rel => exact ⟨k + 1, S, _, q4, dn4, by omega, rfl, by go_num, H5.out⟩
      have hk1' : (kd == 1) = false := by simp [hk1]
      by_cases hk2 : kd = 2
      · subst hk2
        go_wp2_with fail
        have d1 : (wr.alloc (.cells #[.int .i64 2, .int .i64 ka, .int .i64 kb] 27)).cell? ⟨wr.heap.size, 1, none⟩ = some (.int .i64 ka) := HB.out.cell 1
        have d2 : (wr.alloc (.cells #[.int .i64 2, .int .i64 ka, .int .i64 kb] 27)).cell? ⟨wr.heap.size, 2, none⟩ = some (.int .i64 kb) := HB.out.cell 2
        generalize hWW : wr.alloc (.cells #[.int .i64 2, .int .i64 ka, .int .i64 kb] 27) = WW at *
        clear hWW
        refine wp_region_plan 10 (fun w' => w'.cell? ⟨wr.heap.size, 1, none⟩ = some (.int .i64 ka) ∧ w'.cell? ⟨wr.heap.size, 2, none⟩ = some (.int .i64 kb))
          [(0, 0), (1, 0), (2, 1), (4, 0), (5, 0), (6, 1), (3, 2), (7, 2), (8, 2), (9, 0)] (by kernel_rfl) (by kernel_rfl) (fun _ _ _ _ _ h => h) ⟨d1, d2⟩ ?_
        refine wpPlan_free _ ?_ rfl (by rfl) (fun w' => ?_) ?_
        rotate_left
        · go_simp; with_reducible rfl
        simp only [Act.put, List.setIfInBounds_toArray, List.set_cons_zero, List.set_cons_succ]
        refine wpPlan_free _ ?_ rfl (by rfl) (fun w' => ?_) ?_
        rotate_left
        · go_simp; with_reducible rfl
        simp only [Act.put, List.setIfInBounds_toArray, List.set_cons_zero, List.set_cons_succ]
        refine wpPlan_held _ ?_ rfl (by rfl) (fun w' hS => ?_) ?_
        rotate_left
        · obtain ⟨e0, e1⟩ := hS; go_simp; with_reducible rfl
        simp only [Act.put, List.setIfInBounds_toArray, List.set_cons_zero, List.set_cons_succ]
        refine wpPlan_free _ ?_ rfl (by rfl) (fun w' => ?_) ?_
        rotate_left
        · go_simp; with_reducible rfl
        simp only [Act.put, List.setIfInBounds_toArray, List.set_cons_zero, List.set_cons_succ]
        refine wpPlan_free _ ?_ rfl (by rfl) (fun w' => ?_) ?_
        rotate_left
        · go_simp; with_reducible rfl
        simp only [Act.put, List.setIfInBounds_toArray, List.set_cons_zero, List.set_cons_succ]
        refine wpPlan_held _ ?_ rfl (by rfl) (fun w' hS => ?_) ?_
        rotate_left
        · obtain ⟨e0, e1⟩ := hS; go_simp; with_reducible rfl
        simp only [Act.put, List.setIfInBounds_toArray, List.set_cons_zero, List.set_cons_succ]
        refine wpPlan_do _ rfl (fun K hK => ?_)
        go_simp
        refine (settle_any kb _ (HW.out.tab.fr ((Fr.refl NoB _).drew) (fun _ _ h => h)) (by omega)).mono ?_
        rintro e w3 ⟨A3, c3, rfl, arr3, in3, tb3, fr3⟩
        have fr3' : Fr S WW w3 := ((Fr.refl S _).drew).trans fr3
        have b3 := HB.out.fr fr3' hnS
        have y1 : w3.cell? ⟨wr.heap.size, 1, none⟩ = some (.int .i64 ka) := b3.cell 1
        have y2 : w3.cell? ⟨wr.heap.size, 2, none⟩ = some (.int .i64 kb) := b3.cell 2
        have nT3 : ∀ j, InB A3 j → ¬ T j := fun j hj ht => by
          have h1 := in3 j hj
          have h2 := HW.out.rt.lt j ht
          have h3 : WW.drew.heap.size = WW.heap.size := rfl
          omega
        refine hK _ _ (fun _ => ⟨y1, y2⟩) ?_
        clear hK K
        have rt3 := HW.out.ref fr3'
        refine wpPlan_do _ rfl (fun K hK => ?_)
        go_simp
        refine (refSettle_any kb _ rt3 hfew (by omega)).mono ?_
        rintro e w4 ⟨A4, c4, T4, rfl, arr4, rt4, fr4, gr4⟩
        have yb := fr4.cell_some y1 hnT
        have yb2 := fr4.cell_some y2 hnT
        refine hK _ _ (fun _ => ⟨yb, yb2⟩) ?_
        clear hK K
        have arr34 := arr3.fr fr4 nT3
        refine wpPlan_do _ rfl (fun K hK => ?_)
        go_simp
        refine (ints_same _ arr34.rd arr4.rd).mono ?_
        rintro e w5 ⟨rfl, n5, rfl⟩
        refine hK _ _ (fun _ => ⟨yb, yb2⟩) ?_
        clear hK K
        refine wpPlan_free _ ?_ rfl (by rfl) (fun w' => ?_) ?_
        rotate_left
        · go_simp; with_reducible rfl
        simp only [Act.put, List.setIfInBounds_toArray, List.set_cons_zero, List.set_cons_succ]
        refine wpPlan_nil ?_
        have hlen := up_dn_len q kb
        have HT := Lib.hid ((HW.out.turn tb3 fr3' rt4 fr4 gr4 (by rw [List.length_append]; omega)).keep ((Fr.refl NoB _).drewN n5))
        clear tb3 fr3 fr3' rt4 fr4 gr4 b3 y1 y2 rt3 hlen yb2 arr3 in3 nT3 arr34 arr4
        replace yb : (w4.drewN n5).cell? ⟨wr.heap.size, 1, none⟩ = some (.int .i64 ka) := yb
        generalize dn ++ upF q kb = dn4 at *
        generalize dnF q kb = q4 at *
        generalize w4.drewN n5 = w4 at *
        obtain ⟨⟨L4, l4, D4, d4, hb4, _⟩, _⟩ := HT.out.rt
        have yp : w4.cell? ⟨p, 0, none⟩ = some (.slice L4 q4.length l4) := hb4.cell 0
        clear hb4
        go_wp2_with fail
        refine wp_region_plan 19 (fun w' => w'.cell? ⟨wr.heap.size, 1, none⟩ = some (.int .i64 ka) ∧ w'.cell? ⟨p, 0, none⟩ = some (.slice L4 q4.length l4)) [(0, 0), (1, 0), (2, 1), (4, 0), (5, 0), (6, 1), (3, 2), (7, 2), (8, 0), (9, 0), (10, 0), (12, 0), (13, 0), (14, 0), (15, 1), (16, 0), (11, 2), (17, 0), (18, 0)] (by kernel_rfl) (by kernel_rfl) (fun _ _ _ _ _ h => h) ⟨yb, yp⟩ ?_
        refine wpPlan_free _ ?_ rfl (by rfl) (fun w' => ?_) ?_
        rotate_left
        · go_simp; with_reducible rfl
        simp only [Act.put, List.setIfInBounds_toArray, List.set_cons_zero, List.set_cons_succ]
        refine wpPlan_free _ ?_ rfl (by rfl) (fun w' => ?_) ?_
        rotate_left
        · go_simp; with_reducible rfl
        simp only [Act.put, List.setIfInBounds_toArray, List.set_cons_zero, List.set_cons_succ]
        refine wpPlan_held _ ?_ rfl (by rfl) (fun w' hS => ?_) ?_
        rotate_left
        · obtain ⟨e0, e1⟩ := hS; go_simp; with_reducible rfl
        simp only [Act.put, List.setIfInBounds_toArray, List.set_cons_zero, List.set_cons_succ]
        refine wpPlan_free _ ?_ rfl (by rfl) (fun w' => ?_) ?_
        rotate_left
        · go_simp; with_reducible rfl
        simp only [Act.put, List.setIfInBounds_toArray, List.set_cons_zero, List.set_cons_succ]
        refine wpPlan_free _ ?_ rfl (by rfl) (fun w' => ?_) ?_
        rotate_left
        · go_simp; with_reducible rfl
        simp only [Act.put, List.setIfInBounds_toArray, List.set_cons_zero, List.set_cons_succ]
        refine wpPlan_held _ ?_ rfl (by rfl) (fun w' hS => ?_) ?_
        rotate_left
        · obtain ⟨e0, e1⟩ := hS; go_simp; with_reducible rfl
        simp only [Act.put, List.setIfInBounds_toArray, List.set_cons_zero, List.set_cons_succ]
        refine wpPlan_do _ rfl (fun K hK => ?_)
        go_simp
        refine (state_any ka _ (HT.out.tab.fr ((Fr.refl NoB _).drew) (fun _ _ h => h)) o2).mono ?_
        rintro e w5 ⟨rfl, rfl⟩
        refine hK _ _ (fun _ => ⟨yb, yp⟩) ?_
        clear hK K
        refine wpPlan_do _ rfl (fun K hK => ?_)
        go_simp
        refine (refState_any ka _ (HT.out.rt.fr ((Fr.refl NoB _).drew) (fun _ _ h => h))).mono ?_
        rintro e w5 ⟨rfl, fr5⟩
        have g5 : Fr NoB w4 w5 := ((Fr.refl NoB _).drew).trans fr5
        have yb5 := g5.cell_some yb (fun h => h)
        have yp5 := g5.cell_some yp (fun h => h)
        have H5 := Lib.hid (HT.out.keep g5)
        refine hK _ _ (fun _ => ⟨yb5, yp5⟩) ?_
        clear hK K fr5 g5
        generalize stateF q4 dn4 ka = st at *
        refine wpPlan_free _ ?_ rfl (by rfl) (fun w' => ?_) ?_
        rotate_left
        · go_simp; with_reducible rfl
        simp only [Act.put, List.setIfInBounds_toArray, List.set_cons_zero, List.set_cons_succ]
        refine wpPlan_free _ ?_ rfl (by rfl) (fun w' => ?_) ?_
        rotate_left
        · go_simp; with_reducible rfl
        simp only [Act.put, List.setIfInBounds_toArray, List.set_cons_zero, List.set_cons_succ]
        refine wpPlan_free _ ?_ rfl (by rfl) (fun w' => ?_) ?_
        rotate_left
        · go_simp; with_reducible rfl
        simp only [Act.put, List.setIfInBounds_toArray, List.set_cons_zero, List.set_cons_succ]
        refine wpPlan_free _ ?_ rfl (by rfl) (fun w' => ?_) ?_
        rotate_left
        · go_simp; with_reducible rfl
        simp only [Act.put, List.setIfInBounds_toArray, List.set_cons_zero, List.set_cons_succ]
        refine wpPlan_free _ ?_ rfl (by rfl) (fun w' => ?_) ?_
        rotate_left
        · go_simp; with_reducible rfl
        simp only [Act.put, List.setIfInBounds_toArray, List.set_cons_zero, List.set_cons_succ]
        refine wpPlan_free _ ?_ rfl (by rfl) (fun w' => ?_) ?_
        rotate_left
        · go_simp; with_reducible rfl
        simp only [Act.put, List.setIfInBounds_toArray, List.set_cons_zero, List.set_cons_succ]
        refine wpPlan_held _ ?_ rfl (by rfl) (fun w' hS => ?_) ?_
        rotate_left
        · obtain ⟨e0, e1⟩ := hS; go_simp; with_reducible rfl
        simp only [Act.put, List.setIfInBounds_toArray, List.set_cons_zero, List.set_cons_succ]
        refine wpPlan_free _ ?_ rfl (by rfl) (fun w' => ?_) ?_
        rotate_left
        · go_simp; with_reducible rfl
        simp only [Act.put, List.setIfInBounds_toArray, List.set_cons_zero, List.set_cons_succ]
        refine wpPlan_do _ rfl (fun K hK => ?_)
        go_simp
        refine (waiting_any _ H5.out.tab).mono ?_
        rintro e w6 ⟨rfl, rfl⟩
        refine hK _ _ (fun _ => ⟨yb5, yp5⟩) ?_
        clear hK K
        refine wpPlan_free _ ?_ rfl (by rfl) (fun w' => ?_) ?_
        rotate_left
        · go_simp; with_reducible rfl
        simp only [Act.put, List.setIfInBounds_toArray, List.set_cons_zero, List.set_cons_succ]
        refine wpPlan_free _ ?_ rfl (by rfl) (fun w' => ?_) ?_
        rotate_left
        · go_simp; with_reducible rfl
        simp only [Act.put, List.setIfInBounds_toArray, List.set_cons_zero, List.set_cons_succ]
        refine wpPlan_nil ?_
        go_wp2_with fail
        go_roundg (ss.length - (k + 1))
        case measure => omega
        case rel => exact ⟨k + 1, S, _, q4, dn4, by omega, rfl, by go_num, H5.out⟩
      have hk2' : (kd == 2) = false := by simp [hk2]
      by_cases hk3 : kd = 3
      · subst hk3
        go_wp2_with fail
        refine (leave_any _ HW.out.tab).mono ?_
        rintro e w3 ⟨A3, c3, rfl, arr3, in3, tb3, fr3⟩
        have b3 := HB.out.fr fr3 hnS
        have y1 : w3.cell? ⟨wr.heap.size, 1, none⟩ = some (.int .i64 ka) := b3.cell 1
        have nT3 : ∀ j, InB A3 j → ¬ T j := fun j hj ht => by
          have h1 := in3 j hj
          have h2 := HW.out.rt.lt j ht
          omega
        have rt3 := HW.out.ref fr3
        have HF3 := Lib.hid fr3
        have HT3 := Lib.hid tb3
        have HA3 := Lib.hid arr3
        have HN3 := Lib.hid nT3
        clear fr3 tb3 arr3 nT3 in3 b3
        go_wp2_with fail
        refine (refLeave_any _ rt3 hfew).mono ?_
        rintro e w4 ⟨A4, c4, T4, rfl, arr4, rt4, fr4, gr4⟩
        have yb := fr4.cell_some y1 hnT
        have HT := Lib.hid (HW.out.turn HT3.out HF3.out rt4 fr4 gr4 (by simp; omega))
        have arr34 := HA3.out.fr fr4 HN3.out
        rw [show q.length = (q.map (·.1)).length by simp] at arr34 ⊢
        have R1 := Lib.hid arr34.rd
        have R2 := Lib.hid arr4.rd
        clear rt4 fr4 gr4 rt3 y1 arr4 arr34 HT3 HF3 HA3 HN3
        generalize q.map (·.1) = out at *
        go_wp2_with fail
        refine (ints_same _ R1.out R2.out).mono ?_
        rintro e w5 ⟨rfl, n5, rfl⟩
        have HT' := Lib.hid (HT.out.keep ((Fr.refl NoB _).drewN n5))
        replace yb : (w4.drewN n5).cell? ⟨wr.heap.size, 1, none⟩ = some (.int .i64 ka) := yb
        clear HT R1 R2
        generalize w4.drewN n5 = w4 at *
        have HT := HT'
        clear HT'
        obtain ⟨dn4, hdn4⟩ : ∃ dn4, dn4 = dn := ⟨_, rfl⟩
        rw [← hdn4] at HT
        clear hdn4
        obtain ⟨q4, hq4⟩ : ∃ q4 : List (Int × Int), q4 = [] := ⟨_, rfl⟩
        rw [← hq4] at HT
        clear hq4
        obtain ⟨⟨L4, l4, D4, d4, hb4, _⟩, _⟩ := HT.out.rt
        have yp : w4.cell? ⟨p, 0, none⟩ = some (.slice L4 q4.length l4) := hb4.cell 0
        clear hb4
        go_wp2_with fail
        refine wp_region_plan 19 (fun w' => w'.cell? ⟨wr.heap.size, 1, none⟩ = some (.int .i64 ka) ∧ w'.cell? ⟨p, 0, none⟩ = some (.slice L4 q4.length l4)) [(0, 0), (1, 0), (2, 1), (4, 0), (5, 0), (6, 1), (3, 2), (7, 2), (8, 0), (9, 0), (10, 0), (12, 0), (13, 0), (14, 0), (15, 1), (16, 0), (11, 2), (17, 0), (18, 0)] (by kernel_rfl) (by kernel_rfl) (fun _ _ _ _ _ h => h) ⟨yb, yp⟩ ?_
        refine wpPlan_free _ ?_ rfl (by rfl) (fun w' => ?_) ?_
        rotate_left
        · go_simp; with_reducible rfl
        simp only [Act.put, List.setIfInBounds_toArray, List.set_cons_zero, List.set_cons_succ]
        refine wpPlan_free _ ?_ rfl (by rfl) (fun w' => ?_) ?_
        rotate_left
        · go_simp; with_reducible rfl
        simp only [Act.put, List.setIfInBounds_toArray, List.set_cons_zero, List.set_cons_succ]
        refine wpPlan_held _ ?_ rfl (by rfl) (fun w' hS => ?_) ?_
        rotate_left
        · obtain ⟨e0, e1⟩ := hS; go_simp; with_reducible rfl
        simp only [Act.put, List.setIfInBounds_toArray, List.set_cons_zero, List.set_cons_succ]
        refine wpPlan_free _ ?_ rfl (by rfl) (fun w' => ?_) ?_
        rotate_left
        · go_simp; with_reducible rfl
        simp only [Act.put, List.setIfInBounds_toArray, List.set_cons_zero, List.set_cons_succ]
        refine wpPlan_free _ ?_ rfl (by rfl) (fun w' => ?_) ?_
        rotate_left
        · go_simp; with_reducible rfl
        simp only [Act.put, List.setIfInBounds_toArray, List.set_cons_zero, List.set_cons_succ]
        refine wpPlan_held _ ?_ rfl (by rfl) (fun w' hS => ?_) ?_
        rotate_left
        · obtain ⟨e0, e1⟩ := hS; go_simp; with_reducible rfl
        simp only [Act.put, List.setIfInBounds_toArray, List.set_cons_zero, List.set_cons_succ]
        refine wpPlan_do _ rfl (fun K hK => ?_)
        go_simp
        refine (state_any ka _ (HT.out.tab.fr ((Fr.refl NoB _).drew) (fun _ _ h => h)) o2).mono ?_
        rintro e w5 ⟨rfl, rfl⟩
        refine hK _ _ (fun _ => ⟨yb, yp⟩) ?_
        clear hK K
        refine wpPlan_do _ rfl (fun K hK => ?_)
        go_simp
        refine (refState_any ka _ (HT.out.rt.fr ((Fr.refl NoB _).drew) (fun _ _ h => h))).mono ?_
        rintro e w5 ⟨rfl, fr5⟩
        have g5 : Fr NoB w4 w5 := ((Fr.refl NoB _).drew).trans fr5
        have yb5 := g5.cell_some yb (fun h => h)
        have yp5 := g5.cell_some yp (fun h => h)
        have H5 := Lib.hid (HT.out.keep g5)
        refine hK _ _ (fun _ => ⟨yb5, yp5⟩) ?_
        clear hK K fr5 g5
        generalize stateF q4 dn4 ka = st at *
        refine wpPlan_free _ ?_ rfl (by rfl) (fun w' => ?_) ?_
        rotate_left
        · go_simp; with_reducible rfl
        simp only [Act.put, List.setIfInBounds_toArray, List.set_cons_zero, List.set_cons_succ]
        refine wpPlan_free _ ?_ rfl (by rfl) (fun w' => ?_) ?_
        rotate_left
        · go_simp; with_reducible rfl
        simp only [Act.put, List.setIfInBounds_toArray, List.set_cons_zero, List.set_cons_succ]
        refine wpPlan_free _ ?_ rfl (by rfl) (fun w' => ?_) ?_
        rotate_left
        · go_simp; with_reducible rfl
        simp only [Act.put, List.setIfInBounds_toArray, List.set_cons_zero, List.set_cons_succ]
        refine wpPlan_free _ ?_ rfl (by rfl) (fun w' => ?_) ?_
        rotate_left
        · go_simp; with_reducible rfl
        simp only [Act.put, List.setIfInBounds_toArray, List.set_cons_zero, List.set_cons_succ]
        refine wpPlan_free _ ?_ rfl (by rfl) (fun w' => ?_) ?_
        rotate_left
        · go_simp; with_reducible rfl
        simp only [Act.put, List.setIfInBounds_toArray, List.set_cons_zero, List.set_cons_succ]
        refine wpPlan_free _ ?_ rfl (by rfl) (fun w' => ?_) ?_
        rotate_left
        · go_simp; with_reducible rfl
        simp only [Act.put, List.setIfInBounds_toArray, List.set_cons_zero, List.set_cons_succ]
        refine wpPlan_held _ ?_ rfl (by rfl) (fun w' hS => ?_) ?_
        rotate_left
        · obtain ⟨e0, e1⟩ := hS; go_simp; with_reducible rfl
        simp only [Act.put, List.setIfInBounds_toArray, List.set_cons_zero, List.set_cons_succ]
        refine wpPlan_free _ ?_ rfl (by rfl) (fun w' => ?_) ?_
        rotate_left
        · go_simp; with_reducible rfl
        simp only [Act.put, List.setIfInBounds_toArray, List.set_cons_zero, List.set_cons_succ]
        refine wpPlan_do _ rfl (fun K hK => ?_)
        go_simp
        refine (waiting_any _ H5.out.tab).mono ?_
        rintro e w6 ⟨rfl, rfl⟩
        refine hK _ _ (fun _ => ⟨yb5, yp5⟩) ?_
        clear hK K
        refine wpPlan_free _ ?_ rfl (by rfl) (fun w' => ?_) ?_
        rotate_left
        · go_simp; with_reducible rfl
        simp only [Act.put, List.setIfInBounds_toArray, List.set_cons_zero, List.set_cons_succ]
        refine wpPlan_free _ ?_ rfl (by rfl) (fun w' => ?_) ?_
        rotate_left
        · go_simp; with_reducible rfl
        simp only [Act.put, List.setIfInBounds_toArray, List.set_cons_zero, List.set_cons_succ]
        refine wpPlan_nil ?_
        go_wp2_with fail
        go_roundg (ss.length - (k + 1))
        case measure => omega
        case rel => exact ⟨k + 1, S, _, q4, dn4, by omega, rfl, by go_num, H5.out⟩
      have hk3' : (kd == 3) = false := by simp [hk3]
      have HT := Lib.hid HW.out.more
      have yb : (wr.alloc (.cells #[.int .i64 kd, .int .i64 ka, .int .i64 kb] 27)).cell? ⟨wr.heap.size, 1, none⟩ = some (.int .i64 ka) := HB.out.cell 1
      go_wp2_with fail
      generalize wr.alloc (.cells #[.int .i64 kd, .int .i64 ka, .int .i64 kb] 27) = w4 at *
      obtain ⟨dn4, hdn4⟩ : ∃ dn4, dn4 = dn := ⟨_, rfl⟩
      obtain ⟨q4, hq4⟩ : ∃ q4, q4 = q := ⟨_, rfl⟩
      rw [← hdn4, ← hq4] at HT
      clear hdn4 hq4
      obtain ⟨⟨L4, l4, D4, d4, hb4, _⟩, _⟩ := HT.out.rt
      have yp : w4.cell? ⟨p, 0, none⟩ = some (.slice L4 q4.length l4) := hb4.cell 0
      clear hb4
      refine wp_region_plan 19 (fun w' => w'.cell? ⟨wr.heap.size, 1, none⟩ = some (.int .i64 ka) ∧ w'.cell? ⟨p, 0, none⟩ = some (.slice L4 q4.length l4)) [(0, 0), (1, 0), (2, 1), (4, 0), (5, 0), (6, 1), (3, 2), (7, 2), (8, 0), (9, 0), (10, 0), (12, 0), (13, 0), (14, 0), (15, 1), (16, 0), (11, 2), (17, 0), (18, 0)] (by kernel_rfl) (by kernel_rfl) (fun _ _ _ _ _ h => h) ⟨yb, yp⟩ ?_
      refine wpPlan_free _ ?_ rfl (by rfl) (fun w' => ?_) ?_
      rotate_left
      · go_simp; with_reducible rfl
      simp only [Act.put, List.setIfInBounds_toArray, List.set_cons_zero, List.set_cons_succ]
      refine wpPlan_free _ ?_ rfl (by rfl) (fun w' => ?_) ?_
      rotate_left
      · go_simp; with_reducible rfl
      simp only [Act.put, List.setIfInBounds_toArray, List.set_cons_zero, List.set_cons_succ]
      refine wpPlan_held _ ?_ rfl (by rfl) (fun w' hS => ?_) ?_
      rotate_left
      · obtain ⟨e0, e1⟩ := hS; go_simp; with_reducible rfl
      simp only [Act.put, List.setIfInBounds_toArray, List.set_cons_zero, List.set_cons_succ]
      refine wpPlan_free _ ?_ rfl (by rfl) (fun w' => ?_) ?_
      rotate_left
      · go_simp; with_reducible rfl
      simp only [Act.put, List.setIfInBounds_toArray, List.set_cons_zero, List.set_cons_succ]
      refine wpPlan_free _ ?_ rfl (by rfl) (fun w' => ?_) ?_
      rotate_left
      · go_simp; with_reducible rfl
      simp only [Act.put, List.setIfInBounds_toArray, List.set_cons_zero, List.set_cons_succ]
      refine wpPlan_held _ ?_ rfl (by rfl) (fun w' hS => ?_) ?_
      rotate_left
      · obtain ⟨e0, e1⟩ := hS; go_simp; with_reducible rfl
      simp only [Act.put, List.setIfInBounds_toArray, List.set_cons_zero, List.set_cons_succ]
      refine wpPlan_do _ rfl (fun K hK => ?_)
      go_simp
      refine (state_any ka _ (HT.out.tab.fr ((Fr.refl NoB _).drew) (fun _ _ h => h)) o2).mono ?_
      rintro e w5 ⟨rfl, rfl⟩
      refine hK _ _ (fun _ => ⟨yb, yp⟩) ?_
      clear hK K
      refine wpPlan_do _ rfl (fun K hK => ?_)
      go_simp
      refine (refState_any ka _ (HT.out.rt.fr ((Fr.refl NoB _).drew) (fun _ _ h => h))).mono ?_
      rintro e w5 ⟨rfl, fr5⟩
      have g5 : Fr NoB w4 w5 := ((Fr.refl NoB _).drew).trans fr5
      have yb5 := g5.cell_some yb (fun h => h)
      have yp5 := g5.cell_some yp (fun h => h)
      have H5 := Lib.hid (HT.out.keep g5)
      refine hK _ _ (fun _ => ⟨yb5, yp5⟩) ?_
      clear hK K fr5 g5
      generalize stateF q4 dn4 ka = st at *
      refine wpPlan_free _ ?_ rfl (by rfl) (fun w' => ?_) ?_
      rotate_left
      · go_simp; with_reducible rfl
      simp only [Act.put, List.setIfInBounds_toArray, List.set_cons_zero, List.set_cons_succ]
      refine wpPlan_free _ ?_ rfl (by rfl) (fun w' => ?_) ?_
      rotate_left
      · go_simp; with_reducible rfl
      simp only [Act.put, List.setIfInBounds_toArray, List.set_cons_zero, List.set_cons_succ]
      refine wpPlan_free _ ?_ rfl (by rfl) (fun w' => ?_) ?_
      rotate_left
      · go_simp; with_reducible rfl
      simp only [Act.put, List.setIfInBounds_toArray, List.set_cons_zero, List.set_cons_succ]
      refine wpPlan_free _ ?_ rfl (by rfl) (fun w' => ?_) ?_
      rotate_left
      · go_simp; with_reducible rfl
      simp only [Act.put, List.setIfInBounds_toArray, List.set_cons_zero, List.set_cons_succ]
      refine wpPlan_free _ ?_ rfl (by rfl) (fun w' => ?_) ?_
      rotate_left
      · go_simp; with_reducible rfl
      simp only [Act.put, List.setIfInBounds_toArray, List.set_cons_zero, List.set_cons_succ]
      refine wpPlan_free _ ?_ rfl (by rfl) (fun w' => ?_) ?_
      rotate_left
      · go_simp; with_reducible rfl
      simp only [Act.put, List.setIfInBounds_toArray, List.set_cons_zero, List.set_cons_succ]
      refine wpPlan_held _ ?_ rfl (by rfl) (fun w' hS => ?_) ?_
      rotate_left
      · obtain ⟨e0, e1⟩ := hS; go_simp; with_reducible rfl
      simp only [Act.put, List.setIfInBounds_toArray, List.set_cons_zero, List.set_cons_succ]
      refine wpPlan_free _ ?_ rfl (by rfl) (fun w' => ?_) ?_
      rotate_left
      · go_simp; with_reducible rfl
      simp only [Act.put, List.setIfInBounds_toArray, List.set_cons_zero, List.set_cons_succ]
      refine wpPlan_do _ rfl (fun K hK => ?_)
      go_simp
      refine (waiting_any _ H5.out.tab).mono ?_
      rintro e w6 ⟨rfl, rfl⟩
      refine hK _ _ (fun _ => ⟨yb5, yp5⟩) ?_
      clear hK K
      refine wpPlan_free _ ?_ rfl (by rfl) (fun w' => ?_) ?_
      rotate_left
      · go_simp; with_reducible rfl
      simp only [Act.put, List.setIfInBounds_toArray, List.set_cons_zero, List.set_cons_succ]
      refine wpPlan_free _ ?_ rfl (by rfl) (fun w' => ?_) ?_
      rotate_left
      · go_simp; with_reducible rfl
      simp only [Act.put, List.setIfInBounds_toArray, List.set_cons_zero, List.set_cons_succ]
      refine wpPlan_nil ?_
      go_wp2_with fail
      go_roundg (ss.length - (k + 1))
      case measure => omega
      case rel => exact ⟨k + 1, S, _, q4, dn4, by omega, rfl, by go_num, H5.out⟩
    · obtain rfl : k = ss.length := by omega
      go_wp2_with fail
      refine (speaks_any wr).mono ?_
      rintro e w9 ⟨rfl, fr9⟩
      go_wp2_with fail
      go_ret
      exact ⟨rfl, hw.fr.trans fr9⟩
end Go.Proofs.Ytjafjhaoogimcaa
