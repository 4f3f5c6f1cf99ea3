/- AllocSteps: the walk. -/
import Derived.Test.YtmceknchmflgoaaRefB
import Derived.Test.YtmceknchmflgoaaPlanG
namespace Go.Proofs.Ytmceknchmflgoaa
open Go.RowKit

theorem setF_len (us : List Bool) (i : Int) (u : Bool) : (setF us i u).2.length = us.length := by
  unfold setF
  split
  · split
    · rfl
    · simp
  · rfl
theorem takeF_len (us : List Bool) : (takeF us).2.2.length = us.length := by
  unfold takeF
  split
  · simp
  · rfl

structure AS (w : World) (m p : Nat) (S T : Nat → Prop) (us : List Bool) (mn : Nat) (wr : World) : Prop where
  mp : MapAt wr S m us
  rf : RefAt wr T p us
  dis : ∀ j, S j → ¬ T j
  len : us.length = mn
  ups : Up w.heap.size S
  upt : Up w.heap.size T
  fr : Fr NoB w wr

theorem AS.keep {w wr W : World} {m p : Nat} {S T : Nat → Prop} {us : List Bool} {mn : Nat} (h : AS w m p S T us mn wr) (hf : Fr NoB wr W) : AS w m p S T us mn W :=
  ⟨h.mp.fr hf (fun _ _ h => h), h.rf.fr hf (fun _ _ h => h), h.dis, h.len, h.ups, h.upt, h.fr.trans hf⟩
theorem AS.drewN {w wr : World} {m p : Nat} {S T : Nat → Prop} {us : List Bool} {mn : Nat} (h : AS w m p S T us mn wr) (n : Nat) : AS w m p S T us mn (wr.drewN n) := h.keep ((Fr.refl NoB _).drewN n)
theorem AS.ref {w wr w2 : World} {m p : Nat} {S T : Nat → Prop} {us : List Bool} {mn : Nat} (h : AS w m p S T us mn wr) (hf : Fr S wr w2) : RefAt w2 T p us :=
  h.rf.fr hf (fun j ht hs => h.dis j hs ht)
theorem AS.turn {w wr w2 w3 : World} {m p : Nat} {S T : Nat → Prop} {us us2 : List Bool} {mn : Nat} (h : AS w m p S T us mn wr) (hm : MapAt w2 S m us2) (hf : Fr S wr w2) (hr : RefAt w3 T p us2) (hf2 : Fr T w2 w3) (hl : us2.length = us.length) : AS w m p S T us2 mn w3 :=
  ⟨hm.fr hf2 h.dis, hr, h.dis, hl.trans h.len, h.ups, h.upt, (h.fr.up hf h.ups).up hf2 h.upt⟩

def ASs (ss : List StepS) (w : World) (m p mn : Nat) (n : Nat) (v40 : Value) (wr : World) : Prop :=
  ∃ (k : Nat) (S T : Nat → Prop) (us : List Bool), k ≤ ss.length ∧ n = ss.length - k ∧ v40 = .int .i64 k ∧ AS w m p S T us mn wr

set_option maxHeartbeats 8000000 in
set_option maxRecDepth 100000 in
theorem steps_any (most : Int) (A : Option Addr) (c : Nat) (ss : List StepS) (w : World) (h : StepsIn w w.heap.size A c ss) :
    Calls Try.prog 3 #[.int .i64 most, .slice A ss.length c] w (LawPost w) := by
  have hsl : ss.length ≤ 9223372036854775807 := by have := h.2.1; have := h.2.2.1; simp only [maxLen] at this; omega
  go_enter Try.func3, Try.ntmps3
  go_wp2_with fail
  refine (new_any most _).mono ?_
  rintro e w1 (⟨hm1, hm2, m, S, hm, rfl, mp1, up1, fr1⟩ | ⟨hno, rfl, fr1⟩)
  rotate_left
  · go_wp2_with fail
    refine (refNew_any most _).mono ?_
    rintro e w2 (⟨hn1, hn7, _⟩ | ⟨_, rfl, fr2⟩)
    · omega
    go_wp2_with fail
    refine (speaks_any _).mono ?_
    rintro e w3 ⟨rfl, fr3⟩
    go_wp2_with fail
    go_ret
    exact ⟨rfl, (fr1.trans fr2).trans fr3⟩
  go_wp2_with fail
  refine (refNew_any most _).mono ?_
  rintro e w2 (⟨_, _, p, T, hp, rfl, rf2, up2, fr2⟩ | ⟨hno, _⟩)
  rotate_left
  · omega
  have hz1 := fr1.size
  obtain ⟨mn, rfl⟩ := Int.eq_ofNat_of_zero_le (by omega : 0 ≤ most)
  rw [Int.toNat_natCast] at mp1 rf2
  have hA0 : AS w m p S T (List.replicate mn false) mn w2 :=
    ⟨mp1.fr fr2 (fun _ _ h => h), rf2, fun j hs ht => by have := mp1.lt j hs; have := up2 j ht; omega, List.length_replicate, up1, fun j hj => by have := up2 j hj; omega, fr1.trans fr2⟩
  have HN : Hid (ASs ss w m p mn ss.length (.int .i64 (0 : Nat)) w2) := ⟨0, S, T, _, Nat.zero_le _, rfl, rfl, hA0⟩
  clear hA0 mp1 rf2 up1 up2 fr1 fr2
  go_wp2_with fail
  go_loopg [40] ss.length (fun n v40 wr => ASs ss w m p mn n v40 wr)
  case atStart => exact HN
  case round =>
    obtain ⟨k, S, T, us, hk, rfl, rfl, hw⟩ := hrel
    by_cases hlt : k < ss.length
    · obtain ⟨b, off, kd, ka, hsk, rfl, x0, x1⟩ := (h.fr hw.fr).step hlt
      have hW : Fr NoB wr (wr.alloc (.cells #[.int .i64 kd, .int .i64 ka] 32)) := (Fr.refl _ _).alloc _
      have HW := Lib.hid (hw.keep hW)
      have HB := Lib.hid (Bk.new wr 32 #[.int .i64 kd, .int .i64 ka])
      have hnS : ¬ S wr.heap.size := fun h => by have := hw.mp.lt _ h; omega
      have hnT : ¬ T wr.heap.size := fun h => by have := hw.rf.lt _ h; omega
      clear hw hsk hW
      by_cases hk0 : kd = 0
      · subst hk0
        go_wp2_with fail
        refine (take_any _ HW.out.mp).mono ?_
        rintro e w3 ⟨rfl, mp3, fr3⟩
        have rf3 := HW.out.ref fr3
        have b3 := HB.out.fr fr3 hnS
        have HF := Lib.hid fr3
        have HM := Lib.hid mp3
        clear fr3 mp3
        go_wp2_with fail
        refine (refTake_any _ rf3).mono ?_
        rintro e w4 ⟨rfl, rf4, fr4⟩
        have HT := Lib.hid (HW.out.turn HM.out HF.out rf4 fr4 (takeF_len us))
        have yb : w4.cell? ⟨wr.heap.size, 1, none⟩ = some (.int .i64 ka) := (b3.fr fr4 hnT).cell 1
        clear rf4 fr4 HM HF rf3 b3
        generalize takeF us = r at *
        have dx : ∀ n, Calls Try.prog 15 #[.pointer (some ⟨m, 0, none⟩), .int .i64 ka] (w4.drewN n) fun e w' => e = .returned (.bool (hasU r.2.2 ka)) ∧ w' = w4.drewN n := fun n => (has_any ka _ (HT.out.mp.fr ((Fr.refl NoB _).drewN n) (fun _ _ h => h))).mono fun e w' h => And.intro h.1 h.2.symm
        have dy : ∀ n, Calls Try.prog 16 #[.pointer (some ⟨p, 0, none⟩), .int .i64 ka] (w4.drewN n) fun e w' => e = .returned (.bool (hasU r.2.2 ka)) ∧ w' = w4.drewN n := fun n => (refHas_any ka _ (HT.out.rf.fr ((Fr.refl NoB _).drewN n) (fun _ _ h => h))).mono fun e w' h => And.intro h.1 h.2.symm
        generalize hasU r.2.2 ka = hx at *
        go_wp2_with fail
        go_quiet ((first | (go_at_call 15; exact Calls.quiet_of_same (dx _)) | (go_at_call 16; exact Calls.quiet_of_same (dy _))))
        go_wp2_with fail
        go_roundg (ss.length - (k + 1))
        case measure => omega
        case rel => exact ⟨k + 1, S, T, _, by omega, rfl, by go_num, HT.out.drewN _⟩
      · have hk0' : (kd == 0) = false := by simp [hk0]
        obtain ⟨WW, hWW⟩ : ∃ WW, WW = wr.alloc (.cells #[.int .i64 kd, .int .i64 ka] 32) := ⟨_, rfl⟩
        by_cases hk1 : kd = 1
        · subst hk1
          go_wp2_with fail
          have d1 : (wr.alloc (.cells #[.int .i64 1, .int .i64 ka] 32)).cell? ⟨wr.heap.size, 1, none⟩ = some (.int .i64 ka) := HB.out.cell 1
          rw [← hWW] at HW HB d1 ⊢
          clear hWW
          refine wp_region_plan 9 (fun w' => w'.cell? ⟨wr.heap.size, 1, none⟩ = some (.int .i64 ka)) [(0, 0), (1, 0), (2, 1), (4, 0), (5, 0), (6, 1), (3, 2), (7, 2), (8, 0)] (by kernel_rfl) (by kernel_rfl) (fun _ _ _ _ _ h => h) d1 ?_
          refine wpPlan_free _ ?_ rfl (by rfl) (fun w' => ?_) ?_
          rotate_left
          · go_simp; with_reducible rfl
          simp only [Act.put, List.setIfInBounds_toArray, List.set_cons_zero, List.set_cons_succ]
          refine wpPlan_free _ ?_ rfl (by rfl) (fun w' => ?_) ?_
          rotate_left
          · go_simp; with_reducible rfl
          simp only [Act.put, List.setIfInBounds_toArray, List.set_cons_zero, List.set_cons_succ]
          refine wpPlan_held _ ?_ rfl (by rfl) (fun w' hS => ?_) ?_
          rotate_left
          · have e0 := hS; go_simp; with_reducible rfl
          simp only [Act.put, List.setIfInBounds_toArray, List.set_cons_zero, List.set_cons_succ]
          refine wpPlan_free _ ?_ rfl (by rfl) (fun w' => ?_) ?_
          rotate_left
          · go_simp; with_reducible rfl
          simp only [Act.put, List.setIfInBounds_toArray, List.set_cons_zero, List.set_cons_succ]
          refine wpPlan_free _ ?_ rfl (by rfl) (fun w' => ?_) ?_
          rotate_left
          · go_simp; with_reducible rfl
          simp only [Act.put, List.setIfInBounds_toArray, List.set_cons_zero, List.set_cons_succ]
          refine wpPlan_held _ ?_ rfl (by rfl) (fun w' hS => ?_) ?_
          rotate_left
          · have e0 := hS; go_simp; with_reducible rfl
          simp only [Act.put, List.setIfInBounds_toArray, List.set_cons_zero, List.set_cons_succ]
          refine wpPlan_do _ rfl (fun K hK => ?_)
          go_simp
          refine (mark_any ka _ (HW.out.mp.fr ((Fr.refl NoB _).drew) (fun _ _ h => h))).mono ?_
          rintro e w3 ⟨rfl, mp3, fr3⟩
          have fr3' : Fr S WW w3 := ((Fr.refl S _).drew).trans fr3
          have b3 := HB.out.fr fr3' hnS
          have y1 : w3.cell? ⟨wr.heap.size, 1, none⟩ = some (.int .i64 ka) := b3.cell 1
          refine hK _ _ (fun _ => y1) ?_
          clear hK K
          refine wpPlan_do _ rfl (fun K hK => ?_)
          go_simp
          refine (refSet_any ka true _ (HW.out.ref fr3')).mono ?_
          rintro e w4 ⟨rfl, rf4, fr4⟩
          have y2 := fr4.cell_some y1 hnT
          refine hK _ _ (fun _ => y2) ?_
          clear hK K
          refine wpPlan_free _ ?_ rfl (by rfl) (fun w' => ?_) ?_
          rotate_left
          · go_simp; with_reducible rfl
          simp only [Act.put, List.setIfInBounds_toArray, List.set_cons_zero, List.set_cons_succ]
          refine wpPlan_nil ?_
          have HT := Lib.hid (HW.out.turn mp3 fr3' rf4 fr4 (setF_len us ka true))
          have HT2 := Lib.hid (b3.fr fr4 hnT)
          clear mp3 fr3 fr3' rf4 fr4 b3 y1
          generalize setF us ka true = r at *
          have dx : ∀ n, Calls Try.prog 15 #[.pointer (some ⟨m, 0, none⟩), .int .i64 ka] (w4.drewN n) fun e w' => e = .returned (.bool (hasU r.2 ka)) ∧ w' = w4.drewN n := fun n => (has_any ka _ (HT.out.mp.fr ((Fr.refl NoB _).drewN n) (fun _ _ h => h))).mono fun e w' h => And.intro h.1 h.2.symm
          have dy : ∀ n, Calls Try.prog 16 #[.pointer (some ⟨p, 0, none⟩), .int .i64 ka] (w4.drewN n) fun e w' => e = .returned (.bool (hasU r.2 ka)) ∧ w' = w4.drewN n := fun n => (refHas_any ka _ (HT.out.rf.fr ((Fr.refl NoB _).drewN n) (fun _ _ h => h))).mono fun e w' h => And.intro h.1 h.2.symm
          generalize hasU r.2 ka = hx at *
          go_wp2_with fail
          go_quiet ((first | (go_at_call 15; exact Calls.quiet_of_same (dx _)) | (go_at_call 16; exact Calls.quiet_of_same (dy _))))
          go_wp2_with fail
          go_roundg (ss.length - (k + 1))
          case measure => omega
          case rel => exact ⟨k + 1, S, T, _, by omega, rfl, by go_num, HT.out.drewN _⟩
        · have hk1' : (kd == 1) = false := by simp [hk1]
          by_cases hk2 : kd = 2
          · subst hk2
            go_wp2_with fail
            have d1 : (wr.alloc (.cells #[.int .i64 2, .int .i64 ka] 32)).cell? ⟨wr.heap.size, 1, none⟩ = some (.int .i64 ka) := HB.out.cell 1
            rw [← hWW] at HW HB d1 ⊢
            clear hWW
            refine wp_region_plan 9 (fun w' => w'.cell? ⟨wr.heap.size, 1, none⟩ = some (.int .i64 ka)) [(0, 0), (1, 0), (2, 1), (4, 0), (5, 0), (6, 1), (3, 2), (7, 2), (8, 0)] (by kernel_rfl) (by kernel_rfl) (fun _ _ _ _ _ h => h) d1 ?_
            refine wpPlan_free _ ?_ rfl (by rfl) (fun w' => ?_) ?_
            rotate_left
            · go_simp; with_reducible rfl
            simp only [Act.put, List.setIfInBounds_toArray, List.set_cons_zero, List.set_cons_succ]
            refine wpPlan_free _ ?_ rfl (by rfl) (fun w' => ?_) ?_
            rotate_left
            · go_simp; with_reducible rfl
            simp only [Act.put, List.setIfInBounds_toArray, List.set_cons_zero, List.set_cons_succ]
            refine wpPlan_held _ ?_ rfl (by rfl) (fun w' hS => ?_) ?_
            rotate_left
            · have e0 := hS; go_simp; with_reducible rfl
            simp only [Act.put, List.setIfInBounds_toArray, List.set_cons_zero, List.set_cons_succ]
            refine wpPlan_free _ ?_ rfl (by rfl) (fun w' => ?_) ?_
            rotate_left
            · go_simp; with_reducible rfl
            simp only [Act.put, List.setIfInBounds_toArray, List.set_cons_zero, List.set_cons_succ]
            refine wpPlan_free _ ?_ rfl (by rfl) (fun w' => ?_) ?_
            rotate_left
            · go_simp; with_reducible rfl
            simp only [Act.put, List.setIfInBounds_toArray, List.set_cons_zero, List.set_cons_succ]
            refine wpPlan_held _ ?_ rfl (by rfl) (fun w' hS => ?_) ?_
            rotate_left
            · have e0 := hS; go_simp; with_reducible rfl
            simp only [Act.put, List.setIfInBounds_toArray, List.set_cons_zero, List.set_cons_succ]
            refine wpPlan_do _ rfl (fun K hK => ?_)
            go_simp
            refine (free_any ka _ (HW.out.mp.fr ((Fr.refl NoB _).drew) (fun _ _ h => h))).mono ?_
            rintro e w3 ⟨rfl, mp3, fr3⟩
            have fr3' : Fr S WW w3 := ((Fr.refl S _).drew).trans fr3
            have b3 := HB.out.fr fr3' hnS
            have y1 : w3.cell? ⟨wr.heap.size, 1, none⟩ = some (.int .i64 ka) := b3.cell 1
            refine hK _ _ (fun _ => y1) ?_
            clear hK K
            refine wpPlan_do _ rfl (fun K hK => ?_)
            go_simp
            refine (refSet_any ka false _ (HW.out.ref fr3')).mono ?_
            rintro e w4 ⟨rfl, rf4, fr4⟩
            have y2 := fr4.cell_some y1 hnT
            refine hK _ _ (fun _ => y2) ?_
            clear hK K
            refine wpPlan_free _ ?_ rfl (by rfl) (fun w' => ?_) ?_
            rotate_left
            · go_simp; with_reducible rfl
            simp only [Act.put, List.setIfInBounds_toArray, List.set_cons_zero, List.set_cons_succ]
            refine wpPlan_nil ?_
            have HT := Lib.hid (HW.out.turn mp3 fr3' rf4 fr4 (setF_len us ka false))
            have HT2 := Lib.hid (b3.fr fr4 hnT)
            clear mp3 fr3 fr3' rf4 fr4 b3 y1
            generalize setF us ka false = r at *
            have dx : ∀ n, Calls Try.prog 15 #[.pointer (some ⟨m, 0, none⟩), .int .i64 ka] (w4.drewN n) fun e w' => e = .returned (.bool (hasU r.2 ka)) ∧ w' = w4.drewN n := fun n => (has_any ka _ (HT.out.mp.fr ((Fr.refl NoB _).drewN n) (fun _ _ h => h))).mono fun e w' h => And.intro h.1 h.2.symm
            have dy : ∀ n, Calls Try.prog 16 #[.pointer (some ⟨p, 0, none⟩), .int .i64 ka] (w4.drewN n) fun e w' => e = .returned (.bool (hasU r.2 ka)) ∧ w' = w4.drewN n := fun n => (refHas_any ka _ (HT.out.rf.fr ((Fr.refl NoB _).drewN n) (fun _ _ h => h))).mono fun e w' h => And.intro h.1 h.2.symm
            generalize hasU r.2 ka = hx at *
            go_wp2_with fail
            go_quiet ((first | (go_at_call 15; exact Calls.quiet_of_same (dx _)) | (go_at_call 16; exact Calls.quiet_of_same (dy _))))
            go_wp2_with fail
            go_roundg (ss.length - (k + 1))
            case measure => omega
            case rel => exact ⟨k + 1, S, T, _, by omega, rfl, by go_num, HT.out.drewN _⟩
          · have hk2' : (kd == 2) = false := by simp [hk2]
            have yb : (wr.alloc (.cells #[.int .i64 kd, .int .i64 ka] 32)).cell? ⟨wr.heap.size, 1, none⟩ = some (.int .i64 ka) := HB.out.cell 1
            clear hWW
            have HT := HW
            have dx : ∀ n, Calls Try.prog 15 #[.pointer (some ⟨m, 0, none⟩), .int .i64 ka] ((wr.alloc (.cells #[.int .i64 kd, .int .i64 ka] 32)).drewN n) fun e w' => e = .returned (.bool (hasU us ka)) ∧ w' = (wr.alloc (.cells #[.int .i64 kd, .int .i64 ka] 32)).drewN n := fun n => (has_any ka _ (HT.out.mp.fr ((Fr.refl NoB _).drewN n) (fun _ _ h => h))).mono fun e w' h => And.intro h.1 h.2.symm
            have dy : ∀ n, Calls Try.prog 16 #[.pointer (some ⟨p, 0, none⟩), .int .i64 ka] ((wr.alloc (.cells #[.int .i64 kd, .int .i64 ka] 32)).drewN n) fun e w' => e = .returned (.bool (hasU us ka)) ∧ w' = (wr.alloc (.cells #[.int .i64 kd, .int .i64 ka] 32)).drewN n := fun n => (refHas_any ka _ (HT.out.rf.fr ((Fr.refl NoB _).drewN n) (fun _ _ h => h))).mono fun e w' h => And.intro h.1 h.2.symm
            generalize hasU us ka = hx at *
            go_wp2_with fail
            go_quiet ((first | (go_at_call 15; exact Calls.quiet_of_same (dx _)) | (go_at_call 16; exact Calls.quiet_of_same (dy _))))
            go_wp2_with fail
            go_roundg (ss.length - (k + 1))
            case measure => omega
            case rel => exact ⟨k + 1, S, T, _, by omega, rfl, by go_num, HT.out.drewN _⟩
    · obtain rfl : k = ss.length := by omega
      have HW := Lib.hid hw
      clear hw
      go_wp2_with fail
      refine wp_region_planG 18 (fun _ => True) [(0, 0), (2, 0), (1, 2), (3, 2), (4, 0), (5, 0), (6, 0), (9, 0), (7, 2), (8, 1), (10, 2), (11, 1), (12, 0), (13, 0), (14, 0), (15, 2), (16, 0), (17, 0)] (by kernel_rfl) (by kernel_rfl) (fun _ _ _ _ _ h => h) trivial ?_
      refine wpPlanG_free _ ?_ rfl (by rfl) (fun w' => ?_) ?_
      rotate_left
      · go_simp; with_reducible rfl
      simp only [Act.put, List.setIfInBounds_toArray, List.set_cons_zero, List.set_cons_succ]
      refine wpPlanG_free _ ?_ rfl (by rfl) (fun w' => ?_) ?_
      rotate_left
      · go_simp; with_reducible rfl
      simp only [Act.put, List.setIfInBounds_toArray, List.set_cons_zero, List.set_cons_succ]
      refine wpPlanG_do _ rfl (fun K hK => ?_)
      go_simp
      refine (used_any _ (HW.out.mp.fr ((Fr.refl NoB _).drew) (fun _ _ h => h))).mono ?_
      rintro e w3 ⟨rfl, fr3⟩
      have H3 := Lib.hid ((HW.out.keep ((Fr.refl NoB _).drew)).keep fr3)
      clear fr3
      refine hK _ _ (fun _ => True) (fun _ h => h) (fun _ => trivial) ?_
      clear hK K
      refine wpPlanG_do _ rfl (fun K hK => ?_)
      go_simp
      refine (refCount_any _ H3.out.rf).mono ?_
      rintro e w4 ⟨rfl, rfl⟩
      refine hK _ _ (fun _ => True) (fun _ h => h) (fun _ => trivial) ?_
      clear hK K
      refine wpPlanG_free _ ?_ rfl (by rfl) (fun w' => ?_) ?_
      rotate_left
      · go_simp; with_reducible rfl
      simp only [Act.put, List.setIfInBounds_toArray, List.set_cons_zero, List.set_cons_succ]
      refine wpPlanG_free _ ?_ rfl (by rfl) (fun w' => ?_) ?_
      rotate_left
      · go_simp; with_reducible rfl
      simp only [Act.put, List.setIfInBounds_toArray, List.set_cons_zero, List.set_cons_succ]
      refine wpPlanG_free _ ?_ rfl (by rfl) (fun w' => ?_) ?_
      rotate_left
      · go_simp; with_reducible rfl
      simp only [Act.put, List.setIfInBounds_toArray, List.set_cons_zero, List.set_cons_succ]
      refine wpPlanG_free _ ?_ rfl (by rfl) (fun w' => ?_) ?_
      rotate_left
      · go_simp; with_reducible rfl
      simp only [Act.put, List.setIfInBounds_toArray, List.set_cons_zero, List.set_cons_succ]
      refine wpPlanG_do _ rfl (fun K hK => ?_)
      go_simp
      refine (bytes_any _ H3.out.mp).mono ?_
      rintro e w5 ⟨bs, A1, c1, hbits1, rfl, harr1, hin1, fr5⟩
      have H5 := Lib.hid (H3.out.keep fr5)
      clear fr5
      have k1 : ∀ w' : World, Rd w' (InB A1) 1 A1 bs.length c1 (bv bs) → (convert 41 9 (.slice A1 bs.length c1)).run Try.prog w' = .ok (.string ⟨bs.toArray⟩) w' := fun w' hr => run_conv_rd w' 41 9 5 Try.underlying41 Try.underlying5 Try.underlying9 bs hr
      refine hK _ _ (fun w' => (convert 41 9 (.slice A1 bs.length c1)).run Try.prog w' = .ok (.string ⟨bs.toArray⟩) w') (fun _ _ => trivial) (fun _ => k1 _ harr1.rd) ?_
      clear hK K
      refine wpPlanG_held _ ?_ rfl (by rfl) (fun w' hS => ?_) ?_
      rotate_left
      · have e0 := hS; go_simp; with_reducible rfl
      simp only [Act.put, List.setIfInBounds_toArray, List.set_cons_zero, List.set_cons_succ]
      refine wpPlanG_do _ rfl (fun K hK => ?_)
      go_simp
      refine (refBytes_any _ H5.out.rf).mono ?_
      rintro e w6 ⟨bs', A2, c2, hbits2, rfl, harr2, hin2, fr6⟩
      have H6 := Lib.hid (H5.out.keep fr6)
      obtain rfl : bs = bs' := hbits1.inj hbits2
      have hr1 := harr1.rd.fr fr6 (fun _ _ _ h => h)
      clear fr6 hbits1 hbits2
      have k2 : ∀ w' : World, Rd w' (InB A2) 1 A2 bs.length c2 (bv bs) → (convert 41 9 (.slice A2 bs.length c2)).run Try.prog w' = .ok (.string ⟨bs.toArray⟩) w' := fun w' hr => run_conv_rd w' 41 9 5 Try.underlying41 Try.underlying5 Try.underlying9 bs hr
      refine hK _ _ (fun w' => (convert 41 9 (.slice A1 bs.length c1)).run Try.prog w' = .ok (.string ⟨bs.toArray⟩) w' ∧ (convert 41 9 (.slice A2 bs.length c2)).run Try.prog w' = .ok (.string ⟨bs.toArray⟩) w') (fun _ h => h.1) (fun _ => ⟨k1 _ hr1, k2 _ harr2.rd⟩) ?_
      clear hK K
      refine wpPlanG_held _ ?_ rfl (by rfl) (fun w' hS => ?_) ?_
      rotate_left
      · have e0 := hS.2; go_simp; with_reducible rfl
      simp only [Act.put, List.setIfInBounds_toArray, List.set_cons_zero, List.set_cons_succ]
      refine wpPlanG_free _ ?_ rfl (by rfl) (fun w' => ?_) ?_
      rotate_left
      · go_simp; with_reducible rfl
      simp only [Act.put, List.setIfInBounds_toArray, List.set_cons_zero, List.set_cons_succ]
      refine wpPlanG_free _ ?_ rfl (by rfl) (fun w' => ?_) ?_
      rotate_left
      · go_simp; with_reducible rfl
      simp only [Act.put, List.setIfInBounds_toArray, List.set_cons_zero, List.set_cons_succ]
      refine wpPlanG_free _ ?_ rfl (by rfl) (fun w' => ?_) ?_
      rotate_left
      · go_simp; with_reducible rfl
      simp only [Act.put, List.setIfInBounds_toArray, List.set_cons_zero, List.set_cons_succ]
      refine wpPlanG_do _ rfl (fun K hK => ?_)
      go_simp
      refine (speaks_any _).mono ?_
      rintro e w7 ⟨rfl, fr7⟩
      refine hK _ _ (fun w' => (convert 41 9 (.slice A1 bs.length c1)).run Try.prog w' = .ok (.string ⟨bs.toArray⟩) w' ∧ (convert 41 9 (.slice A2 bs.length c2)).run Try.prog w' = .ok (.string ⟨bs.toArray⟩) w') (fun _ h => h) (fun _ => ⟨k1 _ (hr1.fr fr7 (fun _ _ _ h => h)), k2 _ (harr2.rd.fr fr7 (fun _ _ _ h => h))⟩) ?_
      clear hK K
      refine wpPlanG_free _ ?_ rfl (by rfl) (fun w' => ?_) ?_
      rotate_left
      · go_simp; with_reducible rfl
      simp only [Act.put, List.setIfInBounds_toArray, List.set_cons_zero, List.set_cons_succ]
      refine wpPlanG_free _ ?_ rfl (by rfl) (fun w' => ?_) ?_
      rotate_left
      · go_simp; with_reducible rfl
      simp only [Act.put, List.setIfInBounds_toArray, List.set_cons_zero, List.set_cons_succ]
      refine wpPlanG_nil ?_
      go_wp2_with fail
      go_ret
      exact ⟨rfl, H6.out.fr.trans fr7⟩
end Go.Proofs.Ytmceknchmflgoaa
