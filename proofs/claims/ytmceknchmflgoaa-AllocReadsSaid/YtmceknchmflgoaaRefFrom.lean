/- The document's From. -/
import Derived.Test.YtmceknchmflgoaaRefB
import Derived.Test.YtmceknchmflgoaaFrom
import Derived.Test.YtmceknchmflgoaaPlanG
namespace Go.Proofs.Ytmceknchmflgoaa
open Go.RowKit

/-- The first j pages are as the bytes say. -/
def Upto (m : Nat) (b : List UInt8) (j : Nat) (us : List Bool) : Prop := us.length = m ∧ ∀ k, k < m → us[k]?.getD false = (decide (k < j) && bitAt b k)
theorem Upto.zero (m : Nat) (b : List UInt8) : Upto m b 0 (List.replicate m false) := ⟨List.length_replicate, fun k hk => by simp [hk]⟩
theorem Upto.next {m : Nat} {b : List UInt8} {j : Nat} {us : List Bool} (h : Upto m b j us) (hj : j < m) : Upto m b (j + 1) (us.set j (bitAt b j)) := by
  refine ⟨by rw [List.length_set]; exact h.1, fun k hk => ?_⟩
  by_cases e : k = j
  · subst e
    rw [List.getElem?_set_self (by rw [h.1]; exact hj)]
    simp
  · rw [List.getElem?_set_ne (Ne.symm e), h.2 k hk]
    congr 1
    by_cases h' : k < j
    · rw [decide_eq_true h', decide_eq_true (by omega)]
    · rw [decide_eq_false h', decide_eq_false (by omega)]
theorem Upto.done {m : Nat} {b : List UInt8} {j : Nat} {us : List Bool} (h : Upto m b j us) (hj : m ≤ j ∨ b.length ≤ j / 8) : us = usOf m b := by
  apply List.ext_getElem?
  intro k
  by_cases hk : k < m
  · rw [usOf_get hk]
    have := h.2 k hk
    rw [List.getElem?_eq_getElem (by rw [h.1]; exact hk)] at this ⊢
    simp only [Option.getD_some] at this
    rw [this]
    congr 1
    by_cases h' : k < j
    · simp [h']
    · have hb : bitAt b k = false := by
        unfold bitAt
        rw [List.getElem?_eq_none (by omega)]
        simp
      rw [hb, Bool.and_false]
  · rw [List.getElem?_eq_none (by rw [h.1]; omega), List.getElem?_eq_none (by rw [usOf_len]; omega)]

def RF (w : World) (p mn : Nat) (T : Nat → Prop) (b : List UInt8) (n : Nat) (v8 : Value) (wr : World) : Prop :=
  ∃ (j : Nat) (us : List Bool), j ≤ mn ∧ n = mn - j ∧ v8 = .int .i64 ((j : Int) + 1) ∧ Upto mn b j us ∧ RefAt wr T p us ∧ Fr NoB w wr

set_option maxHeartbeats 4000000 in
set_option maxRecDepth 100000 in
theorem refFrom_any (most : Int) (A : Option Addr) (c : Nat) (b : List UInt8) (w : World) (h : Rd w (fun k => k < w.heap.size) 1 A b.length c (bv b)) :
    Calls Try.prog 22 #[.int .i64 most, .slice A b.length c] w (FromPost RefAt most b w) := by
  have hbl : b.length ≤ 9223372036854775807 := by have := h.2.1; have := h.2.2.1; simp only [maxLen] at this; omega
  go_enter Try.func22, Try.ntmps22
  go_wp2_with fail
  refine (refNew_any most _).mono ?_
  rintro e w1 (⟨hm1, hm2, p, T, hm, rfl, mp1, up1, fr1⟩ | ⟨hno, rfl, fr1⟩)
  rotate_left
  · go_wp2_with fail
    go_ret2
    exact .inl ⟨hno, rfl, fr1⟩
  obtain ⟨mn, rfl⟩ := Int.eq_ofNat_of_zero_le (by omega : 0 ≤ most)
  rw [Int.toNat_natCast] at mp1
  have HN : Hid (RF w p mn T b mn (.int .i64 (1 : Int)) w1) := ⟨0, _, Nat.zero_le _, rfl, rfl, Upto.zero mn b, mp1, fr1⟩
  clear mp1 fr1
  go_wp2_with fail
  go_loopg [8] mn (fun n v8 wr => RF w p mn T b n v8 wr)
  case atStart => exact HN.out
  case round =>
    obtain ⟨j, us, hj, rfl, rfl, hup, hrf, hfr⟩ := hrel
    have hW1 : IntKind.i64.wrap ((j : Int) + 1 - 1) = j := by rw [IntKind.wrap_i64]; omega
    have hq0 : (j : Int).tdiv 8 = (j / 8 : Nat) := (Int.ofNat_tdiv j 8).symm
    have hw0 : IntKind.i64.wrap (j : Int) = j := by rw [IntKind.wrap_i64]; omega
    have hw1 : IntKind.i64.wrap ((j : Int) / 8) = (j : Int) / 8 := by rw [IntKind.wrap_i64]; omega
    have hgo : ¬ (j < mn ∧ j / 8 < b.length) → Hid (us = usOf mn b) := fun hn => Lib.hid (hup.done (by omega))
    have HEND : Hid (us = usOf mn b → ∀ (Q : Prop), (RefAt wr T p (usOf mn b) → Q) → Q) := Lib.hid (fun e Q hQ => hQ (e ▸ hrf))
    by_cases hjm : j < mn
    · have d1 : decide ((j : Int) + 1 ≤ (mn : Int)) = true := decide_eq_true (by omega)
      by_cases hjb : j / 8 < b.length
      · have d2 : decide ((j : Int) / 8 < (b.length : Int)) = true := decide_eq_true (by omega)
        obtain ⟨⟨g, hb, hg, hT⟩, ho, hlt, hp, hw⟩ := hrf
        obtain ⟨b0, off, u, rfl, hgS, hgl, hu, hcu⟩ := (h.fr hfr (fun _ _ _ h => h)).cell_at hjb 0 (by omega)
        simp only [Nat.mul_one, Nat.add_zero] at hu hcu
        have hux : u = .int .u8 ((b[j / 8]?.getD 0).toNat : Int) := by
          rw [List.getElem?_eq_getElem hjb]
          simp only [bv, List.getElem?_map, List.getElem?_eq_getElem hjb, Option.map_some, Option.some.injEq] at hu
          exact hu.symm
        subst hux
        have hand := and_bit ⟨(b[j / 8]?.getD 0).toNat, UInt8.toNat_lt _⟩ ⟨j % 8, Nat.mod_lt _ (by omega)⟩
        simp only [] at hand
        have hba : ((b[j / 8]?.getD 0).toNat).testBit (j % 8) = bitAt b j := rfl
        rw [hba] at hand
        have hxl := UInt8.toNat_lt (b[j / 8]?.getD 0)
        have c0 : wr.cell? ⟨p, 0, none⟩ = some (.slice (some ⟨g, 0, none⟩) (us.length + 1) (us.length + 1)) := hb.cell 0
        have hul := hup.1
        obtain ⟨t1, t2⟩ := RefAt.turn hb hg hT ho hlt hp hw j (bitAt b j)
        have c3 : wr.cell? ⟨g, j + 1, none⟩ = some (.bool (us[j]'(by omega))) := bools_cell hg (by omega)
        have c2 := hg.frozen (j + 1)
        have HNX := Lib.hid (hup.next hjm)
        have HT1 := Lib.hid t1
        have HF := Lib.hid (hfr.up t2 up1)
        have hq1 : (j : Int).tmod 8 = (j % 8 : Nat) := (Int.ofNat_tmod j 8).symm
        have hw2 : IntKind.i64.wrap ((j : Int) % 8) = (j : Int) % 8 := by rw [IntKind.wrap_i64]; omega
        have hw3 : IntKind.u64.wrap ((j : Int) % 8) = (j : Int) % 8 := by simp [IntKind.wrap, IntKind.bits, IntKind.signed]; omega
        have hto : ((j : Int) / 8).toNat = j / 8 := by omega
        have hto2 : ((j : Int) % 8).toNat = j % 8 := by omega
        have i0 : (0 : Int) ≤ (j : Int) / 8 := by omega
        have i1 : (j : Int) / 8 < (b.length : Int) := by omega
        have i2 : (0 : Int) ≤ (j : Int) + 1 := by omega
        have i3 : (j : Int) + 1 < (us.length : Int) + 1 := by omega
        generalize us[j]'(by omega) = uj at c3
        clear hgo HEND hb hg t1 t2 hu hup hul hba
        generalize bitAt b j = bj at *
        generalize (b[j / 8]?.getD 0).toNat = x at *
        go_wp2_with fail
        refine wp_region_plan 19 (fun w' => w'.cell? ⟨p, 0, none⟩ = some (.slice (some ⟨g, 0, none⟩) (us.length + 1) (us.length + 1)) ∧ w'.cell? ⟨b0, off + j / 8, none⟩ = some (.int .u8 (x : Int)))
          [(0, 0), (1, 0), (2, 0), (3, 1), (4, 0), (5, 0), (6, 0), (7, 0), (8, 0), (9, 0), (10, 1), (11, 0), (12, 0), (13, 0), (14, 1), (15, 0), (16, 0), (17, 0), (18, 0), (19, 2)] (by kernel_rfl) (by kernel_rfl) (fun _ _ _ _ _ h => h) ⟨c0, hcu⟩ ?_
        refine wpPlan_free _ ?_ rfl (by rfl) (fun w' => ?_) ?_
        rotate_left
        · go_simp; with_reducible rfl
        simp only [Act.put, List.setIfInBounds_toArray, List.set_cons_zero, List.set_cons_succ]
        refine wpPlan_free _ ?_ rfl (by rfl) (fun w' => ?_) ?_
        rotate_left
        · go_simp; with_reducible rfl
        simp only [Act.put, List.setIfInBounds_toArray, List.set_cons_zero, List.set_cons_succ]
        refine wpPlan_free _ ?_ rfl (by rfl) (fun w' => ?_) ?_
        rotate_left
        · go_simp; with_reducible rfl
        simp only [Act.put, List.setIfInBounds_toArray, List.set_cons_zero, List.set_cons_succ]
        refine wpPlan_held _ ?_ rfl (by rfl) (fun w' hS => ?_) ?_
        rotate_left
        · obtain ⟨e0, e1⟩ := hS; go_simp; with_reducible rfl
        simp only [Act.put, List.setIfInBounds_toArray, List.set_cons_zero, List.set_cons_succ]
        refine wpPlan_free _ ?_ rfl (by rfl) (fun w' => ?_) ?_
        rotate_left
        · go_simp; with_reducible rfl
        simp only [Act.put, List.setIfInBounds_toArray, List.set_cons_zero, List.set_cons_succ]
        refine wpPlan_free _ ?_ rfl (by rfl) (fun w' => ?_) ?_
        rotate_left
        · go_simp; with_reducible rfl
        simp only [Act.put, List.setIfInBounds_toArray, List.set_cons_zero, List.set_cons_succ]
        refine wpPlan_free _ ?_ rfl (by rfl) (fun w' => ?_) ?_
        rotate_left
        · go_simp; with_reducible rfl
        simp only [Act.put, List.setIfInBounds_toArray, List.set_cons_zero, List.set_cons_succ]
        refine wpPlan_free _ ?_ rfl (by rfl) (fun w' => ?_) ?_
        rotate_left
        · go_simp; with_reducible rfl
        simp only [Act.put, List.setIfInBounds_toArray, List.set_cons_zero, List.set_cons_succ]
        refine wpPlan_free _ ?_ rfl (by rfl) (fun w' => ?_) ?_
        rotate_left
        · go_simp; with_reducible rfl
        simp only [Act.put, List.setIfInBounds_toArray, List.set_cons_zero, List.set_cons_succ]
        refine wpPlan_free _ ?_ rfl (by rfl) (fun w' => ?_) ?_
        rotate_left
        · go_simp; with_reducible rfl
        simp only [Act.put, List.setIfInBounds_toArray, List.set_cons_zero, List.set_cons_succ]
        refine wpPlan_held _ ?_ rfl (by rfl) (fun w' hS => ?_) ?_
        rotate_left
        · obtain ⟨e0, e1⟩ := hS; go_simp; with_reducible rfl
        simp only [Act.put, List.setIfInBounds_toArray, List.set_cons_zero, List.set_cons_succ]
        refine wpPlan_free _ ?_ rfl (by rfl) (fun w' => ?_) ?_
        rotate_left
        · go_simp; with_reducible rfl
        simp only [Act.put, List.setIfInBounds_toArray, List.set_cons_zero, List.set_cons_succ]
        refine wpPlan_free _ ?_ rfl (by rfl) (fun w' => ?_) ?_
        rotate_left
        · go_simp; with_reducible rfl
        simp only [Act.put, List.setIfInBounds_toArray, List.set_cons_zero, List.set_cons_succ]
        refine wpPlan_free _ ?_ rfl (by rfl) (fun w' => ?_) ?_
        rotate_left
        · go_simp; with_reducible rfl
        simp only [Act.put, List.setIfInBounds_toArray, List.set_cons_zero, List.set_cons_succ]
        refine wpPlan_held _ ?_ rfl (by rfl) (fun w' hS => ?_) ?_
        rotate_left
        · obtain ⟨e0, e1⟩ := hS; go_simp; with_reducible rfl
        simp only [Act.put, List.setIfInBounds_toArray, List.set_cons_zero, List.set_cons_succ]
        refine wpPlan_free _ ?_ rfl (by rfl) (fun w' => ?_) ?_
        rotate_left
        · go_simp; with_reducible rfl
        simp only [Act.put, List.setIfInBounds_toArray, List.set_cons_zero, List.set_cons_succ]
        refine wpPlan_free _ ?_ rfl (by rfl) (fun w' => ?_) ?_
        rotate_left
        · go_simp; with_reducible rfl
        simp only [Act.put, List.setIfInBounds_toArray, List.set_cons_zero, List.set_cons_succ]
        refine wpPlan_free _ ?_ rfl (by rfl) (fun w' => ?_) ?_
        rotate_left
        · go_simp; with_reducible rfl
        simp only [Act.put, List.setIfInBounds_toArray, List.set_cons_zero, List.set_cons_succ]
        refine wpPlan_free _ ?_ rfl (by rfl) (fun w' => ?_) ?_
        rotate_left
        · go_simp; with_reducible rfl
        simp only [Act.put, List.setIfInBounds_toArray, List.set_cons_zero, List.set_cons_succ]
        refine wpPlan_do _ rfl (fun K hK => ?_)
        go_simp
        refine hK _ _ (fun h => by cases h) ?_
        clear hK K
        refine wpPlan_nil ?_
        go_wp2_with fail
        go_roundg (mn - (j + 1))
        case measure => omega
        case rel => exact ⟨j + 1, _, by omega, rfl, by go_num, HNX.out, HT1.out.fr ((Fr.refl NoB _).drew) (fun _ _ h => h), HF.out.drew⟩
      · have d2 : decide ((j : Int) / 8 < (b.length : Int)) = false := decide_eq_false (by omega)
        have hU := (hgo (by omega)).out
        refine HEND.out hU _ (fun hR => ?_)
        have HR := Lib.hid hR
        clear hR hU hgo HEND hup hrf
        go_wp2_with fail
        have k0 : ∀ w' : World, Rd w' (fun k => k < w.heap.size) 1 A b.length c (bv b) → (convert 41 9 (.slice A b.length c)).run Try.prog w' = .ok (.string ⟨b.toArray⟩) w' := fun w' hr => run_conv_rd w' 41 9 5 Try.underlying41 Try.underlying5 Try.underlying9 b hr
        have hr0 := h.fr hfr (fun _ _ _ h => h)
        refine wp_region_planG 6 (fun w' => (convert 41 9 (.slice A b.length c)).run Try.prog w' = .ok (.string ⟨b.toArray⟩) w') [(0, 0), (3, 0), (4, 1), (1, 2), (2, 1), (5, 0)] (by kernel_rfl) (by kernel_rfl) (fun _ _ _ _ _ h => h) (k0 _ hr0.drew) ?_
        refine wpPlanG_free _ ?_ rfl (by rfl) (fun w' => ?_) ?_
        rotate_left
        · go_simp; with_reducible rfl
        simp only [Act.put, List.setIfInBounds_toArray, List.set_cons_zero, List.set_cons_succ]
        refine wpPlanG_free _ ?_ rfl (by rfl) (fun w' => ?_) ?_
        rotate_left
        · go_simp; with_reducible rfl
        simp only [Act.put, List.setIfInBounds_toArray, List.set_cons_zero, List.set_cons_succ]
        refine wpPlanG_held _ ?_ rfl (by rfl) (fun w' hS => ?_) ?_
        rotate_left
        · have e0 := hS; go_simp; with_reducible rfl
        simp only [Act.put, List.setIfInBounds_toArray, List.set_cons_zero, List.set_cons_succ]
        refine wpPlanG_do _ rfl (fun K hK => ?_)
        go_simp
        refine (refBytes_any _ (HR.out.fr ((Fr.refl NoB _).drew) (fun _ _ h => h))).mono ?_
        rintro e w5 ⟨bs, A1, c1, hbits1, rfl, harr1, hin1, fr5⟩
        have HR5 := Lib.hid ((HR.out.fr ((Fr.refl NoB _).drew) (fun _ _ h => h)).fr fr5 (fun _ _ h => h))
        have HF5 := Lib.hid ((hfr.drew).trans fr5)
        have k1 : ∀ w' : World, Rd w' (InB A1) 1 A1 bs.length c1 (bv bs) → (convert 41 9 (.slice A1 bs.length c1)).run Try.prog w' = .ok (.string ⟨bs.toArray⟩) w' := fun w' hr => run_conv_rd w' 41 9 5 Try.underlying41 Try.underlying5 Try.underlying9 bs hr
        refine hK _ _ (fun w' => (convert 41 9 (.slice A b.length c)).run Try.prog w' = .ok (.string ⟨b.toArray⟩) w' ∧ (convert 41 9 (.slice A1 bs.length c1)).run Try.prog w' = .ok (.string ⟨bs.toArray⟩) w') (fun _ h => h.1) (fun _ => ⟨k0 _ (hr0.drew.fr fr5 (fun _ _ _ h => h)), k1 _ harr1.rd⟩) ?_
        clear hK K
        refine wpPlanG_held _ ?_ rfl (by rfl) (fun w' hS => ?_) ?_
        rotate_left
        · have e0 := hS.2; go_simp; with_reducible rfl
        simp only [Act.put, List.setIfInBounds_toArray, List.set_cons_zero, List.set_cons_succ]
        by_cases hbb : bs = b
        · have HB : Hid (Bits b (usOf mn b)) := Lib.hid (hbb ▸ hbits1)
          have hne : (bs == b) = true := by simpa using hbb
          clear hbits1 hbb harr1 hin1 k1 k0 hr0
          refine wpPlanG_free _ ?_ rfl (by rfl) (fun w' => ?_) ?_
          rotate_left
          · go_simp; with_reducible rfl
          simp only [Act.put, List.setIfInBounds_toArray, List.set_cons_zero, List.set_cons_succ]
          refine wpPlanG_nil ?_
          go_wp2_with fail
          go_ret2
          exact .inr ⟨mn, rfl, by omega, by omega, .inr ⟨HB.out, p, T, hm, rfl, HR5.out, up1, HF5.out⟩⟩
        · have HB : Hid (¬ Bits b (usOf mn b)) := Lib.hid (fun hh => hbb (hbits1.inj hh))
          have hne : (bs == b) = false := by simpa using hbb
          clear hbits1 hbb harr1 hin1 k1 k0 hr0
          refine wpPlanG_free _ ?_ rfl (by rfl) (fun w' => ?_) ?_
          rotate_left
          · go_simp; with_reducible rfl
          simp only [Act.put, List.setIfInBounds_toArray, List.set_cons_zero, List.set_cons_succ]
          refine wpPlanG_nil ?_
          go_wp2_with fail
          go_ret2
          exact .inr ⟨mn, rfl, by omega, by omega, .inl ⟨HB.out, rfl, HF5.out⟩⟩
    · have d1 : decide ((j : Int) + 1 ≤ (mn : Int)) = false := decide_eq_false (by omega)
      have hU := (hgo (by omega)).out
      refine HEND.out hU _ (fun hR => ?_)
      have HR := Lib.hid hR
      clear hR hU hgo HEND hup hrf
      go_wp2_with fail
      have k0 : ∀ w' : World, Rd w' (fun k => k < w.heap.size) 1 A b.length c (bv b) → (convert 41 9 (.slice A b.length c)).run Try.prog w' = .ok (.string ⟨b.toArray⟩) w' := fun w' hr => run_conv_rd w' 41 9 5 Try.underlying41 Try.underlying5 Try.underlying9 b hr
      have hr0 := h.fr hfr (fun _ _ _ h => h)
      refine wp_region_planG 6 (fun w' => (convert 41 9 (.slice A b.length c)).run Try.prog w' = .ok (.string ⟨b.toArray⟩) w') [(0, 0), (3, 0), (4, 1), (1, 2), (2, 1), (5, 0)] (by kernel_rfl) (by kernel_rfl) (fun _ _ _ _ _ h => h) (k0 _ hr0.drew) ?_
      refine wpPlanG_free _ ?_ rfl (by rfl) (fun w' => ?_) ?_
      rotate_left
      · go_simp; with_reducible rfl
      simp only [Act.put, List.setIfInBounds_toArray, List.set_cons_zero, List.set_cons_succ]
      refine wpPlanG_free _ ?_ rfl (by rfl) (fun w' => ?_) ?_
      rotate_left
      · go_simp; with_reducible rfl
      simp only [Act.put, List.setIfInBounds_toArray, List.set_cons_zero, List.set_cons_succ]
      refine wpPlanG_held _ ?_ rfl (by rfl) (fun w' hS => ?_) ?_
      rotate_left
      · have e0 := hS; go_simp; with_reducible rfl
      simp only [Act.put, List.setIfInBounds_toArray, List.set_cons_zero, List.set_cons_succ]
      refine wpPlanG_do _ rfl (fun K hK => ?_)
      go_simp
      refine (refBytes_any _ (HR.out.fr ((Fr.refl NoB _).drew) (fun _ _ h => h))).mono ?_
      rintro e w5 ⟨bs, A1, c1, hbits1, rfl, harr1, hin1, fr5⟩
      have HR5 := Lib.hid ((HR.out.fr ((Fr.refl NoB _).drew) (fun _ _ h => h)).fr fr5 (fun _ _ h => h))
      have HF5 := Lib.hid ((hfr.drew).trans fr5)
      have k1 : ∀ w' : World, Rd w' (InB A1) 1 A1 bs.length c1 (bv bs) → (convert 41 9 (.slice A1 bs.length c1)).run Try.prog w' = .ok (.string ⟨bs.toArray⟩) w' := fun w' hr => run_conv_rd w' 41 9 5 Try.underlying41 Try.underlying5 Try.underlying9 bs hr
      refine hK _ _ (fun w' => (convert 41 9 (.slice A b.length c)).run Try.prog w' = .ok (.string ⟨b.toArray⟩) w' ∧ (convert 41 9 (.slice A1 bs.length c1)).run Try.prog w' = .ok (.string ⟨bs.toArray⟩) w') (fun _ h => h.1) (fun _ => ⟨k0 _ (hr0.drew.fr fr5 (fun _ _ _ h => h)), k1 _ harr1.rd⟩) ?_
      clear hK K
      refine wpPlanG_held _ ?_ rfl (by rfl) (fun w' hS => ?_) ?_
      rotate_left
      · have e0 := hS.2; go_simp; with_reducible rfl
      simp only [Act.put, List.setIfInBounds_toArray, List.set_cons_zero, List.set_cons_succ]
      by_cases hbb : bs = b
      · have HB : Hid (Bits b (usOf mn b)) := Lib.hid (hbb ▸ hbits1)
        have hne : (bs == b) = true := by simpa using hbb
        clear hbits1 hbb harr1 hin1 k1 k0 hr0
        refine wpPlanG_free _ ?_ rfl (by rfl) (fun w' => ?_) ?_
        rotate_left
        · go_simp; with_reducible rfl
        simp only [Act.put, List.setIfInBounds_toArray, List.set_cons_zero, List.set_cons_succ]
        refine wpPlanG_nil ?_
        go_wp2_with fail
        go_ret2
        exact .inr ⟨mn, rfl, by omega, by omega, .inr ⟨HB.out, p, T, hm, rfl, HR5.out, up1, HF5.out⟩⟩
      · have HB : Hid (¬ Bits b (usOf mn b)) := Lib.hid (fun hh => hbb (hbits1.inj hh))
        have hne : (bs == b) = false := by simpa using hbb
        clear hbits1 hbb harr1 hin1 k1 k0 hr0
        refine wpPlanG_free _ ?_ rfl (by rfl) (fun w' => ?_) ?_
        rotate_left
        · go_simp; with_reducible rfl
        simp only [Act.put, List.setIfInBounds_toArray, List.set_cons_zero, List.set_cons_succ]
        refine wpPlanG_nil ?_
        go_wp2_with fail
        go_ret2
        exact .inr ⟨mn, rfl, by omega, by omega, .inl ⟨HB.out, rfl, HF5.out⟩⟩
end Go.Proofs.Ytmceknchmflgoaa
