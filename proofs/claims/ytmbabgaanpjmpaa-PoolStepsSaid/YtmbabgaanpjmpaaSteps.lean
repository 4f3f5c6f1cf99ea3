/- PoolSteps: the walk. -/
import Derived.Test.YtmbabgaanpjmpaaAsks
namespace Go.Proofs.Ytmbabgaanpjmpaa
open Go.RowKit

def PQs (ss : List Step3) (w : World) (p q n : Nat) (g : Nat) (v : Value) (wr : World) : Prop :=
  ∃ (k : Nat) (B : Nat → Prop) (W0 : World) (S T : Nat → Prop) (fl ck : Int) (L : List Frm), k ≤ ss.length ∧ g = ss.length - k ∧ v = .int .i64 k ∧ PQ B W0 w p q n S T fl ck L k fl L wr

set_option maxHeartbeats 8000000 in
set_option maxRecDepth 100000 in
theorem steps_law (a : Int) (A : Option Addr) (c : Nat) (ss : List Step3) (w : World) (h : StepsIn w w.heap.size A c ss) :
    Calls Try.prog 6 #[.int .i64 a, .slice A ss.length c] w (LawPost w) := by
  have hsl : ss.length ≤ 9223372036854775807 := by have := h.1.2.1; have := h.1.2.2.1; simp only [maxLen] at this; omega
  go_enter Try.func6, Try.ntmps6
  go_wp2_with fail
  refine (new_any a _).mono ?_
  rintro e w1 (⟨a1, a2, p, S, hp, rfl, R1, up1, fr1⟩ | ⟨hbad, rfl, fr1⟩)
  rotate_left
  · go_wp2_with fail
    refine (refNew_any a w1).mono ?_
    rintro e w2 (⟨a1, a2, _⟩ | ⟨_, rfl, fr2⟩)
    · exact absurd ⟨a1, a2⟩ hbad
    go_wp2_with fail
    refine (speaks_any w2).mono ?_
    rintro e w9 ⟨rfl, fr9⟩
    go_wp2_with fail
    go_ret
    exact ⟨rfl, (fr1.trans fr2).trans fr9⟩
  have HR1 := Lib.hid (And.intro R1 (And.intro up1 fr1))
  clear R1 up1 fr1
  go_wp2_with fail
  refine (refNew_any a w1).mono ?_
  rintro e w2 (⟨_, _, q, T, hq, rfl, R2, up2, fr2⟩ | ⟨hbad, _⟩)
  rotate_left
  · exact absurd ⟨a1, a2⟩ hbad
  obtain ⟨n, rfl⟩ := Int.eq_ofNat_of_zero_le (by omega : 0 ≤ a)
  rw [Int.toNat_natCast] at R2
  obtain ⟨R1, up1, fr1⟩ := HR1.out
  rw [Int.toNat_natCast] at R1
  have hT : ∀ k, T k → w.heap.size ≤ k := fun k hk => by have := up2 k hk; have := fr1.size; omega
  have HN : Hid (PQs ss w p q n ss.length (.int .i64 (0 : Nat)) w2) := ⟨0, fun k => S k ∨ T k, w2, S, T, 0, 0, [], Nat.zero_le _, rfl, rfl,
    ⟨⟨R1.fr fr2 (fun _ _ h => h), PGood.empty (by omega) (by omega), up1, fr1.trans fr2⟩, R2, fun k hs ht => by have := R1.lt k hs; have := up2 k ht; omega, hT, Fr.refl _ _, fun _ h => .inl (.inl h), fun _ h => .inl (.inr h)⟩⟩
  clear R1 up1 fr1 R2 up2 fr2 HR1 hT
  go_wp2_with fail
  go_loopg [40] ss.length (fun g v40 wr => PQs ss w p q n g v40 wr)
  case atStart => exact HN.out
  case round =>
    obtain ⟨k, B, W0, S, T, fl, ck, L, hk, rfl, rfl, hw⟩ := hrel
    by_cases hlt : k < ss.length
    · obtain ⟨b, off, kd, ka, kb, hsk, rfl, x0, x1, x2, o1, o2, o3⟩ := (h.fr hw.pn.fr).step hlt
      have hW : Fr NoB wr (wr.alloc (.cells #[.int .i64 kd, .int .i64 ka, .int .i64 kb] 29)) := (Fr.refl _ _).alloc _
      have HB := Lib.hid (Bk.new wr 29 #[.int .i64 kd, .int .i64 ka, .int .i64 kb])
      have hnK : Hid (¬ (S wr.heap.size ∨ T wr.heap.size)) := Lib.hid fun hs => by
        rcases hs with hs | hs
        · have := hw.pn.raw.lt _ hs; omega
        · have := hw.rp.lt _ hs; omega
      have HQ := Lib.hid (PQ.base (hw.keep hW))
      clear hw hW hsk
      go_wp2_with fail
      refine (asks_any kd ka kb o2 HQ.out (by omega)).mono ?_
      rintro e w3 ⟨rfl, S3, T3, fl3, ck3, L3, hq3⟩
      have hnST : ¬ (S wr.heap.size ∨ T wr.heap.size) := hnK.out
      have b3 := HB.out.fr hq3.ff hnST
      have H3 := Lib.hid hq3
      have HB3 := Lib.hid b3
      have hll : L3.length ≤ 64 := by have := hq3.pn.good.len; have := hq3.pn.good.n2; omega
      have ho1 := oldest_any hq3.pn.raw hq3.pn.good
      clear hq3 b3 hnST HQ HB hnK x0 x1 x2
      go_wp2_with fail
      refine ho1.mono ?_
      rintro e w4 ⟨rfl, f4⟩
      have H4 := Lib.hid (H3.out.keep f4)
      have HB4 := Lib.hid (HB3.out.fr f4 (fun h => h))
      have ho2 := refOldest_any H4.out.rp hll
      clear f4 H3 HB3 ho1
      generalize (oldF L3).1 = lo at *
      generalize (oldF L3).2 = lt at *
      go_wp2_with fail
      refine ho2.mono ?_
      rintro e w5 ⟨rfl, f5⟩
      have H5 := Lib.hid (H4.out.keep (f5.trans (Fr.refl NoB w5).drew))
      have HB5 := Lib.hid (HB4.out.fr (f5.trans (Fr.refl NoB w5).drew) (fun h => h))
      have c5 : w5.drew.cell? ⟨wr.heap.size, 1, none⟩ = some (.int .i64 ka) := HB5.out.cell 1
      clear f5 H4 HB4 ho2
      go_wp2_with fail
      refine wp_region_plan 27 (fun w' => w'.cell? ⟨wr.heap.size, 1, none⟩ = some (.int .i64 ka)) [(0, 0), (2, 0), (1, 2), (3, 2), (4, 2), (5, 0), (6, 0), (7, 0), (8, 0), (9, 1), (11, 0), (12, 0), (13, 1), (10, 2), (14, 2), (15, 0), (16, 0), (17, 0), (18, 0), (19, 0), (20, 0), (21, 0), (22, 0), (23, 0), (24, 0), (25, 0), (26, 0)] (by kernel_rfl) (by kernel_rfl) (fun _ _ _ _ _ h => h) c5 ?_
      refine wpPlan_free _ ?_ rfl (by rfl) (fun w' => ?_) ?_
      rotate_left
      · go_simp; with_reducible rfl
      simp only [Act.put, List.setIfInBounds_toArray, List.set_cons_zero, List.set_cons_succ]
      refine wpPlan_free _ ?_ rfl (by rfl) (fun w' => ?_) ?_
      rotate_left
      · go_simp; with_reducible rfl
      simp only [Act.put, List.setIfInBounds_toArray, List.set_cons_zero, List.set_cons_succ]
      refine wpPlan_do _ rfl (fun K hK => ?_)
      go_simp
      refine (pages_any H5.out.pn.raw H5.out.pn.good).mono ?_
      rintro e w6 ⟨A6, c6, rfl, a6, _, f6⟩
      have h6 := H5.out.keep f6
      have z6 := f6.cell_some c5 (fun h => h)
      refine hK _ _ (fun _ => z6) ?_
      clear hK K
      refine wpPlan_do _ rfl (fun K hK => ?_)
      go_simp
      refine (refPages_any h6.rp hll).mono ?_
      rintro e w7 ⟨A7, c7, rfl, a7, _, f7⟩
      have h7 := h6.keep f7
      have z7 := f7.cell_some z6 (fun h => h)
      refine hK _ _ (fun _ => z7) ?_
      clear hK K
      have hint := ints_same (xs := L3.map (·.page)) w7 (by rw [List.length_map]; exact (a6.fr f7 (fun _ _ h => h)).rd) (by rw [List.length_map]; exact a7.rd)
      rw [List.length_map] at hint
      refine wpPlan_do _ rfl (fun K hK => ?_)
      go_simp
      refine hint.mono ?_
      rintro e w8 ⟨rfl, n8, rfl⟩
      have f8 : Fr NoB w7 (w7.drewN n8) := (Fr.refl NoB w7).drewN n8
      have h8 := h7.keep f8
      have z8 := f8.cell_some z7 (fun h => h)
      refine hK _ _ (fun _ => z8) ?_
      clear hK K
      refine wpPlan_free _ ?_ rfl (by rfl) (fun w' => ?_) ?_
      rotate_left
      · go_simp; with_reducible rfl
      simp only [Act.put, List.setIfInBounds_toArray, List.set_cons_zero, List.set_cons_succ]
      refine wpPlan_free _ ?_ rfl (by rfl) (fun w' => ?_) ?_
      rotate_left
      · go_simp; with_reducible rfl
      simp only [Act.put, List.setIfInBounds_toArray, List.set_cons_zero, List.set_cons_succ]
      refine wpPlan_free _ ?_ rfl (by rfl) (fun w' => ?_) ?_
      rotate_left
      · go_simp; with_reducible rfl
      simp only [Act.put, List.setIfInBounds_toArray, List.set_cons_zero, List.set_cons_succ]
      refine wpPlan_free _ ?_ rfl (by rfl) (fun w' => ?_) ?_
      rotate_left
      · go_simp; with_reducible rfl
      simp only [Act.put, List.setIfInBounds_toArray, List.set_cons_zero, List.set_cons_succ]
      refine wpPlan_held _ ?_ rfl (by rfl) (fun w' hS => ?_) ?_
      rotate_left
      · have e0 := hS; go_simp; with_reducible rfl
      simp only [Act.put, List.setIfInBounds_toArray, List.set_cons_zero, List.set_cons_succ]
      refine wpPlan_free _ ?_ rfl (by rfl) (fun w' => ?_) ?_
      rotate_left
      · go_simp; with_reducible rfl
      simp only [Act.put, List.setIfInBounds_toArray, List.set_cons_zero, List.set_cons_succ]
      refine wpPlan_free _ ?_ rfl (by rfl) (fun w' => ?_) ?_
      rotate_left
      · go_simp; with_reducible rfl
      simp only [Act.put, List.setIfInBounds_toArray, List.set_cons_zero, List.set_cons_succ]
      refine wpPlan_held _ ?_ rfl (by rfl) (fun w' hS => ?_) ?_
      rotate_left
      · have e0 := hS; go_simp; with_reducible rfl
      simp only [Act.put, List.setIfInBounds_toArray, List.set_cons_zero, List.set_cons_succ]
      refine wpPlan_do _ rfl (fun K hK => ?_)
      go_simp
      refine (pins_any ka h8.pn.raw h8.pn.good o2).mono ?_
      rintro e w9 ⟨rfl, rfl⟩
      refine hK _ _ (fun _ => z8) ?_
      clear hK K
      refine wpPlan_do _ rfl (fun K hK => ?_)
      go_simp
      refine (refPins_any ka h8.rp h8.pn.good).mono ?_
      rintro e w10 ⟨rfl, f10⟩
      refine hK _ _ (fun _ => f10.cell_some z8 (fun h => h)) ?_
      clear hK K
      refine wpPlan_free _ ?_ rfl (by rfl) (fun w' => ?_) ?_
      rotate_left
      · go_simp; with_reducible rfl
      simp only [Act.put, List.setIfInBounds_toArray, List.set_cons_zero, List.set_cons_succ]
      refine wpPlan_free _ ?_ rfl (by rfl) (fun w' => ?_) ?_
      rotate_left
      · go_simp; with_reducible rfl
      simp only [Act.put, List.setIfInBounds_toArray, List.set_cons_zero, List.set_cons_succ]
      refine wpPlan_free _ ?_ rfl (by rfl) (fun w' => ?_) ?_
      rotate_left
      · go_simp; with_reducible rfl
      simp only [Act.put, List.setIfInBounds_toArray, List.set_cons_zero, List.set_cons_succ]
      refine wpPlan_free _ ?_ rfl (by rfl) (fun w' => ?_) ?_
      rotate_left
      · go_simp; with_reducible rfl
      simp only [Act.put, List.setIfInBounds_toArray, List.set_cons_zero, List.set_cons_succ]
      refine wpPlan_free _ ?_ rfl (by rfl) (fun w' => ?_) ?_
      rotate_left
      · go_simp; with_reducible rfl
      simp only [Act.put, List.setIfInBounds_toArray, List.set_cons_zero, List.set_cons_succ]
      refine wpPlan_free _ ?_ rfl (by rfl) (fun w' => ?_) ?_
      rotate_left
      · go_simp; with_reducible rfl
      simp only [Act.put, List.setIfInBounds_toArray, List.set_cons_zero, List.set_cons_succ]
      refine wpPlan_free _ ?_ rfl (by rfl) (fun w' => ?_) ?_
      rotate_left
      · go_simp; with_reducible rfl
      simp only [Act.put, List.setIfInBounds_toArray, List.set_cons_zero, List.set_cons_succ]
      refine wpPlan_free _ ?_ rfl (by rfl) (fun w' => ?_) ?_
      rotate_left
      · go_simp; with_reducible rfl
      simp only [Act.put, List.setIfInBounds_toArray, List.set_cons_zero, List.set_cons_succ]
      refine wpPlan_free _ ?_ rfl (by rfl) (fun w' => ?_) ?_
      rotate_left
      · go_simp; with_reducible rfl
      simp only [Act.put, List.setIfInBounds_toArray, List.set_cons_zero, List.set_cons_succ]
      refine wpPlan_free _ ?_ rfl (by rfl) (fun w' => ?_) ?_
      rotate_left
      · go_simp; with_reducible rfl
      simp only [Act.put, List.setIfInBounds_toArray, List.set_cons_zero, List.set_cons_succ]
      refine wpPlan_free _ ?_ rfl (by rfl) (fun w' => ?_) ?_
      rotate_left
      · go_simp; with_reducible rfl
      simp only [Act.put, List.setIfInBounds_toArray, List.set_cons_zero, List.set_cons_succ]
      refine wpPlan_free _ ?_ rfl (by rfl) (fun w' => ?_) ?_
      rotate_left
      · go_simp; with_reducible rfl
      simp only [Act.put, List.setIfInBounds_toArray, List.set_cons_zero, List.set_cons_succ]
      refine wpPlan_nil ?_
      have HE := Lib.hid (h8.keep f10)
      go_wp2_with fail
      go_roundg (ss.length - (k + 1))
      case measure => omega
      case rel => exact ⟨k + 1, _, _, S3, T3, fl3, ck3, L3, by omega, rfl, by go_num, HE.out⟩
    · obtain rfl : k = ss.length := by omega
      have HW := Lib.hid hw.pn.fr
      clear hw
      go_wp2_with fail
      refine (speaks_any wr).mono ?_
      rintro e w9 ⟨rfl, fr9⟩
      go_wp2_with fail
      go_ret
      exact ⟨rfl, HW.out.trans fr9⟩
end Go.Proofs.Ytmbabgaanpjmpaa
