/- The contract of Pick: a message comes out. -/
import Derived.Test.YteaiifhppcibgaaPull
import Derived.Test.YteaiifhppcibgaaSendB
namespace Go.Proofs.Yteaiifhppcibgaa
open Go.RowKit

theorem pick_some {S : Nat → Prop} {n : Nat} {nodes : Int} {L : List Msg} (k : Nat) (m : Msg) (w : World) (h : NetAt w S n nodes L) (hk : L[k]? = some m) :
    Calls Try.prog 10 #[.pointer (some ⟨n, 0, none⟩), .int .i64 k] w (PickSome S n nodes L k m w) := by
  obtain ⟨i0, hi, hz0, hz1, hz2⟩ := info_parts info36
  have hlen := fun o : Obj => len_net (w.alloc o) (h.fr (T := NoB) ((Fr.refl _ _).alloc o) (fun _ _ h => h))
  have hfew := h.few
  obtain ⟨⟨A', c', css, hbk, harr, hcl, hcm, hcA, hcS, hcp⟩, hS, hlt, _⟩ := h
  have hkl : k < L.length := (List.getElem?_eq_some_iff.1 hk).1
  have h3 := css_len hcl hcm
  obtain ⟨g, cur, rfl, hcur, hnc, hcm', hcs, htk⟩ : ∃ g cur, A' = some ⟨g, 0, none⟩ ∧ Bk w g 36 cur ∧ L.length ≤ c' ∧ c' ≤ maxLen ∧ c' * 3 ≤ cur.size ∧ cur.toList.take (L.length * 3) = css.flatten := by
    rcases harr.2 with ⟨_, h0, _⟩ | h0
    · omega
    · exact h0
  obtain ⟨cs, hcs'⟩ : ∃ cs, css[k]? = some cs := ⟨_, List.getElem?_eq_getElem (by omega)⟩
  obtain ⟨A, c, rfl, harrm⟩ := hcm k cs m hcs' hk
  have hat : At w ⟨g, 0, none⟩ css.flatten := At.of_bk (o := 0) (n := L.length * 3) hcur (by simpa using htk)
  have hm0 : w.cell? ⟨g, k * 3, none⟩ = some (.int .i64 m.f) := by
    have := hat (k * 3 + 0) _ (flat_get h3 hcs' (by omega))
    rw [addr_lit] at this
    simpa using this
  have hm1 : w.cell? ⟨g, k * 3 + 1, none⟩ = some (.int .i64 m.t) := by
    have := hat (k * 3 + 1) _ (flat_get h3 hcs' (by omega))
    rw [addr_lit] at this
    simpa using this
  have hm2 : w.cell? ⟨g, k * 3 + 2, none⟩ = some (.slice A m.b.length c) := by
    have := hat (k * 3 + 2) _ (flat_get h3 hcs' (by omega))
    rw [addr_lit] at this
    simpa using this
  have hc2 : w.cell? ⟨n, 1, none⟩ = some (.slice (some ⟨g, 0, none⟩) L.length c') := hbk.cell 1
  have hgl := hcur.lt
  have hnl := hbk.lt
  go_enter Try.func10, Try.ntmps10
  go_wp2_with fail
  refine (hlen _).mono ?_
  rintro e w' ⟨rfl, rfl⟩
  have hd0 : decide ((k : Int) < 0) = false := by simp
  have hd1 : decide (L.length ≤ k) = false := by simp; omega
  go_wp2_with fail
  have hFW : Fr NoB w ((w.alloc (.cells #[.int .i64 0, .int .i64 0, .slice none 0 0] 36)).alloc (.cells #[.int .i64 m.f, .int .i64 m.t, .slice A m.b.length c] 36)) := ((Fr.refl _ _).alloc _).alloc _
  generalize hW : (w.alloc (.cells #[.int .i64 0, .int .i64 0, .slice none 0 0] 36)).alloc (.cells #[.int .i64 m.f, .int .i64 m.t, .slice A m.b.length c] 36) = W at *
  have hB1 : Bk W w.heap.size 36 #[.int .i64 0, .int .i64 0, .slice none 0 0] := by rw [← hW]; exact (Bk.new _ _ _).alloc _
  have hB2 : Bk W (w.heap.size + 1) 36 #[.int .i64 m.f, .int .i64 m.t, .slice A m.b.length c] := by
    rw [← hW]
    have := Bk.new (w.alloc (.cells #[.int .i64 0, .int .i64 0, .slice none 0 0] 36)) 36 #[.int .i64 m.f, .int .i64 m.t, .slice A m.b.length c]
    simpa using this
  have hWz : W.heap.size = w.heap.size + 2 := by rw [← hW]; simp
  clear hW
  obtain ⟨b, hB⟩ : ∃ b, b = w.heap.size := ⟨_, rfl⟩
  rw [← hB] at hB1 hB2 hWz ⊢
  have HB := Lib.hid hB
  have HZ := Lib.hid hWz
  clear hB hWz
  have hd2 : W.cell? ⟨n, 1, none⟩ = some (.slice (some ⟨g, 0, none⟩) L.length c') := hFW.cell_some hc2 (fun h => h)
  have hkc : k ≤ c' := by omega
  have hw1 : IntKind.i64.wrap ((k : Int) + 1) = (k : Int) + 1 := by rw [IntKind.wrap_i64]; omega
  have hp0 : (0 : Int) ≤ (k : Int) + 1 := by omega
  have hp1 : (k : Int) + 1 ≤ (L.length : Int) := by omega
  have hp2 : ((k : Int) + 1).toNat = k + 1 := by omega
  refine wp_region_plan 18 (fun w' => w'.cell? ⟨n, 1, none⟩ = some (.slice (some ⟨g, 0, none⟩) L.length c'))
    [(0, 0), (1, 0), (2, 0), (3, 0), (4, 1), (5, 0), (6, 0), (7, 0), (8, 0), (9, 0), (10, 0), (11, 1), (12, 0), (13, 0), (14, 0), (15, 2), (16, 0), (17, 0), (18, 2)] (by kernel_rfl) (by kernel_rfl) (fun _ _ _ _ _ h => h) hd2 ?_
  refine wpPlan_free _ ?_ rfl (by rfl) (fun w' => ?_) ?_
  rotate_left
  · go_simp; with_reducible rfl
  simp only [Act.put, List.setIfInBounds_toArray, List.set_cons_zero, List.set_cons_succ]
  refine wpPlan_free _ ?_ rfl (by rfl) (fun w' => ?_) ?_
  rotate_left
  · go_simp; with_reducible rfl
  simp only [Act.put, List.setIfInBounds_toArray, List.set_cons_zero, List.set_cons_succ]
  refine wpPlan_free _ ?_ rfl (by rfl) (fun w' => ?_) ?_
  rotate_left
  · go_simp; with_reducible rfl
  simp only [Act.put, List.setIfInBounds_toArray, List.set_cons_zero, List.set_cons_succ]
  refine wpPlan_free _ ?_ rfl (by rfl) (fun w' => ?_) ?_
  rotate_left
  · go_simp; with_reducible rfl
  simp only [Act.put, List.setIfInBounds_toArray, List.set_cons_zero, List.set_cons_succ]
  refine wpPlan_held _ ?_ rfl (by rfl) (fun w' hS => ?_) ?_
  rotate_left
  ·  go_simp; with_reducible rfl
  simp only [Act.put, List.setIfInBounds_toArray, List.set_cons_zero, List.set_cons_succ]
  refine wpPlan_free _ ?_ rfl (by rfl) (fun w' => ?_) ?_
  rotate_left
  · go_simp; with_reducible rfl
  simp only [Act.put, List.setIfInBounds_toArray, List.set_cons_zero, List.set_cons_succ]
  refine wpPlan_free _ ?_ rfl (by rfl) (fun w' => ?_) ?_
  rotate_left
  · go_simp; with_reducible rfl
  simp only [Act.put, List.setIfInBounds_toArray, List.set_cons_zero, List.set_cons_succ]
  refine wpPlan_free _ ?_ rfl (by rfl) (fun w' => ?_) ?_
  rotate_left
  · go_simp; with_reducible rfl
  simp only [Act.put, List.setIfInBounds_toArray, List.set_cons_zero, List.set_cons_succ]
  refine wpPlan_free _ ?_ rfl (by rfl) (fun w' => ?_) ?_
  rotate_left
  · go_simp; with_reducible rfl
  simp only [Act.put, List.setIfInBounds_toArray, List.set_cons_zero, List.set_cons_succ]
  refine wpPlan_free _ ?_ rfl (by rfl) (fun w' => ?_) ?_
  rotate_left
  · go_simp; with_reducible rfl
  simp only [Act.put, List.setIfInBounds_toArray, List.set_cons_zero, List.set_cons_succ]
  refine wpPlan_free _ ?_ rfl (by rfl) (fun w' => ?_) ?_
  rotate_left
  · go_simp; with_reducible rfl
  simp only [Act.put, List.setIfInBounds_toArray, List.set_cons_zero, List.set_cons_succ]
  refine wpPlan_held _ ?_ rfl (by rfl) (fun w' hS => ?_) ?_
  rotate_left
  ·  go_simp; with_reducible rfl
  simp only [Act.put, List.setIfInBounds_toArray, List.set_cons_zero, List.set_cons_succ]
  refine wpPlan_free _ ?_ rfl (by rfl) (fun w' => ?_) ?_
  rotate_left
  · go_simp; with_reducible rfl
  simp only [Act.put, List.setIfInBounds_toArray, List.set_cons_zero, List.set_cons_succ]
  refine wpPlan_free _ ?_ rfl (by rfl) (fun w' => ?_) ?_
  rotate_left
  · go_simp; with_reducible rfl
  simp only [Act.put, List.setIfInBounds_toArray, List.set_cons_zero, List.set_cons_succ]
  refine wpPlan_free _ ?_ rfl (by rfl) (fun w' => ?_) ?_
  rotate_left
  · go_simp; with_reducible rfl
  simp only [Act.put, List.setIfInBounds_toArray, List.set_cons_zero, List.set_cons_succ]
  have hbW : Bk W n 60 #[.int .i64 nodes, .slice (some ⟨g, 0, none⟩) L.length c'] := hbk.fr hFW (fun h => h)
  have hcurW := hcur.fr hFW (fun h => h)
  have harrK : Arr W.drew 36 3 (some ⟨g, 0, none⟩) k k (css.take k).flatten := by
    refine ⟨by rw [flat_len (s := 3) fun cs hc => h3 cs (List.mem_of_mem_take hc), List.length_take]; congr 1; omega, .inr ⟨g, cur, rfl, hcurW, Nat.le_refl _, by omega, Nat.le_trans (Nat.mul_le_mul_right _ hkc) hcs, ?_⟩⟩
    rw [← flat_take h3, ← htk, List.take_take]
    congr 1
    omega
  have hsrc : Rd W.drew (fun j => j = g) 3 (if c' = k + 1 then some ⟨g, 0, none⟩ else some ⟨g, (k + 1) * 3, none⟩) (L.length - (k + 1)) (c' - (k + 1)) (css.drop (k + 1)).flatten := by
    refine ⟨by rw [flat_len (s := 3) fun cs hc => h3 cs (List.mem_of_mem_drop hc), List.length_drop, hcl], by omega, by omega, fun h => (by split at h <;> cases h), fun a ha h0 => ?_⟩
    rw [if_neg (by omega)] at ha
    cases ha
    refine ⟨rfl, hcurW.lt, ?_⟩
    have hx : (cur.toList.drop ((k + 1) * 3)).take ((L.length - (k + 1)) * 3) = (css.drop (k + 1)).flatten := by
      rw [← flat_drop h3, ← htk, List.drop_take]
      congr 1
      rw [← Nat.sub_mul]
    exact At.of_bk hcurW hx
  have hone : ∀ u ∈ (css.drop (k + 1)).flatten, u.oneCell' = true := by
    intro u hu
    obtain ⟨cs, h1, h2⟩ := List.mem_flatten.1 hu
    obtain ⟨j, hj⟩ := List.getElem?_of_mem (List.mem_of_mem_drop h1)
    have hjl : j < L.length := by have := (List.getElem?_eq_some_iff.1 hj).1; omega
    obtain ⟨A9, c9, rfl, _⟩ := hcm j cs _ hj (List.getElem?_eq_getElem hjl)
    simp at h2
    rcases h2 with rfl | rfl | rfl <;> rfl
  refine wpPlan_do _ rfl (fun K hK => ?_)
  refine step_append_arr _ rfl (.tmp 30) (.tmp 37) 46 rfl 36 i0 _ 3 40 Try.underlying46 hi hz0 hz1 hz2 rfl (some ⟨g, 0, none⟩) k k _ rfl harrK _ _ _ _ _ rfl hsrc hone ?_ ?_ ?_
  · simp only [maxLen]; omega
  · omega
  intro A3 c3 w3 harr3 hfr3 hin3 _
  have hnA : ¬ InB (some ⟨g, 0, none⟩) n := fun h => by
    obtain ⟨cur, hb'⟩ := harr.bk h
    exact hbk.types hb' (by decide) rfl
  have hbw3 := hbW.drew.fr hfr3 hnA
  have f1 : w3.cell? ⟨n, 1, none⟩ = some (.slice (some ⟨g, 0, none⟩) L.length c') := hbw3.cell 1
  have f2 := hbw3.frozen 1
  have hb := HB.out
  have hz := HZ.out
  have hgA : ∀ j, b ≤ j → ¬ InB (some ⟨g, 0, none⟩) j := fun j hj h => by rw [InB.some_] at h; simp only [] at h; omega
  have k1 := hB1.drew.fr hfr3 (hgA b (Nat.le_refl _))
  have k2 := hB2.drew.fr hfr3 (hgA (b + 1) (by omega))
  clear hb hz
  refine hK _ _ (fun _ => f1) ?_
  clear hK K
  simp only [Act.put, List.setIfInBounds_toArray, List.set_cons_zero, List.set_cons_succ]
  refine wpPlan_free _ ?_ rfl (by rfl) (fun w' => ?_) ?_
  rotate_left
  · go_simp; with_reducible rfl
  simp only [Act.put, List.setIfInBounds_toArray, List.set_cons_zero, List.set_cons_succ]
  refine wpPlan_free _ ?_ rfl (by rfl) (fun w' => ?_) ?_
  rotate_left
  · go_simp; with_reducible rfl
  simp only [Act.put, List.setIfInBounds_toArray, List.set_cons_zero, List.set_cons_succ]
  refine wpPlan_do _ rfl (fun K hK => ?_)
  go_simp
  refine hK _ _ (fun h => by cases h) ?_
  clear hK K
  refine wpPlan_nil ?_
  have hpull := netAt_pull hbk harr hcl hcm hcA hcS hcp hS hlt hfew hk hcs' harrm hFW.drew harr3 hfr3 hin3
  have HP := Lib.hid hpull
  clear hpull
  have l1 : Bk (w3.setCell ⟨n, 1, none⟩ (.slice A3 (k + (L.length - (k + 1))) c3)) b 36 #[.int .i64 0, .int .i64 0, .slice none 0 0] := k1.far (p := ⟨n, 1, none⟩) (by have := HB.out; simp only []; omega) _
  have l2 : Bk (w3.setCell ⟨n, 1, none⟩ (.slice A3 (k + (L.length - (k + 1))) c3)) (b + 1) 36 #[.int .i64 m.f, .int .i64 m.t, .slice A m.b.length c] := k2.far (p := ⟨n, 1, none⟩) (by have := HB.out; simp only []; omega) _
  generalize w3.setCell ⟨n, 1, none⟩ (.slice A3 (k + (L.length - (k + 1))) c3) = w4 at *
  clear k1 k2 hbw3 f1 f2 hin3 hfr3 harr3
  have q0 : w4.cell? ⟨b, 0, none⟩ = some (.int .i64 0) := l1.cell 0
  have q1 : w4.cell? ⟨b, 1, none⟩ = some (.int .i64 0) := l1.cell 1
  have q2 : w4.cell? ⟨b, 2, none⟩ = some (.slice none 0 0) := l1.cell 2
  have z0 := l1.frozen 0
  have z1 := l1.frozen 1
  have z2 := l1.frozen 2
  have p0 : w4.cell? ⟨b + 1, 0, none⟩ = some (.int .i64 m.f) := l2.cell 0
  have p1 : w4.cell? ⟨b + 1, 1, none⟩ = some (.int .i64 m.t) := l2.cell 1
  have p2 : w4.cell? ⟨b + 1, 2, none⟩ = some (.slice A m.b.length c) := l2.cell 2
  generalize (if c' = k + 1 then (some ⟨g, 0, none⟩ : Option Addr) else some ⟨g, (k + 1) * 3, none⟩) = AX
  go_wp2
  have l3 := ((l1.set 0 (.int .i64 m.f)).set 1 (.int .i64 m.t)).set 2 (.slice A m.b.length c)
  have r0 := l3.cell 0
  have r1 := l3.cell 1
  have r2 := l3.cell 2
  have hs := fr_set3 w4 b (.int .i64 m.f) (.int .i64 m.t) (.slice A m.b.length c)
  obtain ⟨S', h1, h2, h3', h4, h5, h6⟩ := HP.out
  have hb := HB.out
  have hz := HZ.out
  have hSb : ∀ j, S' j → j ≠ b := fun j hj e => by
    rcases h6 j hj with h | h
    · have := hlt j h
      omega
    · have e2 : W.drew.heap.size = W.heap.size := rfl
      omega
  have t1 := h1.fr hs hSb
  have t2 : Fr S w (((w4.setCell ⟨b, 0, none⟩ (.int .i64 m.f)).setCell ⟨b, 1, none⟩ (.int .i64 m.t)).setCell ⟨b, 2, none⟩ (.slice A m.b.length c)) := h2.join hs (fun j hj e => by omega)
  have t4 := h4.fr hs (fun j hj e => by have := hlt j (h5 j hj).1; omega)
  refine bodyPost_ret (v := .tuple #[.agg #[.int .i64 m.f, .int .i64 m.t, .slice A m.b.length c], .int .i64 0]) (by simp [results, Try.results10, go_sem, r0, r1, r2]) rfl ⟨S', A, c, rfl, t4, h5, t1, t2, h3'⟩
end Go.Proofs.Yteaiifhppcibgaa
