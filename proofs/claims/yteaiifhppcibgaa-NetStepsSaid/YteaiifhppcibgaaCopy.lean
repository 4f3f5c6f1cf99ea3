/- The contracts of Copy and Drop. -/
import Derived.Test.YteaiifhppcibgaaPickB
namespace Go.Proofs.Yteaiifhppcibgaa
open Go.RowKit

theorem copy_none {S : Nat → Prop} {n : Nat} {nodes : Int} {L : List Msg} (i : Int) (w : World) (h : NetAt w S n nodes L) (hi : ¬ (0 ≤ i ∧ i < L.length)) :
    Calls Try.prog 13 #[.pointer (some ⟨n, 0, none⟩), .int .i64 i] w (SendPost S n nodes (6, L) w) := by
  have hlen := len_net w h
  have H := Lib.hid h
  by_cases h0 : i < 0
  · clear h hlen
    go_enter Try.func13, Try.ntmps13
    go_wp2_with fail
    go_ret
    exact sendPost_same H.out (Fr.refl _ _)
  · have h1 : (L.length : Int) ≤ i := by omega
    clear h
    go_enter Try.func13, Try.ntmps13
    go_wp2_with fail
    refine hlen.mono ?_
    rintro e w' ⟨rfl, rfl⟩
    go_wp2_with fail
    go_ret
    exact sendPost_same H.out (Fr.refl _ _)

theorem copy_full {S : Nat → Prop} {n : Nat} {nodes : Int} {L : List Msg} (k : Nat) (w : World) (h : NetAt w S n nodes L) (hk : k < L.length) (hl : L.length = 1024) :
    Calls Try.prog 13 #[.pointer (some ⟨n, 0, none⟩), .int .i64 k] w (SendPost S n nodes (5, L) w) := by
  have hlen := len_net w h
  have H := Lib.hid h
  obtain ⟨⟨A', c', css, hbk, _⟩, _⟩ := h
  have hc2 : w.cell? ⟨n, 1, none⟩ = some (.slice A' L.length c') := hbk.cell 1
  have hq : ((L.length : Int) == 1024) = true := by rw [hl]; rfl
  have HL := Lib.hid hl; clear hl
  go_enter Try.func13, Try.ntmps13
  go_wp2_with fail
  refine hlen.mono ?_
  rintro e w' ⟨rfl, rfl⟩
  go_wp2_with fail
  go_ret
  exact sendPost_same H.out (Fr.refl _ _)

theorem copy_ok {S : Nat → Prop} {n : Nat} {nodes : Int} {L : List Msg} (k : Nat) (m : Msg) (w : World) (h : NetAt w S n nodes L) (hk : L[k]? = some m) (hl : L.length < 1024) (hmb : m.b.length ≤ 65535) :
    Calls Try.prog 13 #[.pointer (some ⟨n, 0, none⟩), .int .i64 k] w (SendPost S n nodes (0, L ++ [m]) w) := by
  obtain ⟨i0, hi, hz0, hz1, hz2⟩ := info_parts info36
  have hlen := len_net w h
  obtain ⟨⟨A', c', css, hbk, harr, hcl, hcm, hcA, hcS, hcp⟩, hS, hlt, _⟩ := h
  have hkl : k < L.length := (List.getElem?_eq_some_iff.1 hk).1
  have h3 := css_len hcl hcm
  obtain ⟨g, cur, rfl, hcur, hnc, hcm', hcs, htk⟩ : ∃ g cur, A' = some ⟨g, 0, none⟩ ∧ Bk w g 36 cur ∧ L.length ≤ c' ∧ c' ≤ maxLen ∧ c' * 3 ≤ cur.size ∧ cur.toList.take (L.length * 3) = css.flatten := by
    rcases harr.2 with ⟨_, h0, _⟩ | h0
    · omega
    · exact h0
  obtain ⟨cs, hcs'⟩ : ∃ cs, css[k]? = some cs := ⟨_, List.getElem?_eq_getElem (by omega)⟩
  obtain ⟨A, c, rfl, harrm⟩ := hcm k cs m hcs' hk
  have hat : At w ⟨g, 0, none⟩ css.flatten := At.of_bk (o := 0) (n := L.length * 3) hcur (by simpa using htk)
  have hm0 : w.cell? ⟨g, k * 3, none⟩ = some (.int .i64 m.f) := by
    have := hat (k * 3 + 0) _ (flat_get h3 hcs' (by omega))
    rw [addr_lit] at this
    simpa using this
  have hm1 : w.cell? ⟨g, k * 3 + 1, none⟩ = some (.int .i64 m.t) := by
    have := hat (k * 3 + 1) _ (flat_get h3 hcs' (by omega))
    rw [addr_lit] at this
    simpa using this
  have hm2 : w.cell? ⟨g, k * 3 + 2, none⟩ = some (.slice A m.b.length c) := by
    have := hat (k * 3 + 2) _ (flat_get h3 hcs' (by omega))
    rw [addr_lit] at this
    simpa using this
  have hc2 : w.cell? ⟨n, 1, none⟩ = some (.slice (some ⟨g, 0, none⟩) L.length c') := hbk.cell 1
  have hq : ((L.length : Int) == 1024) = false := by simp; omega
  have hd0 : decide ((k : Int) < 0) = false := by simp
  have hd1 : decide (L.length ≤ k) = false := by simp; omega
  have hnl := hbk.lt
  go_enter Try.func13, Try.ntmps13
  go_wp2_with fail
  refine hlen.mono ?_
  rintro e w' ⟨rfl, rfl⟩
  go_wp2_with fail
  have hp0 : (0 : Int) ≤ (k : Int) := by omega
  have hp1 : (k : Int) < (L.length : Int) := by omega
  refine wp_region_plan 17 (fun w' => w'.cell? ⟨n, 1, none⟩ = some (.slice (some ⟨g, 0, none⟩) L.length c') ∧ w'.cell? ⟨g, k * 3, none⟩ = some (.int .i64 m.f) ∧ w'.cell? ⟨g, k * 3 + 1, none⟩ = some (.int .i64 m.t) ∧ w'.cell? ⟨g, k * 3 + 2, none⟩ = some (.slice A m.b.length c))
    [(0, 0), (1, 0), (2, 0), (3, 0), (4, 1), (5, 0), (6, 0), (7, 0), (8, 1), (9, 0), (10, 0), (11, 1), (12, 2), (13, 2), (14, 2), (15, 0), (16, 0), (17, 2)] (by kernel_rfl) (by kernel_rfl) (fun _ _ _ _ _ h => h) ⟨hc2, hm0, hm1, hm2⟩ ?_
  refine wpPlan_free _ ?_ rfl (by rfl) (fun w' => ?_) ?_
  rotate_left
  · go_simp; with_reducible rfl
  simp only [Act.put, List.setIfInBounds_toArray, List.set_cons_zero, List.set_cons_succ]
  refine wpPlan_free _ ?_ rfl (by rfl) (fun w' => ?_) ?_
  rotate_left
  · go_simp; with_reducible rfl
  simp only [Act.put, List.setIfInBounds_toArray, List.set_cons_zero, List.set_cons_succ]
  refine wpPlan_free _ ?_ rfl (by rfl) (fun w' => ?_) ?_
  rotate_left
  · go_simp; with_reducible rfl
  simp only [Act.put, List.setIfInBounds_toArray, List.set_cons_zero, List.set_cons_succ]
  refine wpPlan_free _ ?_ rfl (by rfl) (fun w' => ?_) ?_
  rotate_left
  · go_simp; with_reducible rfl
  simp only [Act.put, List.setIfInBounds_toArray, List.set_cons_zero, List.set_cons_succ]
  refine wpPlan_held _ ?_ rfl (by rfl) (fun w' hS => ?_) ?_
  rotate_left
  · obtain ⟨e0, e1, e2, e3⟩ := hS; go_simp; with_reducible rfl
  simp only [Act.put, List.setIfInBounds_toArray, List.set_cons_zero, List.set_cons_succ]
  refine wpPlan_free _ ?_ rfl (by rfl) (fun w' => ?_) ?_
  rotate_left
  · go_simp; with_reducible rfl
  simp only [Act.put, List.setIfInBounds_toArray, List.set_cons_zero, List.set_cons_succ]
  refine wpPlan_free _ ?_ rfl (by rfl) (fun w' => ?_) ?_
  rotate_left
  · go_simp; with_reducible rfl
  simp only [Act.put, List.setIfInBounds_toArray, List.set_cons_zero, List.set_cons_succ]
  refine wpPlan_free _ ?_ rfl (by rfl) (fun w' => ?_) ?_
  rotate_left
  · go_simp; with_reducible rfl
  simp only [Act.put, List.setIfInBounds_toArray, List.set_cons_zero, List.set_cons_succ]
  refine wpPlan_held _ ?_ rfl (by rfl) (fun w' hS => ?_) ?_
  rotate_left
  · obtain ⟨e0, e1, e2, e3⟩ := hS; go_simp; with_reducible rfl
  simp only [Act.put, List.setIfInBounds_toArray, List.set_cons_zero, List.set_cons_succ]
  refine wpPlan_free _ ?_ rfl (by rfl) (fun w' => ?_) ?_
  rotate_left
  · go_simp; with_reducible rfl
  simp only [Act.put, List.setIfInBounds_toArray, List.set_cons_zero, List.set_cons_succ]
  refine wpPlan_free _ ?_ rfl (by rfl) (fun w' => ?_) ?_
  rotate_left
  · go_simp; with_reducible rfl
  simp only [Act.put, List.setIfInBounds_toArray, List.set_cons_zero, List.set_cons_succ]
  refine wpPlan_held _ ?_ rfl (by rfl) (fun w' hS => ?_) ?_
  rotate_left
  · obtain ⟨e0, e1, e2, e3⟩ := hS; go_simp; with_reducible rfl
  simp only [Act.put, List.setIfInBounds_toArray, List.set_cons_zero, List.set_cons_succ]
  refine wpPlan_do _ rfl (fun K hK => ?_)
  go_simp
  refine (own_any _ m.f m.t A m.b.length c m.b _ (harrm.rd).drew (by omega)).mono ?_
  rintro e w1 ⟨A1, c1, rfl, harr1, hin1, hfr1⟩
  have hfw1 : Fr NoB w w1 := (Fr.refl NoB w).drew.trans hfr1
  have e0 := hfw1.cell_some hc2 (fun h => h)
  have e1 := hfw1.cell_some hm0 (fun h => h)
  have e2 := hfw1.cell_some hm1 (fun h => h)
  have e3 := hfw1.cell_some hm2 (fun h => h)
  refine hK _ _ (fun _ => ⟨e0, e1, e2, e3⟩) ?_
  clear hK K
  refine wpPlan_do _ rfl (fun K hK => ?_)
  go_simp
  have g0 := (Fr.refl NoB w1).alloc (.cells #[.int .i64 m.f, .int .i64 m.t, .slice A1 m.b.length c1] 36)
  refine hK _ _ (fun _ => ⟨g0.cell_some e0 (fun h => h), g0.cell_some e1 (fun h => h), g0.cell_some e2 (fun h => h), g0.cell_some e3 (fun h => h)⟩) ?_
  clear hK K
  have harr2 : Arr (w1.alloc (.cells #[.int .i64 m.f, .int .i64 m.t, .slice A1 m.b.length c1] 36)) 36 3 (some ⟨g, 0, none⟩) L.length c' css.flatten := (harr.fr hfw1 (fun _ _ h => h)).fr g0 (fun _ _ h => h)
  have hsrc : Rd (w1.alloc (.cells #[.int .i64 m.f, .int .i64 m.t, .slice A1 m.b.length c1] 36)) (fun _ => True) 3 (some ⟨w1.heap.size, 0, none⟩) 1 1 [.int .i64 m.f, .int .i64 m.t, .slice A1 m.b.length c1] := by
    have h1 := (Arr.made (e := 36) (size := 3) w1 #[.int .i64 m.f, .int .i64 m.t, .slice A1 m.b.length c1] 1 1 (Nat.le_refl _) (by simp [maxLen]) (by simp)).rd
    exact h1.mono (fun _ _ => trivial)
  refine wpPlan_do _ rfl (fun K hK => ?_)
  refine step_append_arr _ rfl (.tmp 23) (.tmp 32) 46 rfl 36 i0 _ 3 40 Try.underlying46 hi hz0 hz1 hz2 rfl (some ⟨g, 0, none⟩) L.length c' css.flatten rfl harr2 (fun _ => True) _ 1 1 _ rfl hsrc (by intro u hu; simp at hu; rcases hu with rfl | rfl | rfl <;> rfl) ?_ ?_ ?_
  · simp only [maxLen]; omega
  · omega
  intro A3 c3 w3 harr3 hfr3 hin3 hold3
  have hbw : Bk w1 n 60 #[.int .i64 nodes, .slice (some ⟨g, 0, none⟩) L.length c'] := hbk.fr hfw1 (fun h => h)
  have hnA : ¬ InB (some ⟨g, 0, none⟩) n := fun h => by
    obtain ⟨cur, hb'⟩ := harr.bk h
    exact hbk.types hb' (by decide) rfl
  have hbw3 := (hbw.fr g0 (fun h => h)).fr hfr3 hnA
  have f1 : w3.cell? ⟨n, 1, none⟩ = some (.slice (some ⟨g, 0, none⟩) L.length c') := hbw3.cell 1
  have f2 := hbw3.frozen 1
  have hat3 := hold3 _ rfl
  have f3 : w3.cell? ⟨g, k * 3, none⟩ = some (.int .i64 m.f) := by
    have := hat3 (k * 3 + 0) _ (flat_get h3 hcs' (by omega))
    rw [addr_lit] at this
    simpa using this
  have f4 : w3.cell? ⟨g, k * 3 + 1, none⟩ = some (.int .i64 m.t) := by
    have := hat3 (k * 3 + 1) _ (flat_get h3 hcs' (by omega))
    rw [addr_lit] at this
    simpa using this
  have f5 : w3.cell? ⟨g, k * 3 + 2, none⟩ = some (.slice A m.b.length c) := by
    have := hat3 (k * 3 + 2) _ (flat_get h3 hcs' (by omega))
    rw [addr_lit] at this
    simpa using this
  refine hK _ _ (fun _ => ⟨f1, f3, f4, f5⟩) ?_
  clear hK K
  simp only [Act.put, List.setIfInBounds_toArray, List.set_cons_zero, List.set_cons_succ]
  refine wpPlan_free _ ?_ rfl (by rfl) (fun w' => ?_) ?_
  rotate_left
  · go_simp; with_reducible rfl
  simp only [Act.put, List.setIfInBounds_toArray, List.set_cons_zero, List.set_cons_succ]
  refine wpPlan_free _ ?_ rfl (by rfl) (fun w' => ?_) ?_
  rotate_left
  · go_simp; with_reducible rfl
  simp only [Act.put, List.setIfInBounds_toArray, List.set_cons_zero, List.set_cons_succ]
  refine wpPlan_do _ rfl (fun K hK => ?_)
  go_simp
  refine hK _ _ (fun h => by cases h) ?_
  clear hK K
  refine wpPlan_nil ?_
  obtain ⟨S', h1, h2, h3⟩ := netAt_push m hbk harr hcl hcm hcA hcS hcp hS hlt hl hfw1 harr1 hin1 harr3 hfr3 hin3
  go_wp2
  go_ret
  exact ⟨S', rfl, h1, h2, h3⟩

def copyF (L : List Msg) (i : Int) : Int × List Msg :=
  if 0 ≤ i ∧ i < L.length then if L.length = 1024 then (5, L) else (0, L ++ (L[i.toNat]?).toList) else (6, L)

/-- Copy, whatever comes (no message longer than what Send lets in). -/
theorem copy_any {S : Nat → Prop} {n : Nat} {nodes : Int} {L : List Msg} (i : Int) (w : World) (h : NetAt w S n nodes L) (hb : ∀ m ∈ L, m.b.length ≤ 65535) :
    Calls Try.prog 13 #[.pointer (some ⟨n, 0, none⟩), .int .i64 i] w (SendPost S n nodes (copyF L i) w) := by
  unfold copyF
  by_cases h1 : 0 ≤ i ∧ i < L.length
  · rw [if_pos h1]
    obtain ⟨k, rfl⟩ := Int.eq_ofNat_of_zero_le h1.1
    have hk : k < L.length := by omega
    by_cases h2 : L.length = 1024
    · rw [if_pos h2]
      exact copy_full k w h hk h2
    · rw [if_neg h2, Int.toNat_natCast, List.getElem?_eq_getElem hk]
      exact copy_ok k _ w h (List.getElem?_eq_getElem hk) (by have := h.few; omega) (hb _ (List.getElem_mem hk))
  · rw [if_neg h1]
    exact copy_none i w h h1
end Go.Proofs.Yteaiifhppcibgaa
