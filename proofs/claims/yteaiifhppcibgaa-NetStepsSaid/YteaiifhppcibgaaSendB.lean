/- The contract of Send: a message goes in. -/
import Derived.Test.YteaiifhppcibgaaPush
namespace Go.Proofs.Yteaiifhppcibgaa
open Go.RowKit

theorem info36 : (Try.prog.info? 36).map (fun i => (i.zero, i.size, i.bytes)) = some (some (.agg #[.int .i64 0, .int .i64 0, .slice none 0 0]), 3, 40) := by kernel_rfl

theorem send_ok {S T : Nat → Prop} {n : Nat} {nodes : Int} {L : List Msg} (f t : Int) (A : Option Addr) (c : Nat) (l : List UInt8) (w : World) (h : NetAt w S n nodes L) (hR : Rd w T 1 A l.length c (bv l))
    (hb : nodeB nodes f = true) (hb' : nodeB nodes t = true) (hm : l.length ≤ 65535) (hl : L.length < 1024) :
    Calls Try.prog 9 #[.pointer (some ⟨n, 0, none⟩), .int .i64 f, .int .i64 t, .slice A l.length c] w (SendPost S n nodes (0, L ++ [⟨f, t, l⟩]) w) := by
  obtain ⟨i0, hi, hz0, hz1, hz2⟩ := info_parts info36
  have H := Lib.hid h
  obtain ⟨⟨A', c', css, hbk, harr, hcl, hcm, hcA, hcS, hcp⟩, hS, hlt, _⟩ := h
  have hn := hbk.lt
  have hb1 := hbk.alloc (.cells #[.pointer (some ⟨n, 0, none⟩)] 23)
  have hc1 : (w.alloc (.cells #[.pointer (some ⟨n, 0, none⟩)] 23)).cell? ⟨w.heap.size, 0, none⟩ = some (.pointer (some ⟨n, 0, none⟩)) := by simp
  have hc2 : w.cell? ⟨n, 1, none⟩ = some (.slice A' L.length c') := hbk.cell 1
  have hq : ((L.length : Int) == 1024) = false := by simp; omega
  go_enter Try.func9, Try.ntmps9
  go_wp2_with fail
  refine (node_any _ n nodes f _ _ hc1 hb1).mono ?_
  rintro e w' ⟨rfl, rfl⟩
  go_wp2_with fail
  refine (node_any _ n nodes t _ _ hc1 hb1).mono ?_
  rintro e w' ⟨rfl, rfl⟩
  go_wp2_with fail
  have hFW : Fr NoB w (w.alloc (.cells #[.pointer (some ⟨n, 0, none⟩)] 23)) := (Fr.refl _ _).alloc _
  have hRW := hR.alloc (.cells #[.pointer (some ⟨n, 0, none⟩)] 23)
  have hlt' := hlt
  generalize hW : w.alloc (.cells #[.pointer (some ⟨n, 0, none⟩)] 23) = W at *
  clear hW hlt
  obtain ⟨b, hB⟩ : ∃ b, b = w.heap.size := ⟨_, rfl⟩
  rw [← hB] at hc1
  rw [← hB]
  have HB := Lib.hid hB
  clear hB
  have hd2 : W.cell? ⟨n, 1, none⟩ = some (.slice A' L.length c') := hb1.cell 1
  refine wp_region_plan 14 (fun w' => w'.cell? ⟨b, 0, none⟩ = some (.pointer (some ⟨n, 0, none⟩)) ∧ w'.cell? ⟨n, 1, none⟩ = some (.slice A' L.length c'))
    [(0, 1), (1, 1), (2, 0), (3, 0), (4, 1), (5, 0), (6, 0), (7, 0), (8, 0), (9, 2), (10, 2), (11, 2), (12, 0), (13, 0), (14, 2)] (by kernel_rfl) (by kernel_rfl) (fun _ _ _ _ _ h => h) ⟨hc1, hd2⟩ ?_
  refine wpPlan_held _ ?_ rfl (by rfl) (fun w' hS => ?_) ?_
  rotate_left
  · obtain ⟨e0, e1⟩ := hS; go_simp; with_reducible rfl
  simp only [Act.put, List.setIfInBounds_toArray, List.set_cons_zero, List.set_cons_succ]
  refine wpPlan_held _ ?_ rfl (by rfl) (fun w' hS => ?_) ?_
  rotate_left
  · obtain ⟨e0, e1⟩ := hS; go_simp; with_reducible rfl
  simp only [Act.put, List.setIfInBounds_toArray, List.set_cons_zero, List.set_cons_succ]
  refine wpPlan_free _ ?_ rfl (by rfl) (fun w' => ?_) ?_
  rotate_left
  · go_simp; with_reducible rfl
  simp only [Act.put, List.setIfInBounds_toArray, List.set_cons_zero, List.set_cons_succ]
  refine wpPlan_free _ ?_ rfl (by rfl) (fun w' => ?_) ?_
  rotate_left
  · go_simp; with_reducible rfl
  simp only [Act.put, List.setIfInBounds_toArray, List.set_cons_zero, List.set_cons_succ]
  refine wpPlan_held _ ?_ rfl (by rfl) (fun w' hS => ?_) ?_
  rotate_left
  · obtain ⟨e0, e1⟩ := hS; go_simp; with_reducible rfl
  simp only [Act.put, List.setIfInBounds_toArray, List.set_cons_zero, List.set_cons_succ]
  refine wpPlan_free _ ?_ rfl (by rfl) (fun w' => ?_) ?_
  rotate_left
  · go_simp; with_reducible rfl
  simp only [Act.put, List.setIfInBounds_toArray, List.set_cons_zero, List.set_cons_succ]
  refine wpPlan_free _ ?_ rfl (by rfl) (fun w' => ?_) ?_
  rotate_left
  · go_simp; with_reducible rfl
  simp only [Act.put, List.setIfInBounds_toArray, List.set_cons_zero, List.set_cons_succ]
  refine wpPlan_free _ ?_ rfl (by rfl) (fun w' => ?_) ?_
  rotate_left
  · go_simp; with_reducible rfl
  simp only [Act.put, List.setIfInBounds_toArray, List.set_cons_zero, List.set_cons_succ]
  refine wpPlan_free _ ?_ rfl (by rfl) (fun w' => ?_) ?_
  rotate_left
  · go_simp; with_reducible rfl
  simp only [Act.put, List.setIfInBounds_toArray, List.set_cons_zero, List.set_cons_succ]
  refine wpPlan_do _ rfl (fun K hK => ?_)
  go_simp
  refine (own_any T f t A l.length c l _ hRW.drew (by omega)).mono ?_
  rintro e w1 ⟨A1, c1, rfl, harr1, hin1, hfr1⟩
  have e0 := hfr1.cell_some hc1 (fun h => h)
  have e1 := hfr1.cell_some hd2 (fun h => h)
  refine hK _ _ (fun _ => ⟨e0, e1⟩) ?_
  clear hK K
  refine wpPlan_do _ rfl (fun K hK => ?_)
  go_simp
  have g0 := (Fr.refl NoB w1).alloc (.cells #[.int .i64 f, .int .i64 t, .slice A1 l.length c1] 36)
  refine hK _ _ (fun _ => ⟨g0.cell_some e0 (fun h => h), g0.cell_some e1 (fun h => h)⟩) ?_
  clear hK K
  have hfw1 : Fr NoB w w1 := hFW.drew.trans hfr1
  have hin1' : ∀ k, InB A1 k → w.heap.size ≤ k := fun k hk => by
    have h1 := hin1 k hk
    have h2 : W.drew.heap.size = W.heap.size := rfl
    have h3 := hFW.size
    omega
  have harr2 : Arr (w1.alloc (.cells #[.int .i64 f, .int .i64 t, .slice A1 l.length c1] 36)) 36 3 A' L.length c' css.flatten := (harr.fr hfw1 (fun _ _ h => h)).fr g0 (fun _ _ h => h)
  have hsrc : Rd (w1.alloc (.cells #[.int .i64 f, .int .i64 t, .slice A1 l.length c1] 36)) (fun _ => True) 3 (some ⟨w1.heap.size, 0, none⟩) 1 1 [.int .i64 f, .int .i64 t, .slice A1 l.length c1] := by
    have h1 := (Arr.made (e := 36) (size := 3) w1 #[.int .i64 f, .int .i64 t, .slice A1 l.length c1] 1 1 (Nat.le_refl _) (by simp [maxLen]) (by simp)).rd
    exact h1.mono (fun _ _ => trivial)
  refine wpPlan_do _ rfl (fun K hK => ?_)
  refine step_append_arr _ rfl (.tmp 37) (.tmp 43) 46 rfl 36 i0 _ 3 40 Try.underlying46 hi hz0 hz1 hz2 rfl A' L.length c' css.flatten rfl harr2 (fun _ => True) _ 1 1 _ rfl hsrc (by intro u hu; simp at hu; rcases hu with rfl | rfl | rfl <;> rfl) ?_ ?_ ?_
  · simp only [maxLen]; omega
  · omega
  intro A3 c3 w3 harr3 hfr3 hin3 _
  have hbw : Bk w1 n 60 #[.int .i64 nodes, .slice A' L.length c'] := hbk.fr hfw1 (fun h => h)
  have hnA : ¬ InB A' n := fun h => by
    obtain ⟨cur, hb'⟩ := harr.bk h
    exact hbk.types hb' (by decide) rfl
  have hbw3 := (hbw.fr g0 (fun h => h)).fr hfr3 hnA
  have f0 : w3.cell? ⟨b, 0, none⟩ = some (.pointer (some ⟨n, 0, none⟩)) := hfr3.cell_some (g0.cell_some e0 (fun h => h)) (fun h => by
    have h1 : b < w.heap.size := hlt' _ (hcA _ h)
    have := HB.out
    omega)
  have f1 : w3.cell? ⟨n, 1, none⟩ = some (.slice A' L.length c') := hbw3.cell 1
  have f2 := hbw3.frozen 1
  refine hK _ _ (fun _ => ⟨f0, f1⟩) ?_
  clear hK K
  simp only [Act.put, List.setIfInBounds_toArray, List.set_cons_zero, List.set_cons_succ]
  refine wpPlan_free _ ?_ rfl (by rfl) (fun w' => ?_) ?_
  rotate_left
  · go_simp; with_reducible rfl
  simp only [Act.put, List.setIfInBounds_toArray, List.set_cons_zero, List.set_cons_succ]
  refine wpPlan_free _ ?_ rfl (by rfl) (fun w' => ?_) ?_
  rotate_left
  · go_simp; with_reducible rfl
  simp only [Act.put, List.setIfInBounds_toArray, List.set_cons_zero, List.set_cons_succ]
  refine wpPlan_do _ rfl (fun K hK => ?_)
  go_simp
  refine hK _ _ (fun h => by cases h) ?_
  clear hK K
  refine wpPlan_nil ?_
  obtain ⟨S', h1, h2, h3⟩ := netAt_push ⟨f, t, l⟩ hbk harr hcl hcm hcA hcS hcp hS hlt' hl hfw1 harr1 hin1' harr3 hfr3 hin3
  go_wp2
  go_ret
  exact ⟨S', rfl, h1, h2, h3⟩

/-- Send, whatever comes. -/
theorem send_any {S T : Nat → Prop} {n : Nat} {nodes : Int} {L : List Msg} (f t : Int) (A : Option Addr) (c : Nat) (l : List UInt8) (w : World) (h : NetAt w S n nodes L) (hR : Rd w T 1 A l.length c (bv l)) :
    Calls Try.prog 9 #[.pointer (some ⟨n, 0, none⟩), .int .i64 f, .int .i64 t, .slice A l.length c] w (SendPost S n nodes (sendF nodes L f t l) w) := by
  unfold sendF
  by_cases h1 : nodeB nodes f = true
  · by_cases h2 : nodeB nodes t = true
    · rw [if_pos ⟨h1, h2⟩]
      by_cases h3 : 65535 < l.length
      · rw [if_pos h3]
        exact send_long f t A l.length c w h h1 h2 h3
      · rw [if_neg h3]
        by_cases h4 : L.length = 1024
        · rw [if_pos h4]
          exact send_full f t A l.length c w h h1 h2 (by omega) h4
        · rw [if_neg h4]
          exact send_ok f t A c l w h hR h1 h2 (by omega) (by have := h.few; omega)
    · rw [if_neg (fun hh => h2 hh.2)]
      exact send_arg f t A l.length c w h (.inr ⟨h1, by simpa using h2⟩)
  · rw [if_neg (fun hh => h1 hh.1)]
    exact send_arg f t A l.length c w h (.inl (by simpa using h1))
end Go.Proofs.Yteaiifhppcibgaa
