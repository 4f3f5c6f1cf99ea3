/- The document's net as a list of messages: contracts of latticeref04's New, Send, Copy. -/
import Derived.Test.YteaiifhppcibgaaOnce
namespace Go.Proofs.Yteaiifhppcibgaa
open Go.RowKit

structure RefAt (w : World) (T : Nat → Prop) (p : Nat) (nodes : Int) (L : List Msg) : Prop where
  ex : ∃ A c, Bk w p 64 #[.int .i64 nodes, .slice A L.length c] ∧ Arr w 34 3 A L.length c (sentV L) ∧ (∀ k, InB A k → T k)
  own : T p
  lt : ∀ k, T k → k < w.heap.size
  few : L.length ≤ 1024

theorem RefAt.fr {T U : Nat → Prop} {w w1 : World} {p : Nat} {nodes : Int} {L : List Msg} (h : RefAt w T p nodes L) (hf : Fr U w w1) (hn : ∀ k, T k → ¬ U k) : RefAt w1 T p nodes L := by
  obtain ⟨⟨A, c, hb, ha, hA⟩, ho, hlt, hw⟩ := h
  refine ⟨⟨A, c, hb.fr hf (hn p ho), ha.fr hf fun k hk => hn k (hA k hk), hA⟩, ho, fun k hk => ?_, hw⟩
  have := hlt k hk
  have := hf.size
  omega

def RefPost (T : Nat → Prop) (p : Nat) (nodes : Int) (r : Int × List Msg) (w : World) (e : Ending) (w' : World) : Prop :=
  ∃ T', e = .returned (.int .i64 r.1) ∧ RefAt w' T' p nodes r.2 ∧ Fr T w w' ∧ Gr T T' w

theorem refPost_same {T : Nat → Prop} {p : Nat} {nodes : Int} {L : List Msg} {x : Int} {w w' : World} (h : RefAt w T p nodes L) (hf : Fr NoB w w') : RefPost T p nodes (x, L) w (.returned (.int .i64 x)) w' :=
  ⟨T, rfl, h.fr hf (fun _ _ h => h), hf.mono (fun _ _ h => h.elim), fun _ hk => .inl hk⟩

/-- New. -/
def RefNewPost (nodes : Int) (w : World) (e : Ending) (w' : World) : Prop :=
  (1 ≤ nodes ∧ nodes ≤ 7 ∧ ∃ p T, w.heap.size ≤ p ∧ e = .returned (.tuple #[.pointer (some ⟨p, 0, none⟩), .int .i64 0]) ∧ RefAt w' T p nodes [] ∧ (∀ k, T k → w.heap.size ≤ k) ∧ Fr NoB w w') ∨
  (¬ (1 ≤ nodes ∧ nodes ≤ 7) ∧ e = .returned (.tuple #[.pointer none, .int .i64 1]) ∧ Fr NoB w w')

theorem refAt_new (w : World) (nodes : Int) : RefAt (w.alloc (.cells #[.int .i64 nodes, .slice none 0 0] 64)) (fun k => k = w.heap.size) w.heap.size nodes [] :=
  ⟨⟨none, 0, Bk.new _ _ _, Arr.none_ _ _ _, fun k hk => (InB.none_ k hk).elim⟩, rfl, fun k hk => by simp [hk], by simp⟩

theorem refNew_any (nodes : Int) (w : World) : Calls Try.prog 15 #[.int .i64 nodes] w (RefNewPost nodes w) := by
  by_cases h1 : nodes < 1
  · go_enter Try.func15, Try.ntmps15
    go_wp2
    go_ret2
    exact .inr ⟨by omega, rfl, Fr.refl _ _⟩
  · by_cases h2 : 7 < nodes
    · go_enter Try.func15, Try.ntmps15
      go_wp2
      go_ret2
      exact .inr ⟨by omega, rfl, Fr.refl _ _⟩
    · go_enter Try.func15, Try.ntmps15
      go_wp2
      go_ret2
      exact .inl ⟨by omega, by omega, w.heap.size, _, Nat.le_refl _, rfl, refAt_new w nodes, fun k hk => by omega, (Fr.refl _ _).alloc _⟩

/-- What an append and the store behind it leave. -/
theorem ref_push {T : Nat → Prop} {p : Nat} {nodes : Int} {L : List Msg} {w w1 w3 : World} {A : Option Addr} {c : Nat} (m : Msg)
    (hbk : Bk w p 64 #[.int .i64 nodes, .slice A L.length c]) (harr : Arr w 34 3 A L.length c (sentV L)) (hA : ∀ k, InB A k → T k) (hT : T p) (hlt : ∀ k, T k → k < w.heap.size) (hfew : L.length < 1024)
    (hf1 : Fr NoB w w1) {A3 : Option Addr} {c3 : Nat} (ha3 : Arr w3 34 3 A3 (L.length + 1) c3 (sentV L ++ mcells m)) (hf3 : Fr (InB A) w1 w3) (hn3 : ∀ k, InB A3 k → InB A k ∨ w1.heap.size ≤ k) :
    ∃ T', RefAt (w3.setCell ⟨p, 1, none⟩ (.slice A3 (L.length + 1) c3)) T' p nodes (L ++ [m]) ∧ Fr T w (w3.setCell ⟨p, 1, none⟩ (.slice A3 (L.length + 1) c3)) ∧ Gr T T' w := by
  have hnw := hbk.lt
  have hs1 := hf1.size
  have hs3 := hf3.size
  have hf03 : Fr (InB A) w w3 := (hf1.mono (fun _ _ h => h.elim)).trans hf3
  have noA : ¬ InB A p := fun hk => by
    obtain ⟨cur', hb'⟩ := harr.bk hk
    exact hbk.types hb' (by decide) rfl
  have hb3 := hbk.fr hf03 noA
  have hb4 := hb3.set 1 (.slice A3 (L.length + 1) c3)
  have hf34 : Fr (fun k => k = p) w3 (w3.setCell ⟨p, 1, none⟩ (.slice A3 (L.length + 1) c3)) := Fr.setCell (S := fun k => k = p) (p := ⟨p, 1, none⟩) (Fr.refl _ w3) (.inl rfl) _
  have hf04 : Fr T w (w3.setCell ⟨p, 1, none⟩ (.slice A3 (L.length + 1) c3)) :=
    (hf03.mono (fun k _ h => hA k h)).join hf34 (fun k _ h => by subst h; exact hT)
  have hnA3 : ¬ InB A3 p := fun h => by
    rcases hn3 p h with h | h
    · exact noA h
    · omega
  refine ⟨fun k => T k ∨ (w.heap.size ≤ k ∧ k < w3.heap.size), ⟨⟨A3, c3, ?_, ?_, ?_⟩, .inl hT, ?_, ?_⟩, hf04, ?_⟩
  · simpa using hb4
  · have := ha3.fr hf34 (fun k hk e => by subst e; exact hnA3 hk)
    simpa [sentV] using this
  · intro k hk
    rcases hn3 k hk with h | h
    · exact .inl (hA k h)
    · exact .inr ⟨by omega, ha3.lt k hk⟩
  · intro k hk
    rcases hk with h | h
    · have := hlt k h
      have := hf04.size
      omega
    · simpa using h.2
  · simp; omega
  · intro k hk
    rcases hk with h | h
    · exact .inl h
    · exact .inr h.1

theorem nodeB_false {nodes i : Int} (h : i < 0 ∨ nodes ≤ i) : ¬ nodeB nodes i = true := by simp [nodeB]; omega
theorem nodeB_true {nodes i : Int} (h1 : ¬ i < 0) (h2 : ¬ nodes ≤ i) : nodeB nodes i = true := by simp [nodeB]; omega

theorem refSend_any {T U : Nat → Prop} {p : Nat} {nodes : Int} {L : List Msg} (f t : Int) (B : Option Addr) (d : Nat) (l : List UInt8) (w : World) (h : RefAt w T p nodes L) (hR : Rd w U 1 B l.length d (bv l)) (hUT : ∀ k, U k → ¬ T k) :
    Calls Try.prog 19 #[.pointer (some ⟨p, 0, none⟩), .int .i64 f, .int .i64 t, .slice B l.length d] w (RefPost T p nodes (sendF nodes L f t l) w) := by
  obtain ⟨i0, hi, hz0, hz1, hz2⟩ := info_parts info34
  have H := Lib.hid h
  have hfew := h.few
  obtain ⟨⟨A, c, hbk, harr, hA⟩, hT, hlt, _⟩ := h
  have c0 : w.cell? ⟨p, 0, none⟩ = some (.int .i64 nodes) := hbk.cell 0
  have c1 : w.cell? ⟨p, 1, none⟩ = some (.slice A L.length c) := hbk.cell 1
  have z1 := hbk.frozen 1
  have HB := Lib.hid hbk
  unfold sendF
  clear hbk
  by_cases h1 : f < 0
  · rw [if_neg (fun hh => nodeB_false (.inl h1) hh.1)]
    go_enter Try.func19, Try.ntmps19
    go_wp2
    go_ret
    exact refPost_same H.out (Fr.refl _ _)
  by_cases h2 : nodes ≤ f
  · rw [if_neg (fun hh => nodeB_false (.inr h2) hh.1)]
    go_enter Try.func19, Try.ntmps19
    go_wp2
    go_ret
    exact refPost_same H.out (Fr.refl _ _)
  by_cases h3 : t < 0
  · rw [if_neg (fun hh => nodeB_false (.inl h3) hh.2)]
    go_enter Try.func19, Try.ntmps19
    go_wp2
    go_ret
    exact refPost_same H.out (Fr.refl _ _)
  by_cases h4 : nodes ≤ t
  · rw [if_neg (fun hh => nodeB_false (.inr h4) hh.2)]
    go_enter Try.func19, Try.ntmps19
    go_wp2
    go_ret
    exact refPost_same H.out (Fr.refl _ _)
  rw [if_pos ⟨nodeB_true h1 h2, nodeB_true h3 h4⟩]
  by_cases h5 : 65535 < l.length
  · have h5' : decide (65535 < (l.length : Int)) = true := by simp; omega
    rw [if_pos h5]
    go_enter Try.func19, Try.ntmps19
    go_wp2
    go_ret
    exact refPost_same H.out (Fr.refl _ _)
  have h5' : decide (65535 < (l.length : Int)) = false := by simp; omega
  rw [if_neg h5]
  by_cases h6 : L.length = 1024
  · have h6' : decide (1024 ≤ (L.length : Int)) = true := by simp; omega
    rw [if_pos h6]
    go_enter Try.func19, Try.ntmps19
    go_wp2
    go_ret
    exact refPost_same H.out (Fr.refl _ _)
  have h6' : decide (1024 ≤ (L.length : Int)) = false := by simp; omega
  rw [if_neg h6]
  go_enter Try.func19, Try.ntmps19
  go_wp2_with fail
  refine wp_region_plan 14 (fun w' => w'.cell? ⟨p, 1, none⟩ = some (.slice A L.length c) ∧ Rd w' U 1 B l.length d (bv l))
    [(0, 0), (1, 0), (2, 0), (3, 0), (4, 1), (5, 0), (6, 0), (7, 0), (8, 1), (9, 0), (10, 2), (11, 2), (12, 0), (13, 0), (14, 2)] (by kernel_rfl) (by kernel_rfl) (fun _ _ _ _ _ h => h) ⟨c1, hR⟩ ?_
  refine wpPlan_free _ ?_ rfl (by rfl) (fun w' => ?_) ?_
  rotate_left
  · go_simp; with_reducible rfl
  simp only [Act.put, List.setIfInBounds_toArray, List.set_cons_zero, List.set_cons_succ]
  refine wpPlan_free _ ?_ rfl (by rfl) (fun w' => ?_) ?_
  rotate_left
  · go_simp; with_reducible rfl
  simp only [Act.put, List.setIfInBounds_toArray, List.set_cons_zero, List.set_cons_succ]
  refine wpPlan_free _ ?_ rfl (by rfl) (fun w' => ?_) ?_
  rotate_left
  · go_simp; with_reducible rfl
  simp only [Act.put, List.setIfInBounds_toArray, List.set_cons_zero, List.set_cons_succ]
  refine wpPlan_free _ ?_ rfl (by rfl) (fun w' => ?_) ?_
  rotate_left
  · go_simp; with_reducible rfl
  simp only [Act.put, List.setIfInBounds_toArray, List.set_cons_zero, List.set_cons_succ]
  refine wpPlan_held _ ?_ rfl (by rfl) (fun w' hS => ?_) ?_
  rotate_left
  · obtain ⟨e0, e1⟩ := hS; go_simp; with_reducible rfl
  simp only [Act.put, List.setIfInBounds_toArray, List.set_cons_zero, List.set_cons_succ]
  refine wpPlan_free _ ?_ rfl (by rfl) (fun w' => ?_) ?_
  rotate_left
  · go_simp; with_reducible rfl
  simp only [Act.put, List.setIfInBounds_toArray, List.set_cons_zero, List.set_cons_succ]
  refine wpPlan_free _ ?_ rfl (by rfl) (fun w' => ?_) ?_
  rotate_left
  · go_simp; with_reducible rfl
  simp only [Act.put, List.setIfInBounds_toArray, List.set_cons_zero, List.set_cons_succ]
  refine wpPlan_free _ ?_ rfl (by rfl) (fun w' => ?_) ?_
  rotate_left
  · go_simp; with_reducible rfl
  simp only [Act.put, List.setIfInBounds_toArray, List.set_cons_zero, List.set_cons_succ]
  refine wpPlan_held _ ?_ rfl (by rfl) (fun w' hS => ?_) ?_
  rotate_left
  · obtain ⟨e0, e1⟩ := hS; have e2 := run_conv_rd w' 29 9 5 Try.underlying29 Try.underlying5 Try.underlying9 l e1; go_simp; with_reducible rfl
  simp only [Act.put, List.setIfInBounds_toArray, List.set_cons_zero, List.set_cons_succ]
  refine wpPlan_free _ ?_ rfl (by rfl) (fun w' => ?_) ?_
  rotate_left
  · go_simp; with_reducible rfl
  simp only [Act.put, List.setIfInBounds_toArray, List.set_cons_zero, List.set_cons_succ]
  refine wpPlan_do _ rfl (fun K hK => ?_)
  go_simp
  have g0 := (Fr.refl NoB w.drew).alloc (.cells #[.int .i64 f, .int .i64 t, .string ⟨l.toArray⟩] 34)
  have c1' : (w.drew.alloc (.cells #[.int .i64 f, .int .i64 t, .string ⟨l.toArray⟩] 34)).cell? ⟨p, 1, none⟩ = some (.slice A L.length c) := g0.cell_some c1 (fun h => h)
  have hR' := hR.drew.fr g0 (fun _ _ _ h => h)
  refine hK _ _ (fun _ => ⟨c1', hR'⟩) ?_
  clear hK K
  have harr2 := harr.fr ((Fr.refl NoB w).drew.trans g0) (fun _ _ h => h)
  have hsrc : Rd (w.drew.alloc (.cells #[.int .i64 f, .int .i64 t, .string ⟨l.toArray⟩] 34)) (fun _ => True) 3 (some ⟨w.drew.heap.size, 0, none⟩) 1 1 [.int .i64 f, .int .i64 t, .string ⟨l.toArray⟩] :=
    (Arr.made (e := 34) (size := 3) w.drew #[.int .i64 f, .int .i64 t, .string ⟨l.toArray⟩] 1 1 (Nat.le_refl _) (by simp [maxLen]) (by simp)).rd.mono (fun _ _ => trivial)
  refine wpPlan_do _ rfl (fun K hK => ?_)
  refine step_append_arr _ rfl (.tmp 44) (.tmp 50) 27 rfl 34 i0 _ 3 32 Try.underlying27 hi hz0 hz1 hz2 rfl A L.length c _ rfl harr2 (fun _ => True) _ 1 1 _ rfl hsrc (by intro u hu; simp at hu; rcases hu with rfl | rfl | rfl <;> rfl) ?_ ?_ ?_
  · simp only [maxLen]; omega
  · omega
  intro A3 c3 w3 harr3 hfr3 hin3 _
  have noA : ¬ InB A p := fun hk => by
    obtain ⟨cur', hb'⟩ := harr.bk hk
    exact HB.out.types hb' (by decide) rfl
  have f1 : w3.cell? ⟨p, 1, none⟩ = some (.slice A L.length c) := hfr3.cell_some c1' noA
  have f2 : w3.frozen? ⟨p, 1, none⟩ = false := ((HB.out.drew.fr g0 (fun h => h)).fr hfr3 noA).frozen 1
  refine hK _ _ (fun _ => ⟨f1, hR'.fr hfr3 (fun k _ hk hA' => hUT k hk (hA k hA'))⟩) ?_
  clear hK K
  simp only [Act.put, List.setIfInBounds_toArray, List.set_cons_zero, List.set_cons_succ]
  refine wpPlan_free _ ?_ rfl (by rfl) (fun w' => ?_) ?_
  rotate_left
  · go_simp; with_reducible rfl
  simp only [Act.put, List.setIfInBounds_toArray, List.set_cons_zero, List.set_cons_succ]
  refine wpPlan_free _ ?_ rfl (by rfl) (fun w' => ?_) ?_
  rotate_left
  · go_simp; with_reducible rfl
  simp only [Act.put, List.setIfInBounds_toArray, List.set_cons_zero, List.set_cons_succ]
  refine wpPlan_do _ rfl (fun K hK => ?_)
  go_simp
  refine hK _ _ (fun h => by cases h) ?_
  clear hK K
  refine wpPlan_nil ?_
  obtain ⟨T', h1', h2', h3'⟩ := ref_push ⟨f, t, l⟩ HB.out harr hA hT hlt (by omega) ((Fr.refl NoB w).drew.trans g0) harr3 hfr3 hin3
  go_wp2
  go_ret
  exact ⟨T', rfl, h1', h2', h3'⟩
end Go.Proofs.Yteaiifhppcibgaa
