/- The document's disk: the contract of Write. -/
import Derived.Test.YtghddmdehbacaaaRefDisk
namespace Go.Proofs.Ytghddmdehbacaaa
open Go.RowKit

def RefWPost (T U : Nat → Prop) (p : Nat) (L : List (List UInt8)) (r : Int × List (Nat × List UInt8)) (w : World) (e : Ending) (w' : World) : Prop :=
  ∃ T' U', e = .returned (.int .i64 r.1) ∧ RefAt w' T' U' p L r.2 ∧ Fr T w w' ∧ Gr T T' w ∧ Gr U U' w

theorem info62 : (Try.prog.info? 62).map (fun i => (i.zero, i.size, i.bytes)) = some (some (.agg #[.int .i64 0, .slice none 0 0]), 2, 32) := by kernel_rfl

theorem refWrite_ok {T U V : Nat → Prop} {p : Nat} {L : List (List UInt8)} {q : List (Nat × List UInt8)} (k : Nat) (B : Option Addr) (d : Nat) (b : List UInt8) (w : World) (h : RefAt w T U p L q) (hR : Rd w V 1 B b.length d (bv b)) (hk : k < L.length) (hb : b.length ≤ 256) (hql : q.length ≤ 16777215) :
    Calls Try.prog 16 #[.pointer (some ⟨p, 0, none⟩), .int .i64 k, .slice B b.length d] w (RefWPost T U p L (0, q ++ [(k, full b)]) w) := by
  obtain ⟨i0, hi, hz0, hz1, hz2⟩ := info_parts info62
  obtain ⟨⟨gl, Aq, cq, vs, css, hbk, hg, hvs, hL, ha, hc, hq, tg, tq⟩, ho, hdis, hltT, hltU, hqo, hfew, hpos⟩ := h
  have c0 : w.cell? ⟨p, 0, none⟩ = some (.slice (some ⟨gl, 0, none⟩) L.length L.length) := hbk.cell 0
  have c1 : w.cell? ⟨p, 1, none⟩ = some (.slice Aq q.length cq) := hbk.cell 1
  have d0 : decide ((k : Int) < 0) = false := decide_eq_false (by omega)
  have d1 : decide (L.length ≤ k) = false := decide_eq_false (by omega)
  have d2 : decide (256 < (b.length : Int)) = false := decide_eq_false (by omega)
  have HB := Lib.hid hbk
  have hpl := hltT p ho
  clear hbk
  go_enter Try.func16, Try.ntmps16
  go_wp2_with fail
  refine wp_region_plan 13 (fun w' => w'.cell? ⟨p, 1, none⟩ = some (.slice Aq q.length cq))
    [(0, 0), (1, 0), (2, 0), (3, 0), (4, 1), (5, 0), (6, 0), (7, 2), (8, 0), (9, 2), (10, 2), (11, 0), (12, 0), (13, 2)] (by kernel_rfl) (by kernel_rfl) (fun _ _ _ _ _ h => h) c1 ?_
  refine wpPlan_free _ ?_ rfl (by rfl) (fun w' => ?_) ?_
  rotate_left
  · go_simp; with_reducible rfl
  simp only [Act.put, List.setIfInBounds_toArray, List.set_cons_zero, List.set_cons_succ]
  refine wpPlan_free _ ?_ rfl (by rfl) (fun w' => ?_) ?_
  rotate_left
  · go_simp; with_reducible rfl
  simp only [Act.put, List.setIfInBounds_toArray, List.set_cons_zero, List.set_cons_succ]
  refine wpPlan_free _ ?_ rfl (by rfl) (fun w' => ?_) ?_
  rotate_left
  · go_simp; with_reducible rfl
  simp only [Act.put, List.setIfInBounds_toArray, List.set_cons_zero, List.set_cons_succ]
  refine wpPlan_free _ ?_ rfl (by rfl) (fun w' => ?_) ?_
  rotate_left
  · go_simp; with_reducible rfl
  simp only [Act.put, List.setIfInBounds_toArray, List.set_cons_zero, List.set_cons_succ]
  refine wpPlan_held _ ?_ rfl (by rfl) (fun w' hS => ?_) ?_
  rotate_left
  · have e0 := hS; go_simp; with_reducible rfl
  simp only [Act.put, List.setIfInBounds_toArray, List.set_cons_zero, List.set_cons_succ]
  refine wpPlan_free _ ?_ rfl (by rfl) (fun w' => ?_) ?_
  rotate_left
  · go_simp; with_reducible rfl
  simp only [Act.put, List.setIfInBounds_toArray, List.set_cons_zero, List.set_cons_succ]
  refine wpPlan_free _ ?_ rfl (by rfl) (fun w' => ?_) ?_
  rotate_left
  · go_simp; with_reducible rfl
  simp only [Act.put, List.setIfInBounds_toArray, List.set_cons_zero, List.set_cons_succ]
  refine wpPlan_do _ rfl (fun K hK => ?_)
  go_simp
  refine (full_any B d b _ hR.drew hb).mono ?_
  rintro e w1 ⟨x, hx, rfl, harr, hf⟩
  have hf1 : Fr NoB w w1 := ((Fr.refl NoB w).drew).trans hf
  have y1 := hf1.cell_some c1 (fun h => h)
  refine hK _ _ (fun _ => y1) ?_
  clear hK K
  refine wpPlan_free _ ?_ rfl (by rfl) (fun w' => ?_) ?_
  rotate_left
  · go_simp; with_reducible rfl
  simp only [Act.put, List.setIfInBounds_toArray, List.set_cons_zero, List.set_cons_succ]
  refine wpPlan_do _ rfl (fun K hK => ?_)
  go_simp
  have g0 : Fr NoB w1 (w1.alloc (.cells #[.int .i64 k, .slice (some ⟨x, 0, none⟩) 256 256] 62)) := (Fr.refl _ _).alloc _
  refine hK _ _ (fun _ => g0.cell_some y1 (fun h => h)) ?_
  clear hK K
  have hf2 := hf1.trans g0
  have hsrc : Rd (w1.alloc (.cells #[.int .i64 k, .slice (some ⟨x, 0, none⟩) 256 256] 62)) (fun _ => True) 2 (some ⟨w1.heap.size, 0, none⟩) 1 1 [.int .i64 k, .slice (some ⟨x, 0, none⟩) 256 256] :=
    (Arr.made (e := 62) (size := 2) w1 #[.int .i64 k, .slice (some ⟨x, 0, none⟩) 256 256] 1 1 (Nat.le_refl _) (by simp [maxLen]) (by simp)).rd.mono (fun _ _ => trivial)
  refine wpPlan_do _ rfl (fun K hK => ?_)
  refine step_append_arr _ rfl (.tmp 25) (.tmp 30) 43 rfl 62 i0 _ 2 32 Try.underlying43 hi hz0 hz1 hz2 rfl Aq q.length cq _ (by rfl) (ha.fr hf2 (fun _ _ h => h)) (fun _ => True) _ 1 1 _ (by rfl) hsrc (by intro u hu; simp at hu; rcases hu with rfl | rfl <;> rfl) ?_ ?_ ?_
  · simp only [maxLen]; omega
  · omega
  intro A3 c3 w3 harr3 hfr3 hin3 _
  have nA : ∀ j t cur, Bk w j t cur → t ≠ 62 → ¬ InB Aq j := fun j t cur hb hne hj => by
    rcases ha.2 with ⟨rfl, _⟩ | ⟨g', cur', rfl, hbq, _⟩
    · exact InB.none_ _ hj
    · rw [InB.some_] at hj
      simp only [] at hj
      exact hbq.types hb (Ne.symm hne) hj
  have npq := nA p 45 _ HB.out (by decide)
  have ngq := nA gl 27 _ hg (by decide)
  have bk3 := (HB.out.fr hf2 (fun h => h)).fr hfr3 npq
  have f1 : w3.cell? ⟨p, 1, none⟩ = some (.slice Aq q.length cq) := bk3.cell 1
  have f2 := bk3.frozen 1
  refine hK _ _ (fun _ => f1) ?_
  clear hK K
  simp only [Act.put, List.setIfInBounds_toArray, List.set_cons_zero, List.set_cons_succ]
  refine wpPlan_free _ ?_ rfl (by rfl) (fun w' => ?_) ?_
  rotate_left
  · go_simp; with_reducible rfl
  simp only [Act.put, List.setIfInBounds_toArray, List.set_cons_zero, List.set_cons_succ]
  refine wpPlan_free _ ?_ rfl (by rfl) (fun w' => ?_) ?_
  rotate_left
  · go_simp; with_reducible rfl
  simp only [Act.put, List.setIfInBounds_toArray, List.set_cons_zero, List.set_cons_succ]
  refine wpPlan_do _ rfl (fun K hK => ?_)
  go_simp
  refine hK _ _ (fun h => by cases h) ?_
  clear hK K
  refine wpPlan_nil ?_
  have f4 : Fr (fun j => j = p) w3 (w3.setCell ⟨p, 1, none⟩ (.slice A3 (q.length + 1) c3)) := Fr.setCell (S := fun j => j = p) (p := ⟨p, 1, none⟩) (Fr.refl _ w3) (.inl rfl) _
  have bk4 := bk3.set 1 (.slice A3 (q.length + 1) c3)
  have ngp : gl ≠ p := hg.types HB.out (by decide)
  have z1 := hf1.size
  have zx : x < w1.heap.size := harr.lt x (by simp [InB])
  have zg : (w1.alloc (.cells #[.int .i64 k, .slice (some ⟨x, 0, none⟩) 256 256] 62)).heap.size = w1.heap.size + 1 := by simp
  have z3 := hfr3.size
  have z4 := f4.size
  have hx' : w.heap.size ≤ x := hx
  have nUA : ∀ j, U j → ¬ InB Aq j := fun j hj h => hdis j (tq j h) hj
  have nUp : ∀ j, U j → j ≠ p := fun j hj e => hdis j (e ▸ ho) hj
  have nxA : ¬ InB Aq x := fun h => by have := hltT x (tq x h); omega
  have n3p : ∀ j, InB A3 j → j ≠ p := fun j hj e => by
    rcases hin3 j hj with h' | h'
    · exact npq (e ▸ h')
    · omega
  have gl4 := ((hg.fr hf2 (fun h => h)).fr hfr3 ngq).fr f4 ngp
  have arr4 := harr3.fr f4 n3p
  have byt := (((harr.fr g0 (fun _ _ h => h)).fr hfr3 (fun j hj h => by rw [InB.some_] at hj; simp only [] at hj; subst hj; exact nxA h)).fr f4 (fun j hj e => by rw [InB.some_] at hj; simp only [] at hj; omega)).rd
  have fall : Fr T w (w3.setCell ⟨p, 1, none⟩ (.slice A3 (q.length + 1) c3)) :=
    ((hf2.mono (fun _ _ h => h.elim)).join hfr3 (fun j _ h => tq j h)).join f4 (fun j _ e => by subst e; exact ho)
  go_wp2
  go_ret
  refine ⟨fun j => T j ∨ InB A3 j, fun j => U j ∨ j = x, rfl, ⟨⟨gl, A3, c3, vs, css ++ [[.int .i64 k, .slice (some ⟨x, 0, none⟩) 256 256]], ?_, gl4, hvs, ?_, ?_, by simp [hc], ?_, .inl tg, fun j hj => .inr hj⟩, .inl ho, ?_, ?_, ?_, ?_, hfew, hpos⟩, fall, ?_, ?_⟩
  · simpa using bk4
  · intro i v s hv hl
    have h0 := hL i v s hv hl
    exact ((((h0.fr hf2 (fun _ _ h => h)).fr hfr3 nUA).fr f4 nUp)).mono (fun _ h => .inl h)
  · rw [List.flatten_append]
    simpa using arr4
  · intro i cs y h1 h2
    by_cases hil : i < q.length
    · rw [List.getElem?_append_left (by omega)] at h1 h2
      exact ((((hq i cs y h1 h2).fr hf2 (fun _ _ h => h)).fr hfr3 nUA).fr f4 nUp).mono (fun _ h => .inl h)
    · have hiq : i = q.length := by
        have := (List.getElem?_eq_some_iff.1 h2).1
        simp at this
        omega
      subst hiq
      rw [← hc] at h1
      simp at h1 h2
      subst h1; subst h2
      exact ⟨some ⟨x, 0, none⟩, 256, rfl, full_len hb, byt.mono (fun j hj => by rw [InB.some_] at hj; simp only [] at hj; exact .inr hj.symm)⟩
  · intro j hj hu
    rcases hj with h' | h' <;> rcases hu with h2 | h2
    · exact hdis j h' h2
    · have := hltT j h'
      omega
    · rcases hin3 j h' with h3 | h3
      · exact hdis j (tq j h3) h2
      · have := hltU j h2
        omega
    · rcases hin3 j h' with h3 | h3
      · have := hltT j (tq j h3)
        omega
      · omega
  · intro j hj
    rcases hj with h' | h'
    · have := hltT j h'
      omega
    · have := harr3.lt j h'
      omega
  · intro j hj
    rcases hj with h' | h'
    · have := hltU j h'
      omega
    · omega
  · intro y hy
    rcases List.mem_append.1 hy with h' | h'
    · exact hqo y h'
    · simp only [List.mem_singleton] at h'
      subst h'
      exact hk
  · intro j hj
    rcases hj with h' | h'
    · exact .inl h'
    · rcases hin3 j h' with h3 | h3
      · exact .inl (tq j h3)
      · exact .inr (by omega)
  · intro j hj
    rcases hj with h' | h'
    · exact .inl h'
    · exact .inr (by omega)

theorem refWrite_any {T U V : Nat → Prop} {p : Nat} {L : List (List UInt8)} {q : List (Nat × List UInt8)} (i : Int) (B : Option Addr) (d : Nat) (b : List UInt8) (w : World) (h : RefAt w T U p L q) (hR : Rd w V 1 B b.length d (bv b)) (hql : q.length ≤ 16777215) :
    Calls Try.prog 16 #[.pointer (some ⟨p, 0, none⟩), .int .i64 i, .slice B b.length d] w (RefWPost T U p L (writeF L.length q i b) w) := by
  have hsame : ∀ x : Int, RefWPost T U p L (x, q) w (.returned (.int .i64 x)) w := fun x => ⟨T, U, rfl, h, Fr.refl _ _, fun _ h => .inl h, fun _ h => .inl h⟩
  have HS := Lib.hid hsame
  unfold writeF
  by_cases h1 : hasB L.length i = true
  · rw [if_pos h1]
    have h3 := of_decide_eq_true h1
    obtain ⟨k, rfl⟩ := Int.eq_ofNat_of_zero_le h3.1
    by_cases h2 : 256 < b.length
    · rw [if_pos h2]
      obtain ⟨gl, Aq, cq, c0, _⟩ := h.words
      have d0 : decide ((k : Int) < 0) = false := decide_eq_false (by omega)
      have d1 : decide (L.length ≤ k) = false := decide_eq_false (by omega)
      have d2 : decide (256 < (b.length : Int)) = true := decide_eq_true (by omega)
      clear h hR hsame
      go_enter Try.func16, Try.ntmps16
      go_wp2_with fail
      go_ret
      exact HS.out 2
    · rw [if_neg h2]
      exact refWrite_ok k B d b w h hR (by omega) (by omega) hql
  · rw [if_neg h1]
    have hi' := of_decide_eq_false (by simpa using h1 : hasB L.length i = false)
    obtain ⟨gl, Aq, cq, c0, _⟩ := h.words
    clear h hR hsame h1
    by_cases h1 : i < 0
    · go_enter Try.func16, Try.ntmps16
      go_wp2_with fail
      go_ret
      exact HS.out 6
    · have h2 : (L.length : Int) ≤ i := by omega
      go_enter Try.func16, Try.ntmps16
      go_wp2_with fail
      go_ret
      exact HS.out 6
end Go.Proofs.Ytghddmdehbacaaa
