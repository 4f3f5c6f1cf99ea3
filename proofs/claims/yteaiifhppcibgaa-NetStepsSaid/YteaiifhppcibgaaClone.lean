/- Contracts of slices.Clone at []byte and of net.Message.own. -/
import Derived.Test.YteaiifhppcibgaaWords
import Derived.WalkSpells
namespace Go.Proofs.Yteaiifhppcibgaa
open Go.RowKit

theorem info5 : (Try.prog.info? 5).map (fun i => (i.zero, i.size, i.bytes)) = some (some (.int .u8 0), 1, 1) := by kernel_rfl

theorem clone_any (S : Nat → Prop) (A : Option Addr) (n c : Nat) (l : List UInt8) (w : World) (h : Rd w S 1 A n c (bv l)) (hn : n ≤ 1048576) :
    Calls Try.prog 23 #[.slice A n c] w fun e w' => ∃ A' c', e = .returned (.slice A' n c') ∧ Arr w' 5 1 A' n c' (bv l) ∧ (∀ k, InB A' k → w.heap.size ≤ k) ∧ Fr NoB w w' := by
  obtain ⟨i0, hi, hz0, hz1, hz2⟩ := info_parts info5
  cases A with
  | none =>
    obtain ⟨rfl, rfl⟩ := h.2.2.2.1 rfl
    have hl : bv l = [] := List.eq_nil_of_length_eq_zero (by simpa using h.1)
    have qT : ∀ (w : World) (a : Option Addr) (n c n' c' : Nat), (binOp .eql 29 (.slice a n c) (.slice none n' c')).run Try.prog w = .ok (.bool a.isNone) w := fun w a n c n' c' => Lib.run_eql_slice_nil w _ _ a n c n' c' Try.underlying29
    go_enter Try.func23, Try.ntmps23
    go_wp2
    go_ret
    exact ⟨none, 0, rfl, by rw [hl]; exact Arr.none_ _ _ _, fun k hk => (InB.none_ k hk).elim, Fr.refl _ _⟩
  | some a =>
    have qT : ∀ (w : World) (a : Option Addr) (n c n' c' : Nat), (binOp .eql 29 (.slice a n c) (.slice none n' c')).run Try.prog w = .ok (.bool a.isNone) w := fun w a n c n' c' => Lib.run_eql_slice_nil w _ _ a n c n' c' Try.underlying29
    have harr : Arr (w.alloc (.cells #[] 5)) 5 1 (some ⟨w.heap.size, 0, none⟩) 0 0 [] := by
      have := Arr.made (e := 5) (size := 1) w #[] 0 0 (Nat.le_refl _) (by simp [maxLen]) (by simp)
      simpa using this
    have hsrc := h.alloc (.cells #[] 5)
    have h1 := bv_one l
    go_enter Try.func23, Try.ntmps23
    go_wp2_with (at_builtin; refine wpList_append_arr _ rfl _ _ 29 rfl 5 i0 _ 1 1 Try.underlying29 hi hz0 hz1 hz2 rfl _ 0 0 [] rfl harr S (some a) n c (bv l) rfl hsrc h1 (by unfold maxLen; omega) (by omega) ?_; intro A1 c1 w1 harr1 hfr1 hin1 _)
    go_ret
    refine ⟨A1, c1, by simp, by simpa using harr1, fun k hk => ?_, ?_⟩
    · rcases hin1 k hk with h | h
      · rw [InB.some_] at h; exact Nat.le_of_eq h
      · simp at h; omega
    · refine ((Fr.refl _ w).alloc _).join hfr1 fun j hj hin => ?_
      rw [InB.some_] at hin
      subst hin
      exact absurd hj (Nat.lt_irrefl _)

theorem fr_set3 (w : World) (b : Nat) (u0 u1 u2 : Value) : Fr (fun k => k = b) w (((w.setCell ⟨b, 0, none⟩ u0).setCell ⟨b, 1, none⟩ u1).setCell ⟨b, 2, none⟩ u2) := by
  have h0 : Fr (fun k => k = b) w (w.setCell ⟨b, 0, none⟩ u0) := Fr.setCell (S := fun k => k = b) (p := ⟨b, 0, none⟩) (Fr.refl _ w) (.inl rfl) u0
  have h1 := Fr.setCell (S := fun k => k = b) (p := ⟨b, 1, none⟩) h0 (.inl rfl) u1
  exact Fr.setCell (S := fun k => k = b) (p := ⟨b, 2, none⟩) h1 (.inl rfl) u2

theorem own_any (S : Nat → Prop) (f t : Int) (A : Option Addr) (n c : Nat) (l : List UInt8) (w : World) (h : Rd w S 1 A n c (bv l)) (hn : n ≤ 1048576) :
    Calls Try.prog 22 #[.agg #[.int .i64 f, .int .i64 t, .slice A n c]] w fun e w' =>
      ∃ A' c', e = .returned (.agg #[.int .i64 f, .int .i64 t, .slice A' n c']) ∧ Arr w' 5 1 A' n c' (bv l) ∧ (∀ k, InB A' k → w.heap.size ≤ k) ∧ Fr NoB w w' := by
  go_enter Try.func22, Try.ntmps22
  go_wp2_with fail
  obtain ⟨W, hW⟩ : ∃ W, W = (w.alloc (.cells #[.int .i64 f, .int .i64 t, .slice A n c] 36)).alloc (.cells #[.int .i64 0, .int .i64 0, .slice none 0 0] 36) := ⟨_, rfl⟩
  rw [← hW]
  have hF : Fr NoB w W := by rw [hW]; exact ((Fr.refl _ _).alloc _).alloc _
  have hz : W.heap.size = w.heap.size + 2 := by rw [hW]; simp
  have hR : Rd W S 1 A n c (bv l) := by rw [hW]; exact (h.alloc _).alloc _
  have hb1 : Bk W w.heap.size 36 #[.int .i64 f, .int .i64 t, .slice A n c] := by rw [hW]; exact (Bk.new _ _ _).alloc _
  have hb2 : Bk W (w.heap.size + 1) 36 #[.int .i64 0, .int .i64 0, .slice none 0 0] := by
    rw [hW]
    have := Bk.new (w.alloc (.cells #[.int .i64 f, .int .i64 t, .slice A n c] 36)) 36 #[.int .i64 0, .int .i64 0, .slice none 0 0]
    simpa using this
  clear hW
  generalize hB : w.heap.size = b at *
  have c0 : W.cell? ⟨b, 0, none⟩ = some (.int .i64 f) := hb1.cell 0
  have c1 : W.cell? ⟨b, 1, none⟩ = some (.int .i64 t) := hb1.cell 1
  have c2 : W.cell? ⟨b, 2, none⟩ = some (.slice A n c) := hb1.cell 2
  have HB := Lib.hid hB; clear hB
  have HZ := Lib.hid hz; clear hz
  go_region_held3 (fun w' => w'.cell? ⟨b, 0, none⟩ = some (.int .i64 f) ∧ w'.cell? ⟨b, 1, none⟩ = some (.int .i64 t) ∧ w'.cell? ⟨b, 2, none⟩ = some (.slice A n c))
    (go_keep)
    (first | (go_at_call 23; refine (clone_any S A n c l _ hR.drew hn).mono ?_; rintro e w' ⟨A', c', rfl, harr, hin, hfr⟩; have d0 := hfr.cell_some c0 (fun h => h); have d1 := hfr.cell_some c1 (fun h => h); have d2 := hfr.cell_some c2 (fun h => h); have k2 := hb2.drew.fr hfr (fun h => h); have g0 : w'.cell? ⟨b + 1, 0, none⟩ = some (.int .i64 0) := k2.cell 0; have g1 : w'.cell? ⟨b + 1, 1, none⟩ = some (.int .i64 0) := k2.cell 1; have g2 : w'.cell? ⟨b + 1, 2, none⟩ = some (.slice none 0 0) := k2.cell 2; have z0 := k2.frozen 0; have z1 := k2.frozen 1; have z2 := k2.frozen 2))
  go_wp2
  have hz := HZ.out
  have hb := HB.out
  have k3 := ((k2.set 0 (.int .i64 f)).set 1 (.int .i64 t)).set 2 (.slice A' n c')
  have q0 := k3.cell 0
  have q1 := k3.cell 1
  have q2 := k3.cell 2
  have hs := fr_set3 w' (b + 1) (.int .i64 f) (.int .i64 t) (.slice A' n c')
  have hin' : ∀ k, InB A' k → b + 2 ≤ k := fun k hk => by have := hin k hk; have e : W.drew.heap.size = W.heap.size := rfl; omega
  have hfr' : Fr NoB W w' := ((Fr.refl NoB W).drew).trans hfr
  have harr' := harr.fr hs (fun k hk e => by have := hin' k hk; omega)
  have hall : Fr NoB w (((w'.setCell ⟨b + 1, 0, none⟩ (.int .i64 f)).setCell ⟨b + 1, 1, none⟩ (.int .i64 t)).setCell ⟨b + 1, 2, none⟩ (.slice A' n c')) :=
    (hF.trans hfr').join hs (fun j hj e => by omega)
  refine bodyPost_ret (v := .agg #[.int .i64 f, .int .i64 t, .slice A' n c']) (by simp [results, Try.results22, go_sem, q0, q1, q2]) rfl ⟨A', c', rfl, harr', fun k hk => ?_, hall⟩
  have := hin' k hk
  omega
end Go.Proofs.Yteaiifhppcibgaa
