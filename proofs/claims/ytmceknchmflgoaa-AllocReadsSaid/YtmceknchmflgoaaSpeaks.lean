/- Contracts of New and speaks. -/
import Derived.Test.YtmceknchmflgoaaUsed
namespace Go.Proofs.Ytmceknchmflgoaa
open Go.RowKit

def NewPost (most : Int) (w : World) (e : Ending) (w' : World) : Prop :=
  (1 ≤ most ∧ most ≤ 4096 ∧ ∃ m S, w.heap.size ≤ m ∧ e = .returned (.tuple #[.pointer (some ⟨m, 0, none⟩), .int .i64 0]) ∧ MapAt w' S m (List.replicate most.toNat false) ∧ Up w.heap.size S ∧ Fr NoB w w') ∨
  (¬ (1 ≤ most ∧ most ≤ 4096) ∧ e = .returned (.tuple #[.pointer none, .int .i64 1]) ∧ Fr NoB w w')

def zb (n : Nat) : Array Value := madeCells #[.int .u8 0] (n * 1)
theorem zb_eq (n : Nat) : zb n = (bv (List.replicate n 0)).toArray := by
  apply Array.ext
  · simp [zb, size_madeCells, bv]
  · intro i h1 h2
    simp [zb, madeCells, bv, Nat.mod_one]
theorem bits_zero (m : Nat) : Bits (List.replicate ((m + 7) / 8) 0) (List.replicate m false) := by
  refine ⟨by simp, fun k hk => ?_⟩
  rw [List.length_replicate] at hk
  unfold bitAt
  rw [List.getElem?_replicate, if_pos (by omega), List.getElem?_replicate]
  split <;> simp

theorem new_any (most : Int) (w : World) : Calls Try.prog 7 #[.int .i64 most] w (NewPost most w) := by
  obtain ⟨i0, hi0, hz0, hz1, hz2⟩ := info_parts info5
  by_cases h1 : most < 1
  · go_enter Try.func7, Try.ntmps7
    go_wp2
    go_ret2
    exact .inr ⟨by omega, rfl, Fr.refl _ _⟩
  by_cases h2 : 4096 < most
  · go_enter Try.func7, Try.ntmps7
    go_wp2
    go_ret2
    exact .inr ⟨by omega, rfl, Fr.refl _ _⟩
  obtain ⟨k, rfl⟩ := Int.eq_ofNat_of_zero_le (by omega : 0 ≤ most)
  have hmk : ∀ u : World, (Instr.makeSlice 41 (.int .i64 (((k : Int) + 7) / 8)) (.int .i64 (((k : Int) + 7) / 8))).run Try.prog u = .ok (.slice (some ⟨u.heap.size, 0, none⟩) ((k + 7) / 8) ((k + 7) / 8)) (u.alloc (.cells (zb ((k + 7) / 8)) 5)) := fun u => by
    have h := run_make (P := Try.prog) u 41 5 i0 (.int .u8 0) Try.underlying41 hi0 hz0 .i64 .i64 (((k : Int) + 7) / 8) (((k : Int) + 7) / 8) (by omega) (Int.le_refl _) (by rw [hz2]; omega) (by omega)
    rw [hz1, show ((((k : Int) + 7) / 8)).toNat = (k + 7) / 8 by omega] at h
    exact h
  have hs : IntKind.i64.wrap ((k : Int) + 7) = (k : Int) + 7 := by rw [IntKind.wrap_i64]; omega
  have hq : ((k : Int) + 7).tdiv 8 = ((k : Int) + 7) / 8 := by
    have := Int.ofNat_tdiv (k + 7) 8
    simp at this
    omega
  have hp : MapAt ((w.alloc (.cells (zb ((k + 7) / 8)) 5)).alloc (.cells #[.int .i64 k, .slice (some ⟨w.heap.size, 0, none⟩) ((k + 7) / 8) ((k + 7) / 8)] 49)) (fun j => w.heap.size ≤ j ∧ j ≤ w.heap.size + 1) (w.heap.size + 1) (List.replicate k false) := by
    have b1 := Bk.new w 5 (zb ((k + 7) / 8))
    have e1 : (w.alloc (.cells (zb ((k + 7) / 8)) 5)).heap.size = w.heap.size + 1 := by simp
    have b2 := Bk.new (w.alloc (.cells (zb ((k + 7) / 8)) 5)) 49 #[.int .i64 k, .slice (some ⟨w.heap.size, 0, none⟩) ((k + 7) / 8) ((k + 7) / 8)]
    rw [e1] at b2
    have fB : Fr NoB (w.alloc (.cells (zb ((k + 7) / 8)) 5)) ((w.alloc (.cells (zb ((k + 7) / 8)) 5)).alloc (.cells #[.int .i64 k, .slice (some ⟨w.heap.size, 0, none⟩) ((k + 7) / 8) ((k + 7) / 8)] 49)) := (Fr.refl _ _).alloc _
    refine ⟨⟨w.heap.size, List.replicate ((k + 7) / 8) 0, by rw [List.length_replicate, List.length_replicate]; exact b2, ?_, bits_zero k, by omega⟩, by omega, fun j hj => by simp; omega, by rw [List.length_replicate]; omega, by rw [List.length_replicate]; omega⟩
    have b1' := b1.fr fB (fun h => h)
    rw [← zb_eq]
    exact b1'
  have HP := Lib.hid hp
  clear hp
  go_enter Try.func7, Try.ntmps7
  go_wp2_with fail
  go_ret2
  exact .inl ⟨by omega, by omega, w.heap.size + 1, _, by omega, rfl, HP.out, fun k hk => hk.1, ((Fr.refl NoB w).alloc _).alloc _⟩

set_option maxRecDepth 100000 in
theorem speaks_any (w : World) : Calls Try.prog 9 #[] w fun e w' => e = .returned (.bool true) ∧ Fr NoB w w' := by
  go_enter Try.func9, Try.ntmps9
  go_wp2_with fail
  refine (new_any 9 _).mono ?_
  rintro e w1 (⟨_, _, m, S, hm, rfl, mp1, up1, fr1⟩ | ⟨hno, _⟩)
  rotate_left
  · omega
  go_wp2_with fail
  refine (take_any w1 mp1).mono ?_
  have h1 : takeF (List.replicate (Int.toNat 9) false) = (1, 0, [true, false, false, false, false, false, false, false, false]) := rfl
  rw [h1]
  rintro e w2 ⟨rfl, mp2, fr2⟩
  go_wp2_with fail
  refine (take_any w2 mp2).mono ?_
  have h2 : takeF [true, false, false, false, false, false, false, false, false] = (2, 0, [true, true, false, false, false, false, false, false, false]) := rfl
  rw [h2]
  rintro e w3 ⟨rfl, mp3, fr3⟩
  go_wp2_with fail
  refine (free_any 1 w3 mp3).mono ?_
  have h3 : setF [true, true, false, false, false, false, false, false, false] 1 false = (0, [false, true, false, false, false, false, false, false, false]) := rfl
  rw [h3]
  rintro e w4 ⟨rfl, mp4, fr4⟩
  go_wp2_with fail
  refine (take_any w4 mp4).mono ?_
  have h4 : takeF [false, true, false, false, false, false, false, false, false] = (1, 0, [true, true, false, false, false, false, false, false, false]) := rfl
  rw [h4]
  rintro e w5 ⟨rfl, mp5, fr5⟩
  go_wp2_with fail
  refine (mark_any 9 w5 mp5).mono ?_
  have h5 : setF [true, true, false, false, false, false, false, false, false] 9 true = (0, [true, true, false, false, false, false, false, false, true]) := rfl
  rw [h5]
  rintro e w6 ⟨rfl, mp6, fr6⟩
  have fw6 : Fr NoB w w6 := ((((fr1.up fr2 up1).up fr3 up1).up fr4 up1).up fr5 up1).up fr6 up1
  go_wp2_with fail
  refine (used_any w6 mp6).mono ?_
  have h6 : (List.count true [true, true, false, false, false, false, false, false, true] : Nat) = 3 := rfl
  rw [h6]
  rintro e w7 ⟨rfl, fr7⟩
  go_wp2_with fail
  refine (bytes_any w7 (mp6.fr fr7 (fun _ _ h => h))).mono ?_
  rintro e w8 ⟨bs, A, c, hbits, rfl, harr, hin, fr8⟩
  have hbs : bs = [3, 1] := by
    refine hbits.inj ⟨rfl, fun k hk => ?_⟩
    have : ∀ k : Fin 16, bitAt [3, 1] k.val = ([true, true, false, false, false, false, false, false, true] : List Bool)[k.val]?.getD false := by decide
    exact this ⟨k, hk⟩
  subst hbs
  have cx := run_conv_rd w8 41 9 5 Try.underlying41 Try.underlying5 Try.underlying9 [3, 1] harr.rd
  have l2 : ([3, 1] : List UInt8).length = 2 := rfl
  rw [l2] at cx
  clear l2
  go_wp2_with fail
  go_ret
  exact ⟨rfl, (fw6.trans fr7).trans fr8⟩
end Go.Proofs.Ytmceknchmflgoaa
