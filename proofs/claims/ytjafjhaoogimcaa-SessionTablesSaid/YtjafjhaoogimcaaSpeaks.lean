/- Contract of speaks. -/
import Derived.Test.YtjafjhaoogimcaaSess
namespace Go.Proofs.Ytjafjhaoogimcaa
open Go.RowKit

theorem rd_block {w : World} {g : Nat} {T : TypeId} {xs : List Int} (h : Bk w g T (ints xs).toArray) (hl : xs.length ≤ 1024) : Rd w (fun k => k = g) 1 (some ⟨g, 0, none⟩) xs.length xs.length (ints xs) :=
  ⟨by rw [ints_len, Nat.mul_one], Nat.le_refl _, by simp only [maxLen]; omega, (fun h => by cases h), fun a ha _ => by cases ha; exact ⟨rfl, h.lt, At.of_bk (o := 0) (n := xs.length) h (by simp [List.take_of_length_le (Nat.le_of_eq (ints_len xs))])⟩⟩

set_option maxHeartbeats 2000000 in
set_option maxRecDepth 100000 in
theorem speaks_any (w : World) : Calls Try.prog 13 #[] w fun e w' => e = .returned (.bool true) ∧ Fr NoB w w' := by
  go_enter Try.func13, Try.ntmps13
  go_wp2_with fail
  refine (new_any _).mono ?_
  rintro e w1 ⟨t, S, ht, rfl, tb1, up1, fr1⟩
  go_wp2_with fail
  refine (wait_any 7 3 w1 tb1).mono ?_
  have h1 : waitF [] [] 7 3 = (0, [(7, 3)]) := by decide
  rw [h1]
  rintro e w2 ⟨rfl, tb2, fr2⟩
  go_wp2_with fail
  refine (wait_any 5 3 w2 tb2).mono ?_
  have h2 : waitF [(7, 3)] [] 5 3 = (0, [(5, 3), (7, 3)]) := by decide
  rw [h2]
  rintro e w3 ⟨rfl, tb3, fr3⟩
  go_wp2_with fail
  refine (wait_any 9 4 w3 tb3).mono ?_
  have h3 : waitF [(5, 3), (7, 3)] [] 9 4 = (0, [(5, 3), (7, 3), (9, 4)]) := by decide
  rw [h3]
  rintro e w4 ⟨rfl, tb4, fr4⟩
  have HF4 := Lib.hid (((fr1.up fr2 up1).up fr3 up1).up fr4 up1)
  have HT4 := Lib.hid tb4
  clear h1 h2 h3 tb1 tb2 tb3 tb4 fr1 fr2 fr3 fr4
  go_wp2_with fail
  refine (settle_any 3 w4 HT4.out (by simp)).mono ?_
  rintro e w5 ⟨A5, c5, rfl, arr5, in5, tb5, fr5⟩
  have hup : upF [(5, 3), (7, 3), (9, 4)] 3 = [5, 7] := by decide
  have hdn : dnF [(5, 3), (7, 3), (9, 4)] 3 = [(9, 4)] := by decide
  rw [hup] at arr5 tb5 ⊢
  rw [hdn] at tb5
  have hS5 : Hid (∀ k, InB A5 k → ¬ S k) := Lib.hid (fun k hk hs => by have := in5 k hk; have := HT4.out.lt k hs; omega)
  have HF5 := Lib.hid (HF4.out.up fr5 up1)
  have HT5 : Hid (TabAt w5 S t [(9, 4)] [5, 7]) := Lib.hid tb5
  have HA5 := Lib.hid arr5
  clear arr5 tb5 fr5 hup hdn in5 HT4 HF4
  go_wp2_with fail
  refine (wait_any 7 9 w5 HT5.out).mono ?_
  have h6 : waitF [(9, 4)] [5, 7] 7 9 = (7, [(9, 4)]) := by decide
  rw [h6]
  rintro e w6 ⟨rfl, tb6, fr6⟩
  have HF6 := Lib.hid (HF5.out.up fr6 up1)
  have HT6 := Lib.hid tb6
  have HA6 := Lib.hid (HA5.out.fr fr6 hS5.out)
  clear tb6 fr6 h6 HF5 HA5 HT5
  go_wp2_with fail
  refine (leave_any w6 HT6.out).mono ?_
  rintro e w7 ⟨A7, c7, rfl, arr7, in7, tb7, fr7⟩
  have HF7 := Lib.hid (HF6.out.up fr7 up1)
  have HA7 := Lib.hid (HA6.out.fr fr7 hS5.out)
  have HB7 : Hid (Arr w7 3 1 A7 1 c7 (ints [9])) := Lib.hid arr7
  have e9 : [((9 : Int), (4 : Int))].length = 1 := rfl
  rw [e9]
  clear arr7 in7 tb7 fr7 HA6 HF6 HT6 e9
  go_wp2_with fail
  refine (begin_any w7).mono ?_
  rintro e w8 ⟨rfl, s8, fr8⟩
  have HF8 := Lib.hid (HF7.out.trans fr8)
  have HA8 := Lib.hid (HA7.out.fr fr8 (fun _ _ h => h))
  have HB8 := Lib.hid (HB7.out.fr fr8 (fun _ _ h => h))
  have hlo : w.heap.size ≤ w7.heap.size := HF7.out.size
  have hnA : Hid (∀ k, InB A5 k → ¬ k = w7.heap.size) := Lib.hid (fun k hk e => by have := HA7.out.lt k hk; omega)
  have hnB : Hid (∀ k, InB A7 k → ¬ k = w7.heap.size) := Lib.hid (fun k hk e => by have := HB7.out.lt k hk; omega)
  have HS8 := Lib.hid s8
  clear fr8 s8 HA7 HB7 HF7
  generalize w7.heap.size = s at *
  go_wp2_with fail
  refine (read_any 1 4 w8 HS8.out).mono ?_
  have h9 : readF zero7 1 4 = (true, 0, [0, 4, 0, 0, 0, 0, 0]) := by decide
  rw [h9]
  rintro e w9 ⟨rfl, s9, fr9⟩
  go_wp2_with fail
  refine (read_any 1 3 w9 s9).mono ?_
  have h10 : readF [0, 4, 0, 0, 0, 0, 0] 1 3 = (false, 0, [0, 4, 0, 0, 0, 0, 0]) := by decide
  rw [h10]
  rintro e w10 ⟨rfl, s10, fr10⟩
  have HF10 := Lib.hid ((HF8.out.join fr9 (fun j hj e => by omega)).join fr10 (fun j hj e => by omega))
  have HA10 := Lib.hid ((HA8.out.fr fr9 hnA.out).fr fr10 hnA.out)
  have HB10 := Lib.hid ((HB8.out.fr fr9 hnB.out).fr fr10 hnB.out)
  have HS10 := Lib.hid s10
  clear h9 h10 s9 s10 fr9 fr10 HF8 HA8 HB8 HS8
  go_wp2_with fail
  have k1 : Fr NoB w10 (w10.alloc (.cells #[.int .i64 5, .int .i64 7] 3)) := (Fr.refl _ _).alloc _
  have r1 : Rd (w10.alloc (.cells #[.int .i64 5, .int .i64 7] 3)) (InB A5) 1 A5 2 c5 (ints [5, 7]) := (HA10.out.fr k1 (fun _ _ h => h)).rd
  have r2 := rd_block (xs := [5, 7]) (Bk.new w10 3 #[.int .i64 5, .int .i64 7]) (by decide)
  refine (ints_same (xs := [5, 7]) _ r1 r2).mono ?_
  rintro e w11 ⟨rfl, n11, rfl⟩
  have HF11 := Lib.hid ((HF10.out.trans k1).drewN n11)
  have HB11 := Lib.hid (HB10.out.fr (k1.drewN n11) (fun _ _ h => h))
  have HS11 := Lib.hid (HS10.out.fr (k1.drewN n11) (fun h => h))
  clear k1 r1 r2
  generalize (w10.alloc (.cells #[.int .i64 5, .int .i64 7] 3)).drewN n11 = w11 at *
  go_wp2_with fail
  have k2 : Fr NoB w11 (w11.alloc (.cells #[.int .i64 9] 3)) := (Fr.refl _ _).alloc _
  have r3 : Rd (w11.alloc (.cells #[.int .i64 9] 3)) (InB A7) 1 A7 1 c7 (ints [9]) := (HB11.out.fr k2 (fun _ _ h => h)).rd
  have r4 := rd_block (xs := [9]) (Bk.new w11 3 #[.int .i64 9]) (by decide)
  refine (ints_same (xs := [9]) _ r3 r4).mono ?_
  rintro e w12 ⟨rfl, n12, rfl⟩
  have HF12 := Lib.hid ((HF11.out.trans k2).drewN n12)
  have HS12 := Lib.hid (HS11.out.fr (k2.drewN n12) (fun h => h))
  clear k2 r3 r4
  generalize (w11.alloc (.cells #[.int .i64 9] 3)).drewN n12 = w12 at *
  go_wp2_with fail
  refine (floor_any 1 w12 HS12.out).mono ?_
  have h13 : floorF [0, 4, 0, 0, 0, 0, 0] 1 = 4 := by decide
  rw [h13]
  rintro e w13 ⟨rfl, rfl⟩
  go_wp2_with fail
  go_ret
  exact ⟨rfl, HF12.out⟩
end Go.Proofs.Ytjafjhaoogimcaa
