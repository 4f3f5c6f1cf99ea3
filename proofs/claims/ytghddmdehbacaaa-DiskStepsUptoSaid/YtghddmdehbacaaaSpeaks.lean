/- The contract of speaks; a nil disk. -/
import Derived.Test.YtghddmdehbacaaaNew
import Derived.Test.YtghddmdehbacaaaSync
namespace Go.Proofs.Ytghddmdehbacaaa
open Go.RowKit

theorem Rd.take {w : World} {S : Nat → Prop} {A : Option Addr} {n c m : Nat} {xs : List Value} (h : Rd w S 1 A n c xs) (hm : m ≤ n) (hA : A ≠ none) : Rd w S 1 A m c (xs.take m) := by
  obtain ⟨h1, h2, h3, h4, h5⟩ := h
  refine ⟨by rw [List.length_take, h1]; omega, by omega, h3, fun h => absurd h hA, fun a ha hm0 => ?_⟩
  obtain ⟨k1, k2, k3⟩ := h5 a ha (by omega)
  refine ⟨k1, k2, fun j u hu => k3 j u ?_⟩
  rw [List.getElem?_take] at hu
  split at hu
  · exact hu
  · cases hu

def sayAB : List (List UInt8) := las2F (zeros 2) [(0, full [97, 98])] 0 1
def sayCD : List (List UInt8) := apply [(1, full [99, 100])] sayAB
def s0 : List UInt8 := sayAB[0]?.getD []
def s1 : List UInt8 := sayCD[1]?.getD []
theorem sayAB_len : sayAB.length = 2 := by rw [sayAB, las2F_len, zeros_len]
theorem sayCD_len : sayCD.length = 2 := by rw [sayCD, apply_len, sayAB_len]
theorem s0_get : (apply [] sayAB)[0]? = some s0 := by
  show sayAB[0]? = some (sayAB[0]?.getD [])
  rw [List.getElem?_eq_getElem (by rw [sayAB_len]; omega)]
  rfl
theorem s1_get : (apply [] sayCD)[1]? = some s1 := by
  show sayCD[1]? = some (sayCD[1]?.getD [])
  rw [List.getElem?_eq_getElem (by rw [sayCD_len]; omega)]
  rfl
theorem s0_take : s0.take 3 = [97, 0, 0] := by kernel_rfl
theorem s1_take : s1.take 2 = [99, 100] := by kernel_rfl

set_option maxRecDepth 100000 in
theorem speaks_any (w : World) : Calls Try.prog 14 #[] w fun e w' => e = .returned (.bool true) ∧ Fr NoB w w' := by
  have kc := fun (w : World) (C : Array Value) (n c : Nat) => Lib.run_convert_bytes_const (P := Try.prog) w 27 5 C n c Try.underlying27 Try.underlying5
  go_enter Try.func14, Try.ntmps14
  go_wp2_with fail
  refine (new_any 2 _).mono ?_
  rintro e w1 (⟨_, _, d, S, hd, rfl, dk1, up1, fr1⟩ | ⟨hno, _⟩)
  rotate_left
  · omega
  go_wp2_with fail
  have z1 := fr1.size
  have dk1' : DiskAt (w1.alloc (.cells #[.int .u8 97, .int .u8 98] 5 (2, 3))) S d (zeros 2) [] := dk1.fr (T := NoB) ((Fr.refl _ _).alloc (.cells #[.int .u8 97, .int .u8 98] 5 (2, 3))) (fun _ _ h => h)
  have rd1 := rd_bytes_new w1 5 [97, 98] (2, 3) (by simp [maxLen])
  refine (write_any 0 _ _ [97, 98] _ dk1' rd1 (by simp)).mono ?_
  have hF1 : writeF (zeros 2).length [] 0 [97, 98] = (0, [(0, full [97, 98])]) := rfl
  rw [hF1]
  rintro e w2 ⟨S2, rfl, dk2, fr2, gr2⟩
  have fw2 : Fr NoB w w2 := (fr1.alloc _).up fr2 up1
  have up2 : Up w.heap.size S2 := gr2.up up1 (by simp; omega)
  go_wp2_with fail
  refine (crash_any 0 1 w2 dk2 (by simp)).mono ?_
  have hF2 : crashF (zeros 2) [(0, full [97, 98])] 0 1 = (0, sayAB, []) := rfl
  rw [hF2]
  rintro e w3 ⟨S3, rfl, dk3, fr3, gr3⟩
  have fw3 : Fr NoB w w3 := fw2.up fr3 up2
  have up3 : Up w.heap.size S3 := gr3.up up2 fw2.size
  go_wp2_with fail
  refine (read_some 0 s0 w3 dk3 s0_get).mono ?_
  rintro e w4 ⟨x, hx, rfl, rdx, fr4⟩
  have fw4 : Fr NoB w w4 := fw3.trans fr4
  have dk4 := dk3.fr fr4 (fun _ _ h => h)
  have nx : ∀ k, S3 k → k ≠ x := fun k hk e => by have := dk3.lt k hk; omega
  clear kc
  have kc := fun (w : World) (C : Array Value) (n c : Nat) => Lib.run_convert_bytes_const (P := Try.prog) w 27 5 C n c Try.underlying27 Try.underlying5
  go_wp2_with fail
  have fA : Fr NoB w4 (w4.alloc (.cells #[.int .u8 99, .int .u8 100] 5 (2, 3))) := (Fr.refl _ _).alloc _
  have rd4 := rd_bytes_new w4 5 [99, 100] (2, 3) (by simp [maxLen])
  refine (write_any 1 _ _ [99, 100] _ (dk4.fr fA (fun _ _ h => h)) rd4 (by simp)).mono ?_
  have hF4 : writeF sayAB.length [] 1 [99, 100] = (0, [(1, full [99, 100])]) := by rw [sayAB_len]; rfl
  rw [hF4]
  rintro e w5 ⟨S5, rfl, dk5, fr5, gr5⟩
  have rdx5 := (rdx.fr fA (fun _ _ _ h => h)).fr fr5 (fun k _ hk hs => by subst hk; exact nx _ hs rfl)
  have fw5 : Fr NoB w w5 := (fw4.trans fA).up fr5 up3
  have zA := fA.size
  have z4 := fr4.size
  have up5 : Up w.heap.size S5 := gr5.up up3 (fw4.trans fA).size
  have hxl : x < w4.heap.size := (rdx.2.2.2.2 _ rfl (by omega)).2.1
  have nx5 : ∀ k, S5 k → k ≠ x := fun k hk e => by
    rcases gr5 k hk with h | h
    · exact nx k h e
    · omega
  go_wp2_with fail
  refine (sync_any w5 dk5 (by simp)).mono ?_
  rintro e w6 ⟨S6, rfl, dk6, fr6, gr6⟩
  have hS : apply [(1, full [99, 100])] sayAB = sayCD := rfl
  rw [hS] at dk6
  have rdx6 := rdx5.fr fr6 (fun k _ hk hs => by subst hk; exact nx5 _ hs rfl)
  have fw6 : Fr NoB w w6 := fw5.up fr6 up5
  have up6 : Up w.heap.size S6 := gr6.up up5 fw5.size
  have z5 := fr5.size
  have nx6 : ∀ k, S6 k → k ≠ x := fun k hk e => by
    rcases gr6 k hk with h | h
    · exact nx5 k h e
    · omega
  clear kc hF4
  have kc := fun (w : World) (C : Array Value) (n c : Nat) => Lib.run_convert_bytes_const (P := Try.prog) w 27 5 C n c Try.underlying27 Try.underlying5
  go_wp2_with fail
  have fB : Fr NoB w6 (w6.alloc (.cells #[.int .u8 101, .int .u8 102] 5 (2, 3))) := (Fr.refl _ _).alloc _
  have rd6 := rd_bytes_new w6 5 [101, 102] (2, 3) (by simp [maxLen])
  refine (write_any 1 _ _ [101, 102] _ (dk6.fr fB (fun _ _ h => h)) rd6 (by simp)).mono ?_
  have hF6 : writeF sayCD.length [] 1 [101, 102] = (0, [(1, full [101, 102])]) := by rw [sayCD_len]; rfl
  rw [hF6]
  rintro e w7 ⟨S7, rfl, dk7, fr7, gr7⟩
  have rdx7 := (rdx6.fr fB (fun _ _ _ h => h)).fr fr7 (fun k _ hk hs => by subst hk; exact nx6 _ hs rfl)
  have fw7 : Fr NoB w w7 := (fw6.trans fB).up fr7 up6
  have zB := fB.size
  have z6 := fr6.size
  have up7 : Up w.heap.size S7 := gr7.up up6 (fw6.trans fB).size
  have nx7 : ∀ k, S7 k → k ≠ x := fun k hk e => by
    rcases gr7 k hk with h | h
    · exact nx6 k h e
    · omega
  clear kc hF6
  go_wp2_with fail
  refine (waits_any w7 dk7).mono ?_
  rintro e w' ⟨rfl, rfl⟩
  have h1 : (([(1, full [101, 102])] : List (Nat × List UInt8)).length : Int) = 1 := rfl
  rw [h1]
  clear h1
  go_wp2_with fail
  refine (crash_any 0 0 w7 dk7 (by simp)).mono ?_
  have hF7 : crashF sayCD [(1, full [101, 102])] 0 0 = (0, sayCD, []) := by
    unfold crashF
    rw [if_pos ⟨by omega, by simp, by omega, by omega⟩]
    have := las2F_zero sayCD [(1, full [101, 102])] 0 (fun p hp => by simp at hp; subst hp; rw [sayCD_len]; simp)
    rw [show ((0 : Int).toNat) = 0 from rfl, this]
    rfl
  rw [hF7]
  rintro e w8 ⟨S8, rfl, dk8, fr8, gr8⟩
  have rdx8 := rdx7.fr fr8 (fun k _ hk hs => by subst hk; exact nx7 _ hs rfl)
  have fw8 : Fr NoB w w8 := fw7.up fr8 up7
  clear hF7
  go_wp2_with fail
  refine (read_some 1 s1 w8 dk8 s1_get).mono ?_
  rintro e w9 ⟨y, hy, rfl, rdy, fr9⟩
  have rdx9 := rdx8.fr fr9 (fun _ _ _ h => h)
  have cx := run_conv_rd w9 27 9 5 Try.underlying27 Try.underlying5 Try.underlying9 [97, 0, 0] (by have := Rd.take rdx9 (m := 3) (by omega) (by simp); rw [bv_take, s0_take] at this; exact this)
  have cy := run_conv_rd w9 27 9 5 Try.underlying27 Try.underlying5 Try.underlying9 [99, 100] (by have := Rd.take rdy (m := 2) (by omega) (by simp); rw [bv_take, s1_take] at this; exact this)
  have l3 : ([97, 0, 0] : List UInt8).length = 3 := rfl
  have l2 : ([99, 100] : List UInt8).length = 2 := rfl
  rw [l3] at cx
  rw [l2] at cy
  clear l3 l2 rdx rdx5 rdx6 rdx7 rdx8 rdx9 rdy
  go_wp2_with fail
  go_ret
  exact ⟨rfl, fw8.trans fr9⟩
end Go.Proofs.Ytghddmdehbacaaa
