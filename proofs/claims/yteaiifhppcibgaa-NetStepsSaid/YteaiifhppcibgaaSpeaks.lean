/- The contract of speaks. -/
import Derived.Test.YteaiifhppcibgaaCopy
namespace Go.Proofs.Yteaiifhppcibgaa
open Go.RowKit

/-- All blocks of S are new since B. -/
def Up (B : Nat) (S : Nat → Prop) : Prop := ∀ k, S k → B ≤ k
theorem Gr.up {B : Nat} {S S' : Nat → Prop} {w : World} (h : Gr S S' w) (hu : Up B S) (hB : B ≤ w.heap.size) : Up B S' := fun k hk => by
  rcases h k hk with h | h
  · exact hu k h
  · omega
theorem Fr.up {S : Nat → Prop} {w w1 w2 : World} (h : Fr NoB w w1) (k : Fr S w1 w2) (hu : Up w.heap.size S) : Fr NoB w w2 :=
  h.join k fun j hj hs => by have := hu j hs; omega

theorem speaks_any (w : World) : Calls Try.prog 11 #[] w fun e w' => e = .returned (.bool true) ∧ Fr NoB w w' := by
  have kc := fun (w : World) (C : Array Value) (n c : Nat) => Lib.run_convert_bytes_const (P := Try.prog) w 29 5 C n c Try.underlying29 Try.underlying5
  go_enter Try.func11, Try.ntmps11
  go_wp2_with fail
  refine (new_any 2 _).mono ?_
  rintro e w1 (⟨_, _, n, S, hn, rfl, hnet, hS, hfr⟩ | ⟨hno, _⟩)
  rotate_left
  · omega
  go_wp2_with fail
  have net1 := hnet.fr (T := NoB) ((Fr.refl _ _).alloc (.cells #[.int .u8 97] 5 (1, 2))) (fun _ _ h => h)
  have rd1 := rd_bytes_new w1 5 [97] (1, 2) (by simp [maxLen])
  refine (send_any 0 1 _ _ [97] _ net1 rd1).mono ?_
  rintro e w2 ⟨S2, rfl, net2, hfr2, gr2⟩
  have hS2 : (sendF 2 [] 0 1 [97]) = (0, [⟨0, 1, [97]⟩]) := rfl
  rw [hS2] at net2 ⊢
  clear hS2 kc
  have kc := fun (w : World) (C : Array Value) (n c : Nat) => Lib.run_convert_bytes_const (P := Try.prog) w 29 5 C n c Try.underlying29 Try.underlying5
  go_wp2_with fail
  have net3 := net2.fr (T := NoB) ((Fr.refl _ _).alloc (.cells #[.int .u8 98] 5 (1, 2))) (fun _ _ h => h)
  have rd3 := rd_bytes_new w2 5 [98] (1, 2) (by simp [maxLen])
  refine (send_any 0 1 _ _ [98] _ net3 rd3).mono ?_
  rintro e w4 ⟨S4, rfl, net4, hfr4, gr4⟩
  have hS4 : (sendF 2 [⟨0, 1, [97]⟩] 0 1 [98]) = (0, [⟨0, 1, [97]⟩, ⟨0, 1, [98]⟩]) := rfl
  rw [hS4] at net4 ⊢
  clear hS4 kc
  go_wp2_with fail
  refine (pick_some 1 ⟨0, 1, [98]⟩ _ net4 rfl).mono ?_
  rintro e w5 ⟨S5, A5, c5, rfl, arr5, in5, net5, hfr5, gr5⟩
  go_wp2_with fail
  have net6 := net5.fr (T := NoB) ((Fr.refl _ _).alloc (.cells #[.int .i64 0, .int .i64 1, .slice A5 1 c5] 36)) (fun _ _ h => h)
  refine (copy_any 0 _ net6 (by simp)).mono ?_
  rintro e w7 ⟨S7, rfl, net7, hfr7, gr7⟩
  have hS7 : (copyF ([(⟨0, 1, [97]⟩ : Msg), ⟨0, 1, [98]⟩].eraseIdx 1) 0) = (0, [⟨0, 1, [97]⟩, ⟨0, 1, [97]⟩]) := rfl
  rw [hS7] at net7 ⊢
  clear hS7
  go_wp2_with fail
  refine (len_net _ net7).mono ?_
  rintro e w' ⟨rfl, rfl⟩
  go_wp2_with fail
  refine (pick_some 0 ⟨0, 1, [97]⟩ _ net7 rfl).mono ?_
  rintro e w8 ⟨S8, A8, c8, rfl, arr8, in8, net8, hfr8, gr8⟩
  -- the first message, still there
  have z5 : (w5.alloc (.cells #[.int .i64 0, .int .i64 1, .slice A5 1 c5] 36)).heap.size = w5.heap.size + 1 := by simp
  have b5 : Bk (w5.alloc (.cells #[.int .i64 0, .int .i64 1, .slice A5 1 c5] 36)) w5.heap.size 36 #[.int .i64 0, .int .i64 1, .slice A5 1 c5] := Bk.new _ _ _
  have l5 := net5.lt
  have b7 := b5.fr hfr7 (fun h => by have := l5 _ h; omega)
  have n7 : ∀ k, k ≤ w5.heap.size → ¬ S5 k → ¬ S7 k := fun k hk hn h => by
    rcases gr7 k h with h | h
    · exact hn h
    · omega
  have b8 := b7.fr hfr8 (n7 _ (Nat.le_refl _) (fun h => by have := l5 _ h; omega))
  have a7 := (arr5.fr (T := NoB) ((Fr.refl _ _).alloc (.cells #[.int .i64 0, .int .i64 1, .slice A5 1 c5] 36)) (fun _ _ h => h)).fr hfr7 (fun k hk => (in5 k hk).2)
  have a8 := a7.fr hfr8 (fun k hk => n7 k (by have := arr5.lt k hk; omega) (in5 k hk).2)
  have q2 : w8.cell? ⟨w5.heap.size, 2, none⟩ = some (.slice A5 1 c5) := b8.cell 2
  have q1 : w8.cell? ⟨w5.heap.size, 1, none⟩ = some (.int .i64 1) := b8.cell 1
  have hlt8 := b8.lt
  have f8 : ∀ o, Fr NoB w8 (w8.alloc o) := fun o => (Fr.refl _ _).alloc o
  have v5 : ∀ o, (convert 29 9 (.slice A5 1 c5)).run Try.prog (w8.alloc o) = .ok (.string ⟨#[98]⟩) (w8.alloc o) := fun o => run_conv_rd (w8.alloc o) 29 9 5 Try.underlying29 Try.underlying5 Try.underlying9 [98] (a8.fr (f8 o) (fun _ _ h => h)).rd
  have v8 : ∀ o, (convert 29 9 (.slice A8 1 c8)).run Try.prog (w8.alloc o) = .ok (.string ⟨#[97]⟩) (w8.alloc o) := fun o => run_conv_rd (w8.alloc o) 29 9 5 Try.underlying29 Try.underlying5 Try.underlying9 [97] (arr8.fr (f8 o) (fun _ _ h => h)).rd
  have hall : ∀ o, Fr NoB w (w8.alloc o) := by
    have x1 := hfr.alloc (.cells #[.int .u8 97] 5 (1, 2))
    have x2 := x1.up hfr2 hS
    have u2 := gr2.up hS x1.size
    have x3 := x2.alloc (.cells #[.int .u8 98] 5 (1, 2))
    have x4 := x3.up hfr4 u2
    have u4 := gr4.up u2 x3.size
    have x5 := x4.up hfr5 u4
    have u5 := gr5.up u4 x4.size
    have x6 := x5.alloc (.cells #[.int .i64 0, .int .i64 1, .slice A5 1 c5] 36)
    have x7 := x6.up hfr7 u5
    have u7 := gr7.up u5 x6.size
    have x8 := x7.up hfr8 u7
    exact fun o => x8.alloc o
  have net9 : ∀ o, NetAt (w8.alloc o) S8 n 2 [⟨0, 1, [97]⟩] := fun o => net8.fr (f8 o) (fun _ _ h => h)
  clear b5 b7 b8 a7 a8 n7 l5 z5 hnet net1 net2 net3 net4 net5 net6 net7 net8 rd1 rd3 hfr hfr2 hfr4 hfr5 hfr7 hfr8 gr2 gr4 gr5 gr7 gr8 in5 in8 arr5 arr8 hS f8
  go_wp2_with fail
  refine (len_net _ (net9 _)).mono ?_
  rintro e w' ⟨rfl, rfl⟩
  go_wp2_with fail
  go_ret
  exact ⟨rfl, hall _⟩
end Go.Proofs.Yteaiifhppcibgaa
