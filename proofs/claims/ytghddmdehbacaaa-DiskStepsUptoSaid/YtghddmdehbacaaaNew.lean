/- The contract of New. -/
import Derived.Test.YtghddmdehbacaaaWrite
namespace Go.Proofs.Ytghddmdehbacaaa
open Go.RowKit

def zeros (m : Nat) : List (List UInt8) := List.replicate m (List.replicate 256 0)
theorem zeros_len (m : Nat) : (zeros m).length = m := List.length_replicate
theorem zeros_all (m : Nat) : ∀ s ∈ zeros m, s.length = 256 := fun s hs => by
  rw [(List.mem_replicate.1 hs).2, List.length_replicate]

def NewPost (m : Int) (w : World) (e : Ending) (w' : World) : Prop :=
  (1 ≤ m ∧ m ≤ 8192 ∧ ∃ d S, w.heap.size ≤ d ∧ e = .returned (.tuple #[.pointer (some ⟨d, 0, none⟩), .int .i64 0]) ∧ DiskAt w' S d (zeros m.toNat) [] ∧ Up w.heap.size S ∧ Fr NoB w w') ∨
  (¬ (1 ≤ m ∧ m ≤ 8192) ∧ e = .returned (.tuple #[.pointer none, .int .i64 1]) ∧ Fr NoB w w')

theorem info57 : (Try.prog.info? 57).map (fun i => (i.zero, i.size, i.bytes)) = some (some (.agg zcells), 256, 256) := by kernel_rfl

def mades (m : Nat) : Array Value := madeCells zcells (m * 256)
theorem row_made (w : World) (m : Nat) : Row (w.alloc (.cells (mades m) 57)) w.heap.size 57 256 ((zeros m).map bv) := by
  have h := Row.made w 57 zcells m
  rw [zcells_size, zcells_bv] at h
  unfold zeros
  rw [List.map_replicate]
  exact h

theorem newAt (w : World) (m : Nat) (h1 : 0 < m) (h2 : m ≤ 8192) (a b : Nat) (ha : a = w.heap.size ∧ b = w.heap.size + 1 ∨ a = w.heap.size + 1 ∧ b = w.heap.size) :
    DiskAt (((w.alloc (.cells (mades m) 57)).alloc (.cells (mades m) 57)).alloc (.cells #[.slice (some ⟨a, 0, none⟩) m m, .slice (some ⟨b, 0, none⟩) m m, .slice none 0 0] 54)) (fun k => w.heap.size ≤ k ∧ k ≤ w.heap.size + 2) (w.heap.size + 2) (zeros m) [] := by
  have r1 := row_made w m
  have r2 := row_made (w.alloc (.cells (mades m) 57)) m
  have e : (w.alloc (.cells (mades m) 57)).heap.size = w.heap.size + 1 := by simp
  rw [e] at r2
  have fA : Fr NoB (w.alloc (.cells (mades m) 57)) ((w.alloc (.cells (mades m) 57)).alloc (.cells (mades m) 57)) := (Fr.refl _ _).alloc _
  have fB : ∀ o, Fr NoB ((w.alloc (.cells (mades m) 57)).alloc (.cells (mades m) 57)) (((w.alloc (.cells (mades m) 57)).alloc (.cells (mades m) 57)).alloc o) := fun o => (Fr.refl _ _).alloc o
  have q1 := fun o => (r1.fr fA (fun h => h)).fr (fB o) (fun h => h)
  have q2 := fun o => r2.fr (fB o) (fun h => h)
  have bk := Bk.new ((w.alloc (.cells (mades m) 57)).alloc (.cells (mades m) 57)) 54 #[.slice (some ⟨a, 0, none⟩) m m, .slice (some ⟨b, 0, none⟩) m m, .slice none 0 0]
  have e2 : ((w.alloc (.cells (mades m) 57)).alloc (.cells (mades m) 57)).heap.size = w.heap.size + 2 := by simp
  rw [e2] at bk
  refine ⟨⟨a, b, none, 0, by rw [zeros_len]; exact bk, ?_, ?_, Arr.none_ _ _ _, by omega, by omega, by omega, fun k hk => (InB.none_ k hk).elim⟩, by omega, fun k hk => ?_, zeros_all m, by simp, by rw [zeros_len]; exact h1, by rw [zeros_len]; exact h2⟩
  · rcases ha with ⟨rfl, _⟩ | ⟨rfl, _⟩
    · exact q1 _
    · exact q2 _
  · rcases ha with ⟨_, rfl⟩ | ⟨_, rfl⟩
    · exact q2 _
    · exact q1 _
  · simp
    omega

theorem new_any (m : Int) (w : World) : Calls Try.prog 8 #[.int .i64 m] w (NewPost m w) := by
  obtain ⟨i0, hi0, hz0, hz1, hz2⟩ := info_parts info57
  by_cases h1 : m < 1
  · go_enter Try.func8, Try.ntmps8
    go_wp2
    go_ret2
    exact .inr ⟨by omega, rfl, Fr.refl _ _⟩
  by_cases h2 : 8192 < m
  · go_enter Try.func8, Try.ntmps8
    go_wp2
    go_ret2
    exact .inr ⟨by omega, rfl, Fr.refl _ _⟩
  obtain ⟨k, rfl⟩ := Int.eq_ofNat_of_zero_le (by omega : 0 ≤ m)
  have hmk : ∀ u : World, (Instr.makeSlice 51 (.int .i64 (k : Int)) (.int .i64 (k : Int))).run Try.prog u = .ok (.slice (some ⟨u.heap.size, 0, none⟩) k k) (u.alloc (.cells (mades k) 57)) := fun u => by
    have h := run_make (P := Try.prog) u 51 57 i0 (.agg zcells) Try.underlying51 hi0 hz0 .i64 .i64 k k (by omega) (Int.le_refl _) (by rw [hz2]; omega) (by omega)
    rw [hz1, Int.toNat_natCast] at h
    exact h
  have hnew := newAt w.drew k (by omega) (by omega)
  have HN := Lib.hid hnew
  clear hnew
  go_enter Try.func8, Try.ntmps8
  go_wp2_with fail
  go_region
  all_goals go_wp2_with fail
  · go_ret2
    exact .inl ⟨by omega, by omega, w.heap.size + 2, _, by omega, rfl, HN.out _ _ (.inl ⟨rfl, rfl⟩), fun k hk => hk.1, (((Fr.refl NoB w).drew.alloc _).alloc _).alloc _⟩
  · go_ret2
    exact .inl ⟨by omega, by omega, w.heap.size + 2, _, by omega, rfl, HN.out _ _ (.inr ⟨rfl, rfl⟩), fun k hk => hk.1, (((Fr.refl NoB w).drew.alloc _).alloc _).alloc _⟩
end Go.Proofs.Ytghddmdehbacaaa
