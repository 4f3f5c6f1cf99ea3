/- A session in memory; contracts of Begin, node, Read, Floor, Again; Ints. -/
import Derived.Test.YtjafjhaoogimcaaSettle
namespace Go.Proofs.Ytjafjhaoogimcaa
open Go.RowKit

def isNode (i : Int) : Bool := decide (0 ≤ i ∧ i < 7)
theorem node_any (i : Int) (w : World) : Calls Try.prog 27 #[.int .i64 i] w fun e w' => e = .returned (.bool (isNode i)) ∧ w = w' := by
  by_cases h1 : 0 ≤ i
  · by_cases h2 : i < 7
    · go_enter Try.func27, Try.ntmps27
      go_wp2
      go_ret
      exact ⟨by simp [isNode, h1, h2], rfl⟩
    · go_enter Try.func27, Try.ntmps27
      go_wp2
      go_ret
      exact ⟨by simp [isNode, h2], rfl⟩
  · have h1' : decide (0 ≤ i) = false := by simpa using h1
    go_enter Try.func27, Try.ntmps27
    go_wp2
    go_ret
    exact ⟨by simp [isNode]; omega, rfl⟩
theorem node_of {i : Int} (h : isNode i = true) : ∃ k : Nat, i = (k : Int) ∧ k < 7 := by
  have := of_decide_eq_true h
  exact ⟨i.toNat, by omega, by omega⟩

/-- The floors of the seven nodes lie in block s. -/
structure SessAt (w : World) (T : TypeId) (s : Nat) (fs : List Int) : Prop where
  bk : Bk w s T (ints fs).toArray
  len : fs.length = 7
theorem SessAt.fr {S : Nat → Prop} {w w1 : World} {T : TypeId} {s : Nat} {fs : List Int} (h : SessAt w T s fs) (hf : Fr S w w1) (hn : ¬ S s) : SessAt w1 T s fs := ⟨h.bk.fr hf hn, h.len⟩
theorem SessAt.cell {w : World} {T : TypeId} {s : Nat} {fs : List Int} (h : SessAt w T s fs) {k : Nat} (hk : k < fs.length) : w.cell? ⟨s, k, none⟩ = some (.int .i64 fs[k]) := by
  rw [h.bk.cell]
  simp [ints, hk]
theorem SessAt.set {w : World} {T : TypeId} {s : Nat} {fs : List Int} (h : SessAt w T s fs) (k : Nat) (x : Int) : SessAt (w.setCell ⟨s, k, none⟩ (.int .i64 x)) T s (fs.set k x) ∧ Fr (fun j => j = s) w (w.setCell ⟨s, k, none⟩ (.int .i64 x)) := by
  refine ⟨⟨?_, by rw [List.length_set]; exact h.len⟩, Fr.setCell (S := fun j => j = s) (p := ⟨s, k, none⟩) (Fr.refl _ w) (.inl rfl) _⟩
  have := h.bk.set k (.int .i64 x)
  have e : (ints fs).toArray.setIfInBounds k (.int .i64 x) = (ints (fs.set k x)).toArray := by simp [ints, List.map_set]
  rwa [e] at this

def zero7 : List Int := [0, 0, 0, 0, 0, 0, 0]
theorem begin_any (w : World) : Calls Try.prog 20 #[] w fun e w' => e = .returned (.pointer (some ⟨w.heap.size, 0, none⟩)) ∧ SessAt w' 64 w.heap.size zero7 ∧ Fr NoB w w' := by
  go_enter Try.func20, Try.ntmps20
  go_wp2_with fail
  go_ret
  exact ⟨rfl, ⟨Bk.new _ _ _, rfl⟩, (Fr.refl _ _).alloc _⟩

def readF (fs : List Int) (i p : Int) : Bool × Int × List Int :=
  if isNode i = true ∧ 0 ≤ p ∧ p ≤ 1099511627776 then if p < fs[i.toNat]?.getD 0 then (false, 0, fs) else (true, 0, fs.set i.toNat p) else (false, 1, fs)
def ReadPost (T : TypeId) (s : Nat) (r : Bool × Int × List Int) (w : World) (e : Ending) (w' : World) : Prop := e = .returned (.tuple #[.bool r.1, .int .i64 r.2.1]) ∧ SessAt w' T s r.2.2 ∧ Fr (fun j => j = s) w w'

theorem read_any {s : Nat} {fs : List Int} (i p : Int) (w : World) (h : SessAt w 64 s fs) :
    Calls Try.prog 23 #[.pointer (some ⟨s, 0, none⟩), .int .i64 i, .int .i64 p] w (ReadPost 64 s (readF fs i p) w) := by
  have H := Lib.hid h
  unfold readF
  have hn := fun u => node_any i u
  by_cases hi : isNode i = true
  rotate_left
  · rw [if_neg (fun hh => hi hh.1)]
    have hi' : isNode i = false := by simpa using hi
    rw [hi'] at hn
    clear h hi
    go_enter Try.func23, Try.ntmps23
    go_wp2_with fail
    refine (hn _).mono ?_
    rintro e w' ⟨rfl, rfl⟩
    go_wp2_with fail
    go_ret2
    exact ⟨rfl, H.out, Fr.refl _ _⟩
  obtain ⟨k, rfl, hk⟩ := node_of hi
  rw [hi] at hn
  by_cases h1 : p < 0
  · rw [if_neg (by omega)]
    clear h hi
    go_enter Try.func23, Try.ntmps23
    go_wp2_with fail
    refine (hn _).mono ?_
    rintro e w' ⟨rfl, rfl⟩
    go_wp2_with fail
    go_ret2
    exact ⟨rfl, H.out, Fr.refl _ _⟩
  by_cases h2 : 1099511627776 < p
  · rw [if_neg (by omega)]
    clear h hi
    go_enter Try.func23, Try.ntmps23
    go_wp2_with fail
    refine (hn _).mono ?_
    rintro e w' ⟨rfl, rfl⟩
    go_wp2_with fail
    go_ret2
    exact ⟨rfl, H.out, Fr.refl _ _⟩
  rw [if_pos ⟨hi, by omega, by omega⟩, Int.toNat_natCast]
  have hkl : k < fs.length := by rw [h.len]; exact hk
  have c0 := h.cell hkl
  rw [List.getElem?_eq_getElem hkl, Option.getD_some]
  have i1 : (k : Int) < 7 := by omega
  obtain ⟨s1, s2⟩ := h.set k p
  have H1 := Lib.hid s1
  have H2 := Lib.hid s2
  have f0 := h.bk.frozen k
  clear h hi s1 s2
  generalize fs[k] = x at *
  by_cases h3 : p < x
  · rw [if_pos h3]
    go_enter Try.func23, Try.ntmps23
    go_wp2_with fail
    refine (hn _).mono ?_
    rintro e w' ⟨rfl, rfl⟩
    go_wp2_with fail
    go_ret2
    exact ⟨rfl, H.out, Fr.refl _ _⟩
  · rw [if_neg h3]
    have h3' : decide (p < x) = false := decide_eq_false h3
    go_enter Try.func23, Try.ntmps23
    go_wp2_with fail
    refine (hn _).mono ?_
    rintro e w' ⟨rfl, rfl⟩
    go_wp2_with fail
    go_ret2
    exact ⟨rfl, H1.out, H2.out⟩
theorem read_nil (i p : Int) (w : World) : Calls Try.prog 23 #[.pointer none, .int .i64 i, .int .i64 p] w fun e w' => (e = .returned (.tuple #[.bool false, .int .i64 0]) ∨ e = .returned (.tuple #[.bool false, .int .i64 1])) ∧ w = w' := by
  have hn := fun u => node_any i u
  by_cases hi : isNode i = true
  rotate_left
  · have hi' : isNode i = false := by simpa using hi
    rw [hi'] at hn
    clear hi
    go_enter Try.func23, Try.ntmps23
    go_wp2_with fail
    refine (hn _).mono ?_
    rintro e w' ⟨rfl, rfl⟩
    go_wp2_with fail
    go_ret2
    exact ⟨.inr rfl, rfl⟩
  rw [hi] at hn
  by_cases h1 : p < 0
  · go_enter Try.func23, Try.ntmps23
    go_wp2_with fail
    refine (hn _).mono ?_
    rintro e w' ⟨rfl, rfl⟩
    go_wp2_with fail
    go_ret2
    exact ⟨.inr rfl, rfl⟩
  by_cases h2 : 1099511627776 < p
  · go_enter Try.func23, Try.ntmps23
    go_wp2_with fail
    refine (hn _).mono ?_
    rintro e w' ⟨rfl, rfl⟩
    go_wp2_with fail
    go_ret2
    exact ⟨.inr rfl, rfl⟩
  · go_enter Try.func23, Try.ntmps23
    go_wp2_with fail
    refine (hn _).mono ?_
    rintro e w' ⟨rfl, rfl⟩
    go_wp2_with fail
    go_ret2
    exact ⟨.inl rfl, rfl⟩

def floorF (fs : List Int) (i : Int) : Int := if isNode i = true then fs[i.toNat]?.getD 0 else 0
theorem floor_any {s : Nat} {fs : List Int} (i : Int) (w : World) (h : SessAt w 64 s fs) :
    Calls Try.prog 25 #[.pointer (some ⟨s, 0, none⟩), .int .i64 i] w fun e w' => e = .returned (.int .i64 (floorF fs i)) ∧ w = w' := by
  unfold floorF
  have hn := fun u => node_any i u
  by_cases hi : isNode i = true
  · rw [if_pos hi]
    obtain ⟨k, rfl, hk⟩ := node_of hi
    rw [hi] at hn
    have hkl : k < fs.length := by rw [h.len]; exact hk
    have c0 := h.cell hkl
    rw [Int.toNat_natCast, List.getElem?_eq_getElem hkl, Option.getD_some]
    have i1 : (k : Int) < 7 := by omega
    clear h hi
    generalize fs[k] = x at *
    go_enter Try.func25, Try.ntmps25
    go_wp2_with fail
    refine (hn _).mono ?_
    rintro e w' ⟨rfl, rfl⟩
    go_wp2_with fail
    go_ret
    exact ⟨rfl, rfl⟩
  · rw [if_neg hi]
    have hi' : isNode i = false := by simpa using hi
    rw [hi'] at hn
    clear h hi
    go_enter Try.func25, Try.ntmps25
    go_wp2_with fail
    refine (hn _).mono ?_
    rintro e w' ⟨rfl, rfl⟩
    go_wp2_with fail
    go_ret
    exact ⟨rfl, rfl⟩
theorem floor_nil (i : Int) (w : World) : Calls Try.prog 25 #[.pointer none, .int .i64 i] w fun e w' => e = .returned (.int .i64 0) ∧ w = w' := by
  go_enter Try.func25, Try.ntmps25
  go_wp2_with fail
  go_ret
  exact ⟨rfl, rfl⟩

def againF (fs : List Int) (i : Int) : Int × List Int := if isNode i = true then (0, fs.set i.toNat 0) else (1, fs)
def AgainPost (T : TypeId) (s : Nat) (r : Int × List Int) (w : World) (e : Ending) (w' : World) : Prop := e = .returned (.int .i64 r.1) ∧ SessAt w' T s r.2 ∧ Fr (fun j => j = s) w w'
theorem again_any {s : Nat} {fs : List Int} (i : Int) (w : World) (h : SessAt w 64 s fs) :
    Calls Try.prog 21 #[.pointer (some ⟨s, 0, none⟩), .int .i64 i] w (AgainPost 64 s (againF fs i) w) := by
  have H := Lib.hid h
  unfold againF
  have hn := fun u => node_any i u
  by_cases hi : isNode i = true
  · rw [if_pos hi]
    obtain ⟨k, rfl, hk⟩ := node_of hi
    rw [hi] at hn
    have hkl : k < fs.length := by rw [h.len]; exact hk
    have c0 := h.cell hkl
    have f0 := h.bk.frozen k
    have i1 : (k : Int) < 7 := by omega
    rw [Int.toNat_natCast]
    obtain ⟨s1, s2⟩ := h.set k 0
    have H1 := Lib.hid s1
    have H2 := Lib.hid s2
    clear h hi s1 s2
    generalize fs[k] = x at *
    go_enter Try.func21, Try.ntmps21
    go_wp2_with fail
    refine (hn _).mono ?_
    rintro e w' ⟨rfl, rfl⟩
    go_wp2_with fail
    go_ret
    exact ⟨rfl, H1.out, H2.out⟩
  · rw [if_neg hi]
    have hi' : isNode i = false := by simpa using hi
    rw [hi'] at hn
    clear h hi
    go_enter Try.func21, Try.ntmps21
    go_wp2_with fail
    refine (hn _).mono ?_
    rintro e w' ⟨rfl, rfl⟩
    go_wp2_with fail
    go_ret
    exact ⟨rfl, H.out, Fr.refl _ _⟩
theorem again_nil (i : Int) (w : World) : Calls Try.prog 21 #[.pointer none, .int .i64 i] w fun e w' => e = .returned (.int .i64 (if isNode i = true then 7 else 1)) ∧ w = w' := by
  have hn := fun u => node_any i u
  by_cases hi : isNode i = true
  · rw [if_pos hi]
    rw [hi] at hn
    clear hi
    go_enter Try.func21, Try.ntmps21
    go_wp2_with fail
    refine (hn _).mono ?_
    rintro e w' ⟨rfl, rfl⟩
    go_wp2_with fail
    go_ret
    exact ⟨rfl, rfl⟩
  · rw [if_neg hi]
    have hi' : isNode i = false := by simpa using hi
    rw [hi'] at hn
    clear hi
    go_enter Try.func21, Try.ntmps21
    go_wp2_with fail
    refine (hn _).mono ?_
    rintro e w' ⟨rfl, rfl⟩
    go_wp2_with fail
    go_ret
    exact ⟨rfl, rfl⟩

/-- latticeplain.Ints on two slices that read as the same ints. -/
theorem int_cell {w : World} {S : Nat → Prop} {A : Option Addr} {c : Nat} {xs : List Int} (h : Rd w S 1 A xs.length c (ints xs)) {j : Nat} (hj : j < xs.length) :
    ∃ b off, A = some ⟨b, off, none⟩ ∧ w.cell? ⟨b, off + j, none⟩ = some (.int .i64 xs[j]) := by
  obtain ⟨b, off, u, rfl, _, _, hu, hcu⟩ := h.cell_at hj 0 (by omega)
  simp only [Nat.mul_one, Nat.add_zero] at hu hcu
  have hux : u = .int .i64 xs[j] := by
    simp only [ints, List.getElem?_map, List.getElem?_eq_getElem hj, Option.map_some, Option.some.injEq] at hu
    exact hu.symm
  subst hux
  exact ⟨b, off, rfl, hcu⟩
theorem ints_same {S T : Nat → Prop} {A B : Option Addr} {c d : Nat} {xs : List Int} (w : World) (h : Rd w S 1 A xs.length c (ints xs)) (h' : Rd w T 1 B xs.length d (ints xs)) :
    Calls Try.prog 15 #[.slice A xs.length c, .slice B xs.length d] w fun e w' => e = .returned (.bool true) ∧ ∃ n, w' = w.drewN n := by
  have hl : xs.length ≤ 9223372036854775807 := by have := h.2.1; have := h.2.2.1; simp only [maxLen] at this; omega
  go_enter Try.func15, Try.ntmps15
  go_wp2_with fail
  go_loopg [13] xs.length (fun g v13 wr => ∃ j n : Nat, j ≤ xs.length ∧ g = xs.length - j ∧ v13 = .int .i64 j ∧ wr = w.drewN n)
  case atStart => exact ⟨0, 0, Nat.zero_le _, rfl, rfl, rfl⟩
  case round =>
    obtain ⟨j, n, hj, rfl, rfl, rfl⟩ := hrel
    by_cases hjl : j < xs.length
    · obtain ⟨b, off, rfl, c0⟩ := int_cell h hjl
      obtain ⟨b', off', rfl, c1⟩ := int_cell h' hjl
      generalize xs[j] = x at *
      have i0 : (j : Int) < (xs.length : Int) := by omega
      go_wp2_with fail
      go_quiet (fail)
      go_wp2_with fail
      go_roundg (xs.length - (j + 1))
      case measure => omega
      case rel => exact ⟨j + 1, _, by omega, rfl, by go_num, by first | rfl | assumption⟩
    · obtain rfl : j = xs.length := by omega
      go_wp2_with fail
      go_ret
      exact ⟨rfl, n, rfl⟩
end Go.Proofs.Ytjafjhaoogimcaa
