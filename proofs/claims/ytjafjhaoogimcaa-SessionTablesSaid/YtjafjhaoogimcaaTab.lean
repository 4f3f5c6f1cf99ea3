/- A table of requests in memory; contracts of New, State, Wait, Waiting. -/
import Derived.Test.YtjafjhaoogimcaaSort
import Derived.Deep.LoopGhost
import Derived.Carry
namespace Go.Proofs.Ytjafjhaoogimcaa
open Go.RowKit

def Gr (S S' : Nat → Prop) (w : World) : Prop := ∀ k, S' k → S k ∨ w.heap.size ≤ k
def Up (B : Nat) (S : Nat → Prop) : Prop := ∀ k, S k → B ≤ k
theorem Fr.up {S : Nat → Prop} {w w1 w2 : World} (h : Fr NoB w w1) (k : Fr S w1 w2) (hu : Up w.heap.size S) : Fr NoB w w2 :=
  h.join k fun j hj hs => by have := hu j hs; omega

abbrev MI (w : World) (b : Nat) (q : List (Int × Int)) : Prop := MapIs Try.prog 3 (plainElem Try.prog 3) (fun x => .lit (kl x)) w b q
def qd (dn : List Int) : List (Int × Int) := dn.map fun x => (x, 1)
theorem elemI : ElemK (plainElem Try.prog 3) (Value.int .i64) (fun x => .lit (kl x)) okI := elem_int Try.underlying3
theorem zero3 (w : World) : (zeroValue 3).run Try.prog w = .ok (.int .i64 0) w := by kernel_rfl
theorem okI_zero : okI 0 := by unfold okI; omega

def ltp (p p' : Int × Int) : Prop := p.2 < p'.2 ∨ (p.2 = p'.2 ∧ p.1 < p'.1)
instance (p p' : Int × Int) : Decidable (ltp p p') := by unfold ltp; infer_instance

/-- What holds of every table. -/
structure Good (q : List (Int × Int)) (dn : List Int) : Prop where
  rq : ∀ p ∈ q, 1 ≤ p.1 ∧ p.1 ≤ 1099511627776 ∧ 1 ≤ p.2 ∧ p.2 ≤ 1099511627776
  rd : ∀ x ∈ dn, 1 ≤ x ∧ x ≤ 1099511627776
  dis : ∀ p ∈ q, p.1 ∉ dn
  srt : q.Pairwise ltp
  nd : (q.map (·.1)).Nodup
  few : q.length ≤ 1024
theorem Good.empty : Good [] [] := ⟨fun _ h => by simp at h, fun _ h => by simp at h, fun _ h => by simp at h, List.Pairwise.nil, List.nodup_nil, by simp⟩

structure TabAt (w : World) (S : Nat → Prop) (t : Nat) (q : List (Int × Int)) (dn : List Int) : Prop where
  ex : ∃ bw bd, Bk w t 60 #[.map (some bw), .map (some bd)] ∧ MI w bw q ∧ MI w bd (qd dn) ∧ S bw ∧ S bd ∧ bw ≠ bd
  own : S t
  lt : ∀ k, S k → k < w.heap.size
  good : Good q dn

theorem TabAt.fr {S T : Nat → Prop} {w w1 : World} {t : Nat} {q : List (Int × Int)} {dn : List Int} (h : TabAt w S t q dn) (hf : Fr T w w1) (hn : ∀ k, S k → ¬ T k) : TabAt w1 S t q dn := by
  obtain ⟨⟨bw, bd, hb, hw, hd, h1, h2, h3⟩, ho, hlt, hg⟩ := h
  refine ⟨⟨bw, bd, hb.fr hf (hn t ho), hw.fr hf (hn bw h1), hd.fr hf (hn bd h2), h1, h2, h3⟩, ho, fun k hk => ?_, hg⟩
  have := hlt k hk
  have := hf.size
  omega

theorem map_ne_bk {w : World} {b t : Nat} {T : TypeId} {q : List (Int × Int)} {cs : Array Value} (h : MI w b q) (hb : Bk w t T cs) : b ≠ t := by
  rintro rfl
  obtain ⟨⟨D, ⟨es, clock, h1, _⟩, _⟩, _⟩ := h
  unfold Bk at hb
  rw [h1] at hb
  cases hb

def stateF (q : List (Int × Int)) (dn : List Int) (x : Int) : Int := if x ∈ dn then 2 else if x ∈ q.map (·.1) then 1 else 0
theorem val_qd_mem {dn : List Int} {x : Int} (h : x ∈ dn) : val (qd dn) 0 x = 1 := by
  unfold val qd
  rw [List.find?_map]
  cases hf : dn.find? ((fun p : Int × Int => p.1 == x) ∘ fun x => (x, 1)) with
  | none =>
    rw [List.find?_eq_none] at hf
    have := hf x h
    simp at this
  | some y => rfl
theorem val_qd_not {dn : List Int} {x : Int} (h : x ∉ dn) : val (qd dn) 0 x = 0 := val_not (mem_key.2 (by simpa [qd] using h))

def NewPost (w : World) (e : Ending) (w' : World) : Prop := ∃ t S, w.heap.size ≤ t ∧ e = .returned (.pointer (some ⟨t, 0, none⟩)) ∧ TabAt w' S t [] [] ∧ Up w.heap.size S ∧ Fr NoB w w'

theorem new_any (w : World) : Calls Try.prog 8 #[] w (NewPost w) := by
  have hmm := @run_makeMap Try.prog
  have hp : NewPost w (.returned (.pointer (some ⟨w.heap.size + 1 + 1, 0, none⟩))) (((w.alloc (.map #[] 0)).alloc (.map #[] 0)).alloc (.cells #[.map (some w.heap.size), .map (some (w.heap.size + 1))] 60)) := by
    have e1 : (w.alloc (.map #[] 0)).heap.size = w.heap.size + 1 := by simp
    have e2 : ((w.alloc (.map #[] 0)).alloc (.map #[] 0)).heap.size = w.heap.size + 1 + 1 := by simp
    have m1 : MI (w.alloc (.map #[] 0)) w.heap.size [] := MapIs.made w Try.prog 3 _ _
    have m2 : MI ((w.alloc (.map #[] 0)).alloc (.map #[] 0)) (w.heap.size + 1) [] := by
      have := MapIs.made (β := Int) (w.alloc (.map #[] 0)) Try.prog 3 (plainElem Try.prog 3) (fun x => .lit (kl x))
      rwa [e1] at this
    have f2 : Fr NoB (w.alloc (.map #[] 0)) ((w.alloc (.map #[] 0)).alloc (.map #[] 0)) := (Fr.refl _ _).alloc _
    have f3 : Fr NoB ((w.alloc (.map #[] 0)).alloc (.map #[] 0)) (((w.alloc (.map #[] 0)).alloc (.map #[] 0)).alloc (.cells #[.map (some w.heap.size), .map (some (w.heap.size + 1))] 60)) := (Fr.refl _ _).alloc _
    have b3 := Bk.new ((w.alloc (.map #[] 0)).alloc (.map #[] 0)) 60 #[.map (some w.heap.size), .map (some (w.heap.size + 1))]
    rw [e2] at b3
    exact ⟨w.heap.size + 1 + 1, fun k => w.heap.size ≤ k ∧ k < w.heap.size + 3, by omega, rfl,
      ⟨⟨w.heap.size, w.heap.size + 1, b3, m1.fr (f2.trans f3) (fun h => h), m2.fr f3 (fun h => h), by omega, by omega, by omega⟩, by omega, fun k hk => by simp; omega, Good.empty⟩,
      fun k hk => hk.1, (((Fr.refl NoB w).alloc _).alloc _).alloc _⟩
  have HP := Lib.hid hp
  clear hp
  go_enter Try.func8, Try.ntmps8
  go_wp2_with fail
  go_ret
  exact HP.out

theorem state_any {S : Nat → Prop} {t : Nat} {q : List (Int × Int)} {dn : List Int} (x : Int) (w : World) (h : TabAt w S t q dn) (hx : okI x) :
    Calls Try.prog 12 #[.pointer (some ⟨t, 0, none⟩), .int .i64 x] w fun e w' => e = .returned (.int .i64 (stateF q dn x)) ∧ w = w' := by
  obtain ⟨⟨bw, bd, hb, hw, hd, _⟩, _, _, hg⟩ := h
  have c0 : w.cell? ⟨t, 0, none⟩ = some (.map (some bw)) := hb.cell 0
  have c1 : w.cell? ⟨t, 1, none⟩ = some (.map (some bd)) := hb.cell 1
  have l1 := hd.run_look elemI Try.underlying3 Try.underlying58 0 okI_zero (zero3 w) hx
  have l2 := hw.run_look elemI Try.underlying3 Try.underlying58 0 okI_zero (zero3 w) hx
  unfold stateF
  by_cases h1 : x ∈ dn
  · rw [if_pos h1]
    rw [val_qd_mem h1] at l1
    clear hb hw hd hg h1 l2
    go_enter Try.func12, Try.ntmps12
    go_wp2_with fail
    go_ret
    exact ⟨rfl, rfl⟩
  · rw [if_neg h1]
    rw [val_qd_not h1] at l1
    by_cases h2 : x ∈ q.map (·.1)
    · rw [if_pos h2]
      obtain ⟨p, hp, rfl⟩ := List.mem_map.1 h2
      rw [val_mem hg.nd hp] at l2
      have hpos := (hg.rq p hp).2.2.1
      have hd0 : decide (0 < p.2) = true := decide_eq_true (by omega)
      obtain ⟨px, py⟩ := p
      simp only [] at *
      clear hb hw hd hg h1 h2 hp
      go_enter Try.func12, Try.ntmps12
      go_wp2_with fail
      go_ret
      exact ⟨rfl, rfl⟩
    · rw [if_neg h2]
      rw [val_not (mem_key.2 h2)] at l2
      clear hb hw hd hg h1 h2
      go_enter Try.func12, Try.ntmps12
      go_wp2_with fail
      go_ret
      exact ⟨rfl, rfl⟩
theorem state_nil (x : Int) (w : World) : Calls Try.prog 12 #[.pointer none, .int .i64 x] w fun e w' => e = .returned (.int .i64 0) ∧ w = w' := by
  go_enter Try.func12, Try.ntmps12
  go_wp2_with fail
  go_ret
  exact ⟨rfl, rfl⟩

theorem waiting_any {S : Nat → Prop} {t : Nat} {q : List (Int × Int)} {dn : List Int} (w : World) (h : TabAt w S t q dn) :
    Calls Try.prog 19 #[.pointer (some ⟨t, 0, none⟩)] w fun e w' => e = .returned (.int .i64 q.length) ∧ w = w' := by
  obtain ⟨⟨bw, bd, hb, hw, hd, _⟩, _, _, hg⟩ := h
  have c0 : w.cell? ⟨t, 0, none⟩ = some (.map (some bw)) := hb.cell 0
  have hl := hw.run_len Try.underlying58
  clear hb hw hd hg
  go_enter Try.func19, Try.ntmps19
  go_wp2_with fail
  go_ret
  exact ⟨rfl, rfl⟩
theorem waiting_nil (w : World) : Calls Try.prog 19 #[.pointer none] w fun e w' => e = .returned (.int .i64 0) ∧ w = w' := by
  go_enter Try.func19, Try.ntmps19
  go_wp2_with fail
  go_ret
  exact ⟨rfl, rfl⟩
end Go.Proofs.Ytjafjhaoogimcaa
