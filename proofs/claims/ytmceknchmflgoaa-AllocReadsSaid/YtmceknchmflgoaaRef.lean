/- The document's map: contracts of New, Has, Set, Take, Count. -/
import Derived.Test.YtmceknchmflgoaaOnce
namespace Go.Proofs.Ytmceknchmflgoaa
open Go.RowKit

structure RefAt (w : World) (T : Nat → Prop) (p : Nat) (us : List Bool) : Prop where
  ex : ∃ g, Bk w p 51 #[.slice (some ⟨g, 0, none⟩) (us.length + 1) (us.length + 1)] ∧ Bk w g 4 (boolsV us) ∧ T g
  own : T p
  lt : ∀ k, T k → k < w.heap.size
  pos : 0 < us.length
  few : us.length ≤ 4096

theorem RefAt.fr {T V : Nat → Prop} {w w1 : World} {p : Nat} {us : List Bool} (h : RefAt w T p us) (hf : Fr V w w1) (hn : ∀ k, T k → ¬ V k) : RefAt w1 T p us := by
  obtain ⟨⟨g, hb, hg, hT⟩, ho, hlt, hp, hw⟩ := h
  refine ⟨⟨g, hb.fr hf (hn p ho), hg.fr hf (hn g hT), hT⟩, ho, fun k hk => ?_, hp, hw⟩
  have := hlt k hk
  have := hf.size
  omega

def RefNewPost (most : Int) (w : World) (e : Ending) (w' : World) : Prop :=
  (1 ≤ most ∧ most ≤ 4096 ∧ ∃ p T, w.heap.size ≤ p ∧ e = .returned (.tuple #[.pointer (some ⟨p, 0, none⟩), .int .i64 0]) ∧ RefAt w' T p (List.replicate most.toNat false) ∧ Up w.heap.size T ∧ Fr NoB w w') ∨
  (¬ (1 ≤ most ∧ most ≤ 4096) ∧ e = .returned (.tuple #[.pointer none, .int .i64 1]) ∧ Fr NoB w w')

theorem refNew_any (most : Int) (w : World) : Calls Try.prog 8 #[.int .i64 most] w (RefNewPost most w) := by
  by_cases h1 : most < 1
  · go_enter Try.func8, Try.ntmps8
    go_wp2
    go_ret2
    exact .inr ⟨by omega, rfl, Fr.refl _ _⟩
  by_cases h2 : 4096 < most
  · go_enter Try.func8, Try.ntmps8
    go_wp2
    go_ret2
    exact .inr ⟨by omega, rfl, Fr.refl _ _⟩
  obtain ⟨k, rfl⟩ := Int.eq_ofNat_of_zero_le (by omega : 0 ≤ most)
  have hmk := run_mbools k (by omega)
  have hp : RefAt ((w.alloc (.cells (mbools (k + 1)) 4)).alloc (.cells #[.slice (some ⟨w.heap.size, 0, none⟩) (k + 1) (k + 1)] 51)) (fun j => w.heap.size ≤ j ∧ j ≤ w.heap.size + 1) (w.heap.size + 1) (List.replicate k false) := by
    have b1 := Bk.new w 4 (mbools (k + 1))
    have e1 : (w.alloc (.cells (mbools (k + 1)) 4)).heap.size = w.heap.size + 1 := by simp
    have b2 := Bk.new (w.alloc (.cells (mbools (k + 1)) 4)) 51 #[.slice (some ⟨w.heap.size, 0, none⟩) (k + 1) (k + 1)]
    rw [e1] at b2
    have fB : Fr NoB (w.alloc (.cells (mbools (k + 1)) 4)) ((w.alloc (.cells (mbools (k + 1)) 4)).alloc (.cells #[.slice (some ⟨w.heap.size, 0, none⟩) (k + 1) (k + 1)] 51)) := (Fr.refl _ _).alloc _
    refine ⟨⟨w.heap.size, by rw [List.length_replicate]; exact b2, ?_, by omega⟩, by omega, fun j hj => by simp; omega, by rw [List.length_replicate]; omega, by rw [List.length_replicate]; omega⟩
    rw [← mbools_eq]
    exact b1.fr fB (fun h => h)
  have HP := Lib.hid hp
  clear hp
  go_enter Try.func8, Try.ntmps8
  go_wp2_with fail
  go_ret2
  exact .inl ⟨by omega, by omega, w.heap.size + 1, _, by omega, rfl, HP.out, fun k hk => hk.1, ((Fr.refl NoB w).alloc _).alloc _⟩

theorem refHas_any {T : Nat → Prop} {p : Nat} {us : List Bool} (i : Int) (w : World) (h : RefAt w T p us) :
    Calls Try.prog 16 #[.pointer (some ⟨p, 0, none⟩), .int .i64 i] w fun e w' => e = .returned (.bool (hasU us i)) ∧ w = w' := by
  obtain ⟨⟨g, hb, hg, _⟩, _, _, hp, hw⟩ := h
  have c0 : w.cell? ⟨p, 0, none⟩ = some (.slice (some ⟨g, 0, none⟩) (us.length + 1) (us.length + 1)) := hb.cell 0
  clear hb
  by_cases hi : isPage us.length i = true
  · obtain ⟨k, rfl, hk⟩ := page_of hi
    rw [hasU_nat hk]
    have c1 := bools_cell hg hk
    have d0 : decide ((1 : Int) ≤ (k : Int) + 1) = true := decide_eq_true (by omega)
    have d1 : decide ((k : Int) + 1 < (us.length : Int) + 1) = true := decide_eq_true (by omega)
    have i0 : (0 : Int) ≤ (k : Int) + 1 := by omega
    have i1 : (k : Int) + 1 < (us.length : Int) + 1 := by omega
    generalize us[k] = u at *
    clear hg hi
    go_enter Try.func16, Try.ntmps16
    go_wp2_with fail
    go_ret
    exact ⟨rfl, rfl⟩
  · have e : hasU us i = false := by simp [hasU, hi]
    rw [e]
    have hi' := of_decide_eq_false (by simpa using hi : isPage us.length i = false)
    clear hg hi
    by_cases h1 : 1 ≤ i
    · have d1 : decide (i < (us.length : Int) + 1) = false := decide_eq_false (by omega)
      go_enter Try.func16, Try.ntmps16
      go_wp2_with fail
      go_ret
      exact ⟨rfl, rfl⟩
    · have d1 : decide (1 ≤ i) = false := decide_eq_false h1
      go_enter Try.func16, Try.ntmps16
      go_wp2_with fail
      go_ret
      exact ⟨rfl, rfl⟩

def RefSetPost (T : Nat → Prop) (p : Nat) (r : Int × List Bool) (w : World) (e : Ending) (w' : World) : Prop := e = .returned (.int .i64 r.1) ∧ RefAt w' T p r.2 ∧ Fr T w w'

theorem RefAt.turn {T : Nat → Prop} {w : World} {p g : Nat} {us : List Bool} (hb : Bk w p 51 #[.slice (some ⟨g, 0, none⟩) (us.length + 1) (us.length + 1)]) (hg : Bk w g 4 (boolsV us)) (hT : T g) (ho : T p) (hlt : ∀ k, T k → k < w.heap.size) (hp : 0 < us.length) (hw : us.length ≤ 4096) (k : Nat) (u : Bool) :
    RefAt (w.setCell ⟨g, k + 1, none⟩ (.bool u)) T p (us.set k u) ∧ Fr T w (w.setCell ⟨g, k + 1, none⟩ (.bool u)) := by
  have f2 : Fr (fun j => j = g) w (w.setCell ⟨g, k + 1, none⟩ (.bool u)) := Fr.setCell (S := fun j => j = g) (p := ⟨g, k + 1, none⟩) (Fr.refl _ w) (.inl rfl) _
  have npg : p ≠ g := hb.types hg (by decide)
  refine ⟨⟨⟨g, by rw [List.length_set]; exact hb.fr f2 npg, bools_set hg k u, hT⟩, ho, fun j hj => by have := hlt j hj; simpa using this, by simpa using hp, by simpa using hw⟩, f2.mono (fun j _ e => by subst e; exact hT)⟩

theorem refSet_any {T : Nat → Prop} {p : Nat} {us : List Bool} (i : Int) (used : Bool) (w : World) (h : RefAt w T p us) :
    Calls Try.prog 13 #[.pointer (some ⟨p, 0, none⟩), .int .i64 i, .bool used] w (RefSetPost T p (setF us i used) w) := by
  have H := Lib.hid h
  obtain ⟨⟨g, hb, hg, hT⟩, ho, hlt, hp, hw⟩ := h
  have c0 : w.cell? ⟨p, 0, none⟩ = some (.slice (some ⟨g, 0, none⟩) (us.length + 1) (us.length + 1)) := hb.cell 0
  have HB := Lib.hid hb
  have HG := Lib.hid hg
  clear hb hg
  unfold setF
  by_cases hi : isPage us.length i = true
  · rw [if_pos hi]
    obtain ⟨k, rfl, hk⟩ := page_of hi
    rw [hasU_nat hk]
    have c1 := bools_cell HG.out hk
    have c2 := HG.out.frozen (k + 1)
    have d0 : decide ((k : Int) + 1 < 1) = false := decide_eq_false (by omega)
    have d1 : decide ((us.length : Int) + 1 ≤ (k : Int) + 1) = false := decide_eq_false (by omega)
    have i0 : (0 : Int) ≤ (k : Int) + 1 := by omega
    have i1 : (k : Int) + 1 < (us.length : Int) + 1 := by omega
    have i2 : (1 : Int) ≤ (k : Int) + 1 := by omega
    by_cases hu : us[k] = used
    · rw [if_pos hu]
      subst hu
      generalize us[k] = u at *
      go_enter Try.func13, Try.ntmps13
      go_wp2_with fail
      go_ret
      exact ⟨rfl, H.out, Fr.refl _ _⟩
    · rw [if_neg hu, show ((k : Int) + 1 - 1).toNat = k by omega]
      have hbu : (us[k] == used) = false := by simpa using hu
      obtain ⟨t1, t2⟩ := RefAt.turn HB.out HG.out hT ho hlt hp hw k used
      have HT1 := Lib.hid t1
      have HT2 := Lib.hid t2
      generalize us[k] = u at *
      clear hu t1 t2
      go_enter Try.func13, Try.ntmps13
      go_wp2_with fail
      go_ret
      exact ⟨rfl, HT1.out, HT2.out⟩
  · rw [if_neg hi]
    have hi' := of_decide_eq_false (by simpa using hi : isPage us.length i = false)
    clear hi
    by_cases h1 : i < 1
    · go_enter Try.func13, Try.ntmps13
      go_wp2_with fail
      go_ret
      exact ⟨rfl, H.out, Fr.refl _ _⟩
    · have d1 : decide ((us.length : Int) + 1 ≤ i) = true := decide_eq_true (by omega)
      have d2 : decide (i < 1) = false := decide_eq_false h1
      go_enter Try.func13, Try.ntmps13
      go_wp2_with fail
      go_ret
      exact ⟨rfl, H.out, Fr.refl _ _⟩

def RefTakePost (T : Nat → Prop) (p : Nat) (r : Int × Int × List Bool) (w : World) (e : Ending) (w' : World) : Prop :=
  e = .returned (.tuple #[.int .i64 r.1, .int .i64 r.2.1]) ∧ RefAt w' T p r.2.2 ∧ Fr T w w'

theorem refTake_any {T : Nat → Prop} {p : Nat} {us : List Bool} (w : World) (h : RefAt w T p us) :
    Calls Try.prog 11 #[.pointer (some ⟨p, 0, none⟩)] w (RefTakePost T p (takeF us) w) := by
  have H := Lib.hid h
  obtain ⟨⟨g, hb, hg, hT⟩, ho, hlt, hp, hw⟩ := h
  have c0 : w.cell? ⟨p, 0, none⟩ = some (.slice (some ⟨g, 0, none⟩) (us.length + 1) (us.length + 1)) := hb.cell 0
  have HB := Lib.hid hb
  have HG := Lib.hid hg
  clear hb hg
  go_enter Try.func11, Try.ntmps11
  go_wp2_with fail
  go_loopg [4] us.length (fun n v4 wr => ∃ j : Nat, j ≤ us.length ∧ n = us.length - j ∧ v4 = .int .i64 ((j : Int) + 1) ∧ wr = w ∧ ∀ i, i < j → us[i]?.getD false = true)
  case atStart => exact ⟨0, Nat.zero_le _, rfl, rfl, rfl, fun i hi => by omega⟩
  case round =>
    obtain ⟨j, hj, rfl, rfl, rfl, hbef⟩ := hrel
    by_cases hjl : j < us.length
    · have c1 := bools_cell HG.out hjl
      have c2 := HG.out.frozen (j + 1)
      have d1 : (j : Int) + 1 < (us.length : Int) + 1 := by omega
      have i0 : (0 : Int) ≤ (j : Int) + 1 := by omega
      cases hu : us[j] with
      | true =>
        rw [hu] at c1
        have HN : Hid (∀ i, i < j + 1 → us[i]?.getD false = true) := fun i hi => by
          by_cases hij : i < j
          · exact hbef i hij
          · obtain rfl : i = j := by omega
            rw [List.getElem?_eq_getElem hjl, hu]
            rfl
        clear hbef hu
        go_wp2_with fail
        go_roundg (us.length - (j + 1))
        case measure => omega
        case rel => exact ⟨j + 1, by omega, rfl, by go_num, rfl, HN⟩
      | false =>
        rw [hu] at c1
        have htk := takeF_some hjl hu hbef
        have HTK := Lib.hid htk
        obtain ⟨t1, t2⟩ := RefAt.turn HB.out HG.out hT ho hlt hp hw j true
        have HT1 := Lib.hid t1
        have HT2 := Lib.hid t2
        clear htk hu hbef t1 t2
        go_wp2_with fail
        go_ret2
        rw [RefTakePost, HTK.out]
        exact ⟨rfl, HT1.out, HT2.out⟩
    · obtain rfl : j = us.length := by omega
      have hnone := takeF_none (us := us) hbef
      have HT := Lib.hid hnone
      have d1 : ¬ ((us.length : Int) + 1 < (us.length : Int) + 1) := by omega
      clear hnone hbef
      go_wp2_with fail
      go_ret2
      rw [RefTakePost, HT.out]
      exact ⟨rfl, H.out, Fr.refl _ _⟩
end Go.Proofs.Ytmceknchmflgoaa
