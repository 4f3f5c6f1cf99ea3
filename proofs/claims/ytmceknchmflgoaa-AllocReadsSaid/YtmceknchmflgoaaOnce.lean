/- AllocOnce: the walk. -/
import Derived.Test.YtmceknchmflgoaaStepsIn
namespace Go.Proofs.Ytmceknchmflgoaa
open Go.RowKit

theorem takeF_cases (us : List Bool) : (takeF us = (0, 5, us) ∧ ∀ k (h : k < us.length), us[k] = true) ∨ ∃ k, ∃ h : k < us.length, us[k] = false ∧ takeF us = ((k : Int) + 1, 0, us.set k true) := by
  unfold takeF
  cases hf : us.findIdx? (fun u => !u) with
  | none =>
    refine .inl ⟨rfl, fun k h => ?_⟩
    rw [List.findIdx?_eq_none_iff] at hf
    have := hf us[k] (List.getElem_mem h)
    simpa using this
  | some k =>
    rw [List.findIdx?_eq_some_iff_getElem] at hf
    obtain ⟨h, h1, _⟩ := hf
    exact .inr ⟨k, h, by simpa using h1, rfl⟩

structure AO (w : World) (m g : Nat) (S : Nat → Prop) (us : List Bool) (mn : Nat) (wr : World) : Prop where
  mp : MapAt wr S m us
  held : Bk wr g 4 (boolsV us)
  len : us.length = mn
  ng : ¬ S g
  up : Up w.heap.size S
  ug : w.heap.size ≤ g
  fr : Fr NoB w wr

theorem AO.keep {w wr W : World} {m g : Nat} {S : Nat → Prop} {us : List Bool} {mn : Nat} (h : AO w m g S us mn wr) (hf : Fr NoB wr W) : AO w m g S us mn W :=
  ⟨h.mp.fr hf (fun _ _ h => h), h.held.fr hf (fun h => h), h.len, h.ng, h.up, h.ug, h.fr.trans hf⟩
/-- A page has turned in both. -/
theorem AO.turn {w W w2 : World} {m g : Nat} {S : Nat → Prop} {us : List Bool} {mn : Nat} (h : AO w m g S us mn W) (k : Nat) (u : Bool) (hm : MapAt w2 S m (us.set k u)) (hf : Fr S W w2) :
    AO w m g S (us.set k u) mn (w2.setCell ⟨g, k + 1, none⟩ (.bool u)) := by
  have f2 : Fr (fun j => j = g) w2 (w2.setCell ⟨g, k + 1, none⟩ (.bool u)) := Fr.setCell (S := fun j => j = g) (p := ⟨g, k + 1, none⟩) (Fr.refl _ w2) (.inl rfl) _
  refine ⟨hm.fr f2 (fun j hj e => h.ng (e ▸ hj)), bools_set (h.held.fr hf h.ng) k u, by simpa using h.len, h.ng, h.up, h.ug, (h.fr.up hf h.up).join f2 (fun j hj e => by have := h.ug; omega)⟩
theorem AO.same {w W w2 : World} {m g : Nat} {S : Nat → Prop} {us : List Bool} {mn : Nat} (h : AO w m g S us mn W) (hm : MapAt w2 S m us) (hf : Fr S W w2) : AO w m g S us mn w2 :=
  ⟨hm, h.held.fr hf h.ng, h.len, h.ng, h.up, h.ug, h.fr.up hf h.up⟩

def AOs (ss : List StepS) (w : World) (m g mn : Nat) (n : Nat) (v38 : Value) (wr : World) : Prop :=
  ∃ (k : Nat) (S : Nat → Prop) (us : List Bool), k ≤ ss.length ∧ n = ss.length - k ∧ v38 = .int .i64 k ∧ AO w m g S us mn wr

set_option maxHeartbeats 4000000 in
set_option maxRecDepth 100000 in
theorem once_any (most : Int) (A : Option Addr) (c : Nat) (ss : List StepS) (w : World) (h : StepsIn w w.heap.size A c ss) :
    Calls Try.prog 4 #[.int .i64 most, .slice A ss.length c] w (LawPost w) := by
  have hsl : ss.length ≤ 9223372036854775807 := by have := h.2.1; have := h.2.2.1; simp only [maxLen] at this; omega
  go_enter Try.func4, Try.ntmps4
  go_wp2_with fail
  refine (new_any most _).mono ?_
  rintro e w1 (⟨hm1, hm2, m, S, hm, rfl, mp1, up1, fr1⟩ | ⟨hno, rfl, fr1⟩)
  rotate_left
  · by_cases h1 : most < 1
    · clear hno
      go_wp2_with fail
      refine (speaks_any _).mono ?_
      rintro e w2 ⟨rfl, fr2⟩
      go_wp2_with fail
      go_ret
      exact ⟨rfl, fr1.trans fr2⟩
    · have h2 : 4096 < most := by omega
      clear hno
      go_wp2_with fail
      refine (speaks_any _).mono ?_
      rintro e w2 ⟨rfl, fr2⟩
      go_wp2_with fail
      go_ret
      exact ⟨rfl, fr1.trans fr2⟩
  obtain ⟨mn, rfl⟩ := Int.eq_ofNat_of_zero_le (by omega : 0 ≤ most)
  rw [Int.toNat_natCast] at mp1
  have hmk := run_mbools mn (by omega)
  go_wp2_with fail
  have f2 : Fr NoB w1 (w1.alloc (.cells (mbools (mn + 1)) 4)) := (Fr.refl _ _).alloc _
  have bg := Bk.new w1 4 (mbools (mn + 1))
  rw [mbools_eq] at bg
  have hA0 : AO w m w1.heap.size S (List.replicate mn false) mn (w1.alloc (.cells (mbools (mn + 1)) 4)) := by
    rw [mbools_eq] at f2 ⊢
    exact ⟨mp1.fr f2 (fun _ _ h => h), bg, List.length_replicate, fun hs => by have := mp1.lt _ hs; omega, up1, fr1.size, fr1.trans f2⟩
  have HN : Hid (AOs ss w m w1.heap.size mn ss.length (.int .i64 (0 : Nat)) (w1.alloc (.cells (mbools (mn + 1)) 4))) := ⟨0, S, _, Nat.zero_le _, rfl, rfl, hA0⟩
  clear hA0 bg f2 mp1 up1
  generalize w1.alloc (.cells (mbools (mn + 1)) 4) = w2 at *
  generalize w1.heap.size = g at *
  go_loopg [38] ss.length (fun n v38 wr => AOs ss w m g mn n v38 wr)
  case atStart => exact HN.out
  case round =>
    obtain ⟨k, S, us, hk, rfl, rfl, hw⟩ := hrel
    by_cases hlt : k < ss.length
    · obtain ⟨b, off, kd, ka, hsk, rfl, x0, x1⟩ := (h.fr hw.fr).step hlt
      have hW : Fr NoB wr (wr.alloc (.cells #[.int .i64 kd, .int .i64 ka] 32)) := (Fr.refl _ _).alloc _
      have HW := Lib.hid (hw.keep hW)
      have HB := Lib.hid (Bk.new wr 32 #[.int .i64 kd, .int .i64 ka])
      have hnS : ¬ S wr.heap.size := fun h => by have := hw.mp.lt _ h; omega
      have hlen := hw.len
      clear hw hsk hW
      by_cases hk2 : kd = 2
      · subst hk2
        go_wp2_with fail
        refine (free_any ka _ HW.out.mp).mono ?_
        unfold setF
        by_cases hpg : isPage us.length ka = true
        · rw [if_pos hpg]
          obtain ⟨i, rfl, hi⟩ := page_of hpg
          rw [hasU_nat hi]
          by_cases hu : us[i] = false
          · rw [if_pos hu]
            rintro e w3 ⟨rfl, mp3, fr3⟩
            have HT := Lib.hid (HW.out.same mp3 fr3)
            clear mp3 fr3
            go_wp2_with fail
            go_roundg (ss.length - (k + 1))
            case measure => omega
            case rel => exact ⟨k + 1, S, us, by omega, rfl, by go_num, HT.out⟩
          · rw [if_neg hu]
            rintro e w3 ⟨rfl, mp3, fr3⟩
            rw [show ((i : Int) + 1 - 1).toNat = i by omega] at mp3
            have b3 := HB.out.fr fr3 hnS
            have y1 : w3.cell? ⟨wr.heap.size, 1, none⟩ = some (.int .i64 ((i : Int) + 1)) := b3.cell 1
            have hh := HW.out.held.fr fr3 HW.out.ng
            have y2 := bools_cell hh hi
            have y3 := hh.frozen (i + 1)
            have hut : us[i] = true := by simpa using hu
            rw [hut] at y2
            have HT := Lib.hid (HW.out.turn i false mp3 fr3)
            have i0 : (0 : Int) ≤ (i : Int) + 1 := by omega
            have i1 : (i : Int) + 1 < (mn : Int) + 1 := by omega
            have i2 : (1 : Int) ≤ (i : Int) + 1 := by omega
            have i3 : (i : Int) + 1 ≤ (mn : Int) := by omega
            clear hh mp3 fr3 b3 hu hut
            go_wp2_with fail
            go_roundg (ss.length - (k + 1))
            case measure => omega
            case rel => exact ⟨k + 1, S, _, by omega, rfl, by go_num, HT.out⟩
        · rw [if_neg hpg]
          rintro e w3 ⟨rfl, mp3, fr3⟩
          have HT := Lib.hid (HW.out.same mp3 fr3)
          clear mp3 fr3
          go_wp2_with fail
          go_roundg (ss.length - (k + 1))
          case measure => omega
          case rel => exact ⟨k + 1, S, us, by omega, rfl, by go_num, HT.out⟩
      · have hk2' : (kd == 2) = false := by simp [hk2]
        go_wp2_with fail
        refine (take_any _ HW.out.mp).mono ?_
        rcases takeF_cases us with ⟨hF, hall⟩ | ⟨i, hi, hfree, hF⟩
        · rw [hF]
          rintro e w3 ⟨rfl, mp3, fr3⟩
          have HT := Lib.hid (HW.out.same mp3 fr3)
          clear mp3 fr3
          go_wp2_with fail
          go_loopg [12] mn (fun n v12 wr' => ∃ j : Nat, j ≤ mn ∧ n = mn - j ∧ v12 = .int .i64 ((j : Int) + 1) ∧ wr' = w3)
          case atStart => exact ⟨0, Nat.zero_le _, rfl, rfl, rfl⟩
          case round =>
            obtain ⟨j, hj, rfl, rfl, rfl⟩ := hrel
            by_cases hjm : j < mn
            · have y2 := bools_cell HT.out.held (k := j) (by omega)
              rw [hall j (by omega)] at y2
              have i0 : (0 : Int) ≤ (j : Int) + 1 := by omega
              have i1 : (j : Int) + 1 < (mn : Int) + 1 := by omega
              have i3 : (j : Int) + 1 ≤ (mn : Int) := by omega
              go_wp2_with fail
              go_roundg (mn - (j + 1))
              case measure => omega
              case rel => exact ⟨j + 1, by omega, rfl, by go_num, rfl⟩
            · obtain rfl : j = mn := by omega
              have i3 : ¬ ((j : Int) + 1 ≤ (j : Int)) := by omega
              go_wp2_with fail
              go_roundg (ss.length - (k + 1))
              case measure => omega
              case rel => exact ⟨k + 1, S, us, by omega, rfl, by go_num, HT.out⟩
        · rw [hF]
          rintro e w3 ⟨rfl, mp3, fr3⟩
          have hh := HW.out.held.fr fr3 HW.out.ng
          have y2 := bools_cell hh hi
          have y3 := hh.frozen (i + 1)
          rw [hfree] at y2
          have HT := Lib.hid (HW.out.turn i true mp3 fr3)
          have i0 : (0 : Int) ≤ (i : Int) + 1 := by omega
          have i1 : (i : Int) + 1 < (mn : Int) + 1 := by omega
          have i2 : (1 : Int) ≤ (i : Int) + 1 := by omega
          have i3 : (i : Int) + 1 ≤ (mn : Int) := by omega
          clear hh mp3 fr3 hF hfree
          go_wp2_with fail
          go_roundg (ss.length - (k + 1))
          case measure => omega
          case rel => exact ⟨k + 1, S, _, by omega, rfl, by go_num, HT.out⟩
    · obtain rfl : k = ss.length := by omega
      go_wp2_with fail
      refine (speaks_any wr).mono ?_
      rintro e w9 ⟨rfl, fr9⟩
      go_wp2_with fail
      go_ret
      exact ⟨rfl, hw.fr.trans fr9⟩
end Go.Proofs.Ytmceknchmflgoaa
