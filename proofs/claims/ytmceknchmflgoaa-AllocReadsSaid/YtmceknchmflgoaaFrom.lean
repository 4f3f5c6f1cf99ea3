/- alloc.From: the map that bytes say. -/
import Derived.Test.YtmceknchmflgoaaSpeaks
namespace Go.Proofs.Ytmceknchmflgoaa
open Go.RowKit

/-- The pages that bytes say. -/
def usOf (m : Nat) (b : List UInt8) : List Bool := (List.range m).map (bitAt b)
theorem usOf_len (m : Nat) (b : List UInt8) : (usOf m b).length = m := by simp [usOf]
theorem usOf_get {m : Nat} {b : List UInt8} {k : Nat} (h : k < m) : (usOf m b)[k]? = some (bitAt b k) := by simp [usOf, h]

theorem div_bits : ∀ x : Fin 256, ∀ r : Fin 8, (x.val / 2 ^ r.val = 0) ↔ ∀ j : Fin 8, r.val ≤ j.val → x.val.testBit j.val = false := by decide +kernel
theorem bits_usOf {m : Nat} {b : List UInt8} (hm : 1 ≤ m) : Bits b (usOf m b) ↔ b.length = (m + 7) / 8 ∧ (m % 8 = 0 ∨ (b[b.length - 1]?.getD 0).toNat / 2 ^ (m % 8) = 0) := by
  constructor
  · rintro ⟨h1, h2⟩
    rw [usOf_len] at h1
    refine ⟨h1, ?_⟩
    by_cases h8 : m % 8 = 0
    · exact .inl h8
    · refine .inr ((div_bits ⟨_, UInt8.toNat_lt (b[b.length - 1]?.getD 0)⟩ ⟨m % 8, Nat.mod_lt _ (by omega)⟩).2 fun j hj => ?_)
      simp only [] at hj ⊢
      have := h2 (8 * (b.length - 1) + j.val) (by omega)
      rw [List.getElem?_eq_none (by rw [usOf_len]; omega)] at this
      unfold bitAt at this
      rwa [show (8 * (b.length - 1) + j.val) / 8 = b.length - 1 by omega, show (8 * (b.length - 1) + j.val) % 8 = j.val by omega] at this
  · rintro ⟨h1, h2⟩
    refine ⟨by rw [usOf_len]; exact h1, fun k hk => ?_⟩
    by_cases hkm : k < m
    · rw [usOf_get hkm]; rfl
    · rw [List.getElem?_eq_none (by rw [usOf_len]; omega)]
      rcases h2 with h2 | h2
      · omega
      · have := (div_bits ⟨_, UInt8.toNat_lt (b[b.length - 1]?.getD 0)⟩ ⟨m % 8, Nat.mod_lt _ (by omega)⟩).1 h2 ⟨k % 8, Nat.mod_lt _ (by omega)⟩ (by simp only []; omega)
        unfold bitAt
        rw [show k / 8 = b.length - 1 by omega]
        exact this

/-- What From does: F says what a map is. -/
def FromPost (F : World → (Nat → Prop) → Nat → List Bool → Prop) (most : Int) (b : List UInt8) (w : World) (e : Ending) (w' : World) : Prop :=
  (¬ (1 ≤ most ∧ most ≤ 4096) ∧ e = .returned (.tuple #[.pointer none, .int .i64 1]) ∧ Fr NoB w w') ∨
  ∃ m : Nat, most = m ∧ 1 ≤ m ∧ m ≤ 4096 ∧
    ((¬ Bits b (usOf m b) ∧ e = .returned (.tuple #[.pointer none, .int .i64 4]) ∧ Fr NoB w w') ∨
     (Bits b (usOf m b) ∧ ∃ p S, w.heap.size ≤ p ∧ e = .returned (.tuple #[.pointer (some ⟨p, 0, none⟩), .int .i64 0]) ∧ F w' S p (usOf m b) ∧ Up w.heap.size S ∧ Fr NoB w w'))

theorem Bk.setAll {w : World} {g : Nat} {t : TypeId} {cs : Array Value} (h : Bk w g t cs) (vs : List Value) (hv : vs.length = cs.size) : Bk (w.setCells g 0 vs) g t vs.toArray := by
  obtain ⟨cs', h1, h2⟩ := h.setCells (b := g) vs 0
  have hr := World.rangeAt_setCells_same w g 0 vs (h.there (by omega))
  have : cs' = vs.toArray := by
    apply Array.ext
    · simp; omega
    · intro i hi hi2
      have hiv : i < vs.length := by simpa using hi2
      have e1 := hr i _ (List.getElem?_eq_getElem hiv)
      rw [Nat.zero_add, h1.cell, Array.getElem?_eq_getElem hi] at e1
      simpa using e1
  rw [← this]
  exact h1

theorem bit_x (x r : Nat) : ((x : Int) / 2 ^ r != 0) = !decide (x / 2 ^ r = 0) := by
  have h : (x : Int) / 2 ^ r = ((x / 2 ^ r : Nat) : Int) := by simp
  rw [h]
  by_cases h0 : x / 2 ^ r = 0
  · simp [h0]
  · have : ((x / 2 ^ r : Nat) : Int) ≠ 0 := by omega
    rw [decide_eq_false h0]
    simpa using this

set_option maxHeartbeats 1000000 in
theorem from_any (most : Int) (A : Option Addr) (c : Nat) (b : List UInt8) (w : World) (h : Rd w (fun k => k < w.heap.size) 1 A b.length c (bv b)) :
    Calls Try.prog 21 #[.int .i64 most, .slice A b.length c] w (FromPost MapAt most b w) := by
  have hbl : b.length ≤ 9223372036854775807 := by have := h.2.1; have := h.2.2.1; simp only [maxLen] at this; omega
  go_enter Try.func21, Try.ntmps21
  go_wp2_with fail
  refine (new_any most _).mono ?_
  rintro e w1 (⟨hm1, hm2, m, S, hm, rfl, mp1, up1, fr1⟩ | ⟨hno, rfl, fr1⟩)
  rotate_left
  · go_wp2_with fail
    go_ret2
    exact .inl ⟨hno, rfl, fr1⟩
  obtain ⟨mn, rfl⟩ := Int.eq_ofNat_of_zero_le (by omega : 0 ≤ most)
  rw [Int.toNat_natCast] at mp1
  have hiff := bits_usOf (m := mn) (b := b) (by omega)
  obtain ⟨⟨g, bs, hb, hg, hbits, hSg⟩, ho, hlt', hp, hw⟩ := mp1
  have c1 : w1.cell? ⟨m, 1, none⟩ = some (.slice (some ⟨g, 0, none⟩) bs.length bs.length) := hb.cell 1
  have hbsl : bs.length = (mn + 7) / 8 := by have := hbits.1; rwa [List.length_replicate] at this
  have hrd : Rd w1 (fun k => k < w.heap.size) 1 A b.length c (bv b) := h.fr fr1 (fun _ _ _ h => h)
  by_cases hl : b.length = (mn + 7) / 8
  rotate_left
  · have hlb : ((b.length : Int) != (bs.length : Int)) = true := by simp; omega
    have HI : Hid (¬ Bits b (usOf mn b)) := Lib.hid (fun hh => hl (hiff.1 hh).1)
    clear hiff hl hbsl hbits hb hg
    go_wp2_with fail
    go_ret2
    exact .inr ⟨mn, rfl, by omega, by omega, .inl ⟨HI.out, rfl, fr1⟩⟩
  have hlb : ((b.length : Int) != (bs.length : Int)) = false := by simp; omega
  have hW1 : IntKind.i64.wrap (mn : Int) = mn := by rw [IntKind.wrap_i64]; omega
  have hq1 : (mn : Int).tmod 8 = (mn % 8 : Nat) := (Int.ofNat_tmod mn 8).symm
  have hw2 : IntKind.i64.wrap ((mn : Int) % 8) = (mn : Int) % 8 := by rw [IntKind.wrap_i64]; omega
  have hto2 : ((mn : Int) % 8).toNat = mn % 8 := by omega
  obtain ⟨b0, off, u, rfl, hgS, hgl, hu, hcu⟩ := hrd.cell_at (k := b.length - 1) (by omega) 0 (by omega)
  simp only [Nat.mul_one, Nat.add_zero] at hu hcu
  have hux : u = .int .u8 ((b[b.length - 1]?.getD 0).toNat : Int) := by
    rw [List.getElem?_eq_getElem (show b.length - 1 < b.length by omega)]
    simp only [bv, List.getElem?_map, List.getElem?_eq_getElem (show b.length - 1 < b.length by omega), Option.map_some, Option.some.injEq] at hu
    exact hu.symm
  subst hux
  have hxl := UInt8.toNat_lt (b[b.length - 1]?.getD 0)
  have hs1 : IntKind.i64.wrap ((b.length : Int) - 1) = (b.length : Int) - 1 := by rw [IntKind.wrap_i64]; omega
  have i0 : (0 : Int) ≤ (b.length : Int) - 1 := by omega
  have i1 : (b.length : Int) - 1 < (b.length : Int) := by omega
  have hto3 : ((b.length : Int) - 1).toNat = b.length - 1 := by omega
  have hshift := bit_x (b[b.length - 1]?.getD 0).toNat (mn % 8)
  have ok_end : ∀ hB : Bits b (usOf mn b), MapAt (w1.setCells g 0 ((bv b).take bs.length)) S m (usOf mn b) ∧ Fr NoB w (w1.setCells g 0 ((bv b).take bs.length)) := fun hB => by
    have hlen : (bv b).length = bs.length := by rw [bv_len]; omega
    rw [List.take_of_length_le (Nat.le_of_eq hlen)]
    have g2 := hg.setAll (bv b) (by simp only [List.size_toArray, bv_len] at *; omega)
    have nmg : m ≠ g := hb.types hg (by decide)
    have hz2 := size_setCells g (bv b) 0 w1
    refine ⟨⟨⟨g, b, ?_, g2, hB, hSg⟩, ho, fun k hk => ?_, by rw [usOf_len]; omega, by rw [usOf_len]; omega⟩, ?_⟩
    · rw [usOf_len, show b.length = bs.length by omega]
      rw [List.length_replicate] at hb
      exact hb.setCells_far nmg _ _
    · have := hlt' k hk; omega
    · exact fr1.up (Fr.setCells (S := S) (.inl hSg) _ _ (Fr.refl _ _)) up1
  have HE := Lib.hid ok_end
  have hth : w1.there g 0 (Nat.min b.length bs.length) := hg.there (by simp [bv_len]; exact Nat.min_le_right _ _)
  have h1 := bv_one b
  clear ok_end hbits hg
  by_cases h8 : mn % 8 = 0
  · have hB : Bits b (usOf mn b) := hiff.2 ⟨hl, .inl h8⟩
    have d8 : ((mn : Int) % 8 != 0) = false := by simp; omega
    have HB := Lib.hid hB
    clear hiff hB hl hbsl hb hu
    go_wp2_with (with_reducible refine wpList_copy_rd rfl rfl 5 Try.underlying41 (by kernel_rfl) g 0 bs.length bs.length rfl rfl hrd hth h1 ?_)
    go_ret2
    obtain ⟨f1, f2⟩ := HE.out HB.out
    exact .inr ⟨mn, rfl, by omega, by omega, .inr ⟨HB.out, m, S, hm, rfl, f1, up1, f2⟩⟩
  · have d8 : ((mn : Int) % 8 != 0) = true := by simp; omega
    by_cases hx0 : (b[b.length - 1]?.getD 0).toNat / 2 ^ (mn % 8) = 0
    · have hB : Bits b (usOf mn b) := hiff.2 ⟨hl, .inr hx0⟩
      rw [decide_eq_true hx0] at hshift
      have HB := Lib.hid hB
      clear hiff hB hl hbsl hx0 hb hu
      generalize (b[b.length - 1]?.getD 0).toNat = x at *
      go_wp2_with (with_reducible refine wpList_copy_rd rfl rfl 5 Try.underlying41 (by kernel_rfl) g 0 bs.length bs.length rfl rfl hrd hth h1 ?_)
      go_ret2
      obtain ⟨f1, f2⟩ := HE.out HB.out
      exact .inr ⟨mn, rfl, by omega, by omega, .inr ⟨HB.out, m, S, hm, rfl, f1, up1, f2⟩⟩
    · have HI : Hid (¬ Bits b (usOf mn b)) := Lib.hid (fun hh => by rcases (hiff.1 hh).2 with h' | h' <;> contradiction)
      rw [decide_eq_false hx0] at hshift
      clear hiff hl hbsl hx0 hb hu HE
      generalize (b[b.length - 1]?.getD 0).toNat = x at *
      go_wp2_with fail
      go_ret2
      exact .inr ⟨mn, rfl, by omega, by omega, .inl ⟨HI.out, rfl, fr1⟩⟩
end Go.Proofs.Ytmceknchmflgoaa
