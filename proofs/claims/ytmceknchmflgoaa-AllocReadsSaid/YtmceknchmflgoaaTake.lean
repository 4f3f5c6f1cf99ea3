/- Contracts of Take, Bytes, Used, New. -/
import Derived.Test.YtmceknchmflgoaaMap
import Derived.WalkSpells
import Derived.Deep.LoopGhost
import Derived.Lib.Strings
import Derived.Lib.Slices
import Derived.Lib.Small
import Derived.Lib.Walk
namespace Go.Proofs.Ytmceknchmflgoaa
open Go.RowKit

theorem info5 : (Try.prog.info? 5).map (fun i => (i.zero, i.size, i.bytes)) = some (some (.int .u8 0), 1, 1) := by kernel_rfl

theorem clone_any (S : Nat → Prop) (A : Option Addr) (n c : Nat) (l : List UInt8) (w : World) (h : Rd w S 1 A n c (bv l)) (hn : n ≤ 1048576) :
    Calls Try.prog 28 #[.slice A n c] w fun e w' => ∃ A' c', e = .returned (.slice A' n c') ∧ Arr w' 5 1 A' n c' (bv l) ∧ (∀ k, InB A' k → w.heap.size ≤ k) ∧ Fr NoB w w' := by
  obtain ⟨i0, hi, hz0, hz1, hz2⟩ := info_parts info5
  cases A with
  | none =>
    obtain ⟨rfl, rfl⟩ := h.2.2.2.1 rfl
    have hl : bv l = [] := List.eq_nil_of_length_eq_zero (by simpa using h.1)
    have qT : ∀ (w : World) (a : Option Addr) (n c n' c' : Nat), (binOp .eql 41 (.slice a n c) (.slice none n' c')).run Try.prog w = .ok (.bool a.isNone) w := fun w a n c n' c' => Lib.run_eql_slice_nil w _ _ a n c n' c' Try.underlying41
    go_enter Try.func28, Try.ntmps28
    go_wp2
    go_ret
    exact ⟨none, 0, rfl, by rw [hl]; exact Arr.none_ _ _ _, fun k hk => (InB.none_ k hk).elim, Fr.refl _ _⟩
  | some a =>
    have qT : ∀ (w : World) (a : Option Addr) (n c n' c' : Nat), (binOp .eql 41 (.slice a n c) (.slice none n' c')).run Try.prog w = .ok (.bool a.isNone) w := fun w a n c n' c' => Lib.run_eql_slice_nil w _ _ a n c n' c' Try.underlying41
    have harr : Arr (w.alloc (.cells #[] 5)) 5 1 (some ⟨w.heap.size, 0, none⟩) 0 0 [] := by
      have := Arr.made (e := 5) (size := 1) w #[] 0 0 (Nat.le_refl _) (by simp [maxLen]) (by simp)
      simpa using this
    have hsrc := h.alloc (.cells #[] 5)
    have h1 := bv_one l
    go_enter Try.func28, Try.ntmps28
    go_wp2_with (at_builtin; refine wpList_append_arr _ rfl _ _ 41 rfl 5 i0 _ 1 1 Try.underlying41 hi hz0 hz1 hz2 rfl _ 0 0 [] rfl harr S (some a) n c (bv l) rfl hsrc h1 (by unfold maxLen; omega) (by omega) ?_; intro A1 c1 w1 harr1 hfr1 hin1 _)
    go_ret
    refine ⟨A1, c1, by simp, by simpa using harr1, fun k hk => ?_, ?_⟩
    · rcases hin1 k hk with h | h
      · rw [InB.some_] at h; exact Nat.le_of_eq h
      · simp at h; omega
    · refine ((Fr.refl _ w).alloc _).join hfr1 fun j hj hin => ?_
      rw [InB.some_] at hin
      subst hin
      exact absurd hj (Nat.lt_irrefl _)


theorem tz_any (x : Int) (w : World) (h0 : 0 ≤ x) (h1 : x ≤ 255) :
    Calls Try.prog 23 #[.int .u8 x] w fun e w' => e = .returned (.int .i64 (Lib.trailingZeros8 x.toNat)) ∧ w' = w := by
  have e : RowKit.wrap64 (Lib.ntz8 x) = ((Lib.trailingZeros8 x.toNat : Nat) : Int) := by
    unfold RowKit.wrap64
    exact Lib.ntz8_int x h0 h1
  rw [← e]
  clear e
  go_enter Try.func23, Try.ntmps23
  go_wp2
  go_ret
  exact ⟨rfl, rfl⟩
theorem pop_any (x : Int) (w : World) (h0 : 0 ≤ x) (h1 : x ≤ 255) :
    Calls Try.prog 27 #[.int .u8 x] w fun e w' => e = .returned (.int .i64 (Lib.onesCount x.toNat)) ∧ w' = w := by
  have e : RowKit.wrap64 (Lib.pop8 x) = ((Lib.onesCount x.toNat : Nat) : Int) := by
    unfold RowKit.wrap64
    exact Lib.pop8_int x h0 h1
  rw [← e]
  clear e
  go_enter Try.func27, Try.ntmps27
  go_wp2
  go_ret
  exact ⟨rfl, rfl⟩

/-- The first page that is free. -/
def takeF (us : List Bool) : Int × Int × List Bool :=
  match us.findIdx? (fun u => !u) with
  | some k => ((k : Int) + 1, 0, us.set k true)
  | none => (0, 5, us)
theorem takeF_some {us : List Bool} {k : Nat} (hk : k < us.length) (h : us[k] = false) (hb : ∀ i, i < k → us[i]?.getD false = true) : takeF us = ((k : Int) + 1, 0, us.set k true) := by
  have : us.findIdx? (fun u => !u) = some k := by
    rw [List.findIdx?_eq_some_iff_getElem]
    refine ⟨hk, by simp [h], fun j hj => ?_⟩
    have := hb j hj
    rw [List.getElem?_eq_getElem (by omega)] at this
    simpa using this
  unfold takeF
  rw [this]
theorem takeF_none {us : List Bool} (hb : ∀ i, i < us.length → us[i]?.getD false = true) : takeF us = (0, 5, us) := by
  have : us.findIdx? (fun u => !u) = none := by
    rw [List.findIdx?_eq_none_iff]
    intro u hu
    obtain ⟨i, hi⟩ := List.getElem?_of_mem hu
    have := hb i (List.getElem?_eq_some_iff.1 hi).1
    rw [hi] at this
    simpa using this
  unfold takeF
  rw [this]

def TakePost (S : Nat → Prop) (m : Nat) (r : Int × Int × List Bool) (w : World) (e : Ending) (w' : World) : Prop :=
  e = .returned (.tuple #[.int .i64 r.1, .int .i64 r.2.1]) ∧ MapAt w' S m r.2.2 ∧ Fr S w w'

theorem tz_some : ∀ x : Fin 256, ∀ t : Fin 8, Lib.trailingZeros8 (255 - x.val) = t.val → x.val.testBit t.val = false ∧ ∀ i : Fin 8, i.val < t.val → x.val.testBit i.val = true := by decide +kernel
theorem tz_le : ∀ x : Fin 256, Lib.trailingZeros8 (255 - x.val) ≤ 8 := by decide +kernel
theorem tz_none : ∀ x : Fin 256, Lib.trailingZeros8 (255 - x.val) = 8 ↔ x.val = 255 := by decide +kernel
theorem bits_255 : ∀ j : Fin 8, (255 : Nat).testBit j.val = true := by decide

theorem take_any {S : Nat → Prop} {m : Nat} {us : List Bool} (w : World) (h : MapAt w S m us) :
    Calls Try.prog 10 #[.pointer (some ⟨m, 0, none⟩)] w (TakePost S m (takeF us) w) := by
  have H := Lib.hid h
  obtain ⟨⟨g, bs, hb, hg, hbits, hSg⟩, ho, hlt', hp, hw⟩ := h
  have c0 : w.cell? ⟨m, 0, none⟩ = some (.int .i64 us.length) := hb.cell 0
  have c1 : w.cell? ⟨m, 1, none⟩ = some (.slice (some ⟨g, 0, none⟩) bs.length bs.length) := hb.cell 1
  have HG := Lib.hid hg
  have HBT := Lib.hid hbits
  have hbl := Lib.hid hbits.1
  have hbf : bs.length ≤ 512 := by have := hbits.1; omega
  clear hb hg hbits
  go_enter Try.func10, Try.ntmps10
  go_wp2_with fail
  go_loopg [13] bs.length (fun g v13 wr => ∃ j : Nat, j ≤ bs.length ∧ g = bs.length - j ∧ v13 = .int .i64 j ∧ wr = w ∧ ∀ i, i < 8 * j → i < us.length → us[i]?.getD false = true)
  case atStart => exact ⟨0, Nat.zero_le _, rfl, rfl, rfl, fun i hi => by omega⟩
  case round =>
    obtain ⟨j, hj, rfl, rfl, rfl, hbef⟩ := hrel
    by_cases hjl : j < bs.length
    · have hz := bs_cell HG.out hjl
      have hbit : ∀ t, t < 8 → ((bs[j]?.getD 0).toNat).testBit t = us[8 * j + t]?.getD false := fun t ht => by
        have := HBT.out.2 (8 * j + t) (by omega)
        unfold bitAt at this
        rwa [show (8 * j + t) / 8 = j by omega, show (8 * j + t) % 8 = t by omega] at this
      have hxl := UInt8.toNat_lt (bs[j]?.getD 0)
      have hne := not_eq ⟨(bs[j]?.getD 0).toNat, hxl⟩
      have htl := tz_le ⟨(bs[j]?.getD 0).toNat, hxl⟩
      have htn := tz_none ⟨(bs[j]?.getD 0).toNat, hxl⟩
      have hts := tz_some ⟨(bs[j]?.getD 0).toNat, hxl⟩
      simp only [] at hne htl htn hts
      generalize (bs[j]?.getD 0).toNat = x at *
      have htz := tz_any ((255 - x : Nat) : Int) wr (by omega) (by omega)
      rw [Int.toNat_natCast] at htz
      have hm8 : IntKind.i64.wrap (8 * (j : Int)) = 8 * (j : Int) := by rw [IntKind.wrap_i64]; omega
      have hmax : IntKind.u8.max = 255 := rfl
      rw [hmax] at hne
      go_wp2_with fail
      refine htz.mono ?_
      rintro e w' ⟨rfl, rfl⟩
      have hbl' := hbl.out
      obtain ⟨t, ht⟩ : ∃ t, t = Lib.trailingZeros8 (255 - x) := ⟨_, rfl⟩
      rw [← ht] at htl htn hts htz ⊢
      have s1 : IntKind.i64.wrap (8 * (j : Int) + (t : Int)) = 8 * (j : Int) + (t : Int) := by rw [IntKind.wrap_i64]; omega
      have s2 : IntKind.i64.wrap (8 * (j : Int) + (t : Int) + 1) = 8 * (j : Int) + (t : Int) + 1 := by rw [IntKind.wrap_i64]; omega
      clear ht hbl'
      by_cases h8 : t = 8
      · have hx : x = 255 := htn.1 h8
        have hnext : ∀ i, i < 8 * (j + 1) → i < us.length → us[i]?.getD false = true := fun i hi hil => by
          by_cases hij : i < 8 * j
          · exact hbef i hij hil
          · have := hbit (i - 8 * j) (by omega)
            rw [show 8 * j + (i - 8 * j) = i by omega, hx, bits_255 ⟨i - 8 * j, by omega⟩] at this
            exact this.symm
        have HX := Lib.hid hnext
        have hb : ((x : Int) != 255) = false := by simp [hx]
        clear htn hts hbit hnext hx htl
        go_wp2_with fail
        go_roundg (bs.length - (j + 1))
        case measure => omega
        case rel => exact ⟨j + 1, by omega, rfl, by go_num, rfl, HX.out⟩
      · have ht8 : t < 8 := by omega
        have hb : ((x : Int) != 255) = true := by
          have : x ≠ 255 := fun e => h8 (htn.2 e)
          simp
          omega
        obtain ⟨b1, b2⟩ := hts ⟨t, ht8⟩ rfl
        simp only [] at b1 b2
        by_cases hin : 8 * j + t < us.length
        · have hfree : us[8 * j + t] = false := by
            have := hbit t ht8
            rw [b1, List.getElem?_eq_getElem hin] at this
            exact this.symm
          have hall : ∀ i, i < 8 * j + t → us[i]?.getD false = true := fun i hi => by
            by_cases hij : i < 8 * j
            · exact hbef i hij (by omega)
            · have := hbit (i - 8 * j) (by omega)
              rw [show 8 * j + (i - 8 * j) = i by omega, b2 ⟨i - 8 * j, by omega⟩ (by simp only []; omega)] at this
              exact this.symm
          have htk := takeF_some hin hfree hall
          have htu := turn_any (8 * j + t) _ H.out hin
          rw [hfree] at htu
          have e1 : (((8 * j + t : Nat) : Int) + 1) = 8 * (j : Int) + (t : Int) + 1 := by omega
          rw [e1] at htk htu
          have d1 : decide (8 * (j : Int) + (t : Int) + 1 ≤ (us.length : Int)) = true := decide_eq_true (by omega)
          have HTK := Lib.hid htk
          have HTU := Lib.hid htu
          clear htk htu hts htn hbit hbef hall hfree b1 b2
          go_wp2_with fail
          refine HTU.out.mono ?_
          rintro e w2 ⟨rfl, h1, h2⟩
          go_wp2_with fail
          go_ret2
          rw [TakePost, HTK.out]
          exact ⟨rfl, h1, h2⟩
        · have hnext : ∀ i, i < 8 * (j + 1) → i < us.length → us[i]?.getD false = true := fun i hi hil => by
            by_cases hij : i < 8 * j
            · exact hbef i hij hil
            · have := hbit (i - 8 * j) (by omega)
              rw [show 8 * j + (i - 8 * j) = i by omega, b2 ⟨i - 8 * j, by omega⟩ (by simp only []; omega)] at this
              exact this.symm
          have HX := Lib.hid hnext
          have d1 : decide (8 * (j : Int) + (t : Int) + 1 ≤ (us.length : Int)) = false := decide_eq_false (by omega)
          clear htn hts hbit hnext b1 b2
          go_wp2_with fail
          go_roundg (bs.length - (j + 1))
          case measure => omega
          case rel => exact ⟨j + 1, by omega, rfl, by go_num, rfl, HX.out⟩
    · obtain rfl : j = bs.length := by omega
      have hnone := takeF_none (us := us) (fun i hi => hbef i (by have := hbl.out; omega) hi)
      have HT := Lib.hid hnone
      clear hnone hbef
      go_wp2_with fail
      go_ret2
      rw [TakePost, HT.out]
      exact ⟨rfl, H.out, Fr.refl _ _⟩

theorem take_nil (w : World) : Calls Try.prog 10 #[.pointer none] w fun e w' => e = .returned (.tuple #[.int .i64 0, .int .i64 5]) ∧ w = w' := by
  go_enter Try.func10, Try.ntmps10
  go_wp2
  go_ret2
  exact ⟨rfl, rfl⟩
end Go.Proofs.Ytmceknchmflgoaa
