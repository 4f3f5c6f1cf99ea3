/- Bits of bytes: plain law. -/
import Derived.Test.YtmceknchmflgoaaMid
import Derived.Lib.BitFns
namespace Go.Proofs.Ytmceknchmflgoaa

def bitAt (bs : List UInt8) (k : Nat) : Bool := ((bs[k / 8]?.getD 0).toNat).testBit (k % 8)
/-- The bytes bs hold the pages us: bit by bit, and nothing behind. -/
def Bits (bs : List UInt8) (us : List Bool) : Prop := bs.length = (us.length + 7) / 8 ∧ ∀ k, k < 8 * bs.length → bitAt bs k = us[k]?.getD false

theorem and_bit : ∀ x : Fin 256, ∀ j : Fin 8, (bits BinOp.and IntKind.u8 ((x.val : Int) / 2 ^ j.val) 1 == 1) = x.val.testBit j.val := by decide +kernel
/-- One bit turned. -/
def tog (x : Nat) (j : Nat) : Nat := x ^^^ (2 ^ j)
theorem tog_lt : ∀ x : Fin 256, ∀ j : Fin 8, tog x.val j.val < 256 := by decide +kernel
theorem tog_bit : ∀ x : Fin 256, ∀ j : Fin 8, ∀ i : Fin 8, (tog x.val j.val).testBit i.val = if i = j then !x.val.testBit j.val else x.val.testBit i.val := by decide +kernel
theorem xor_tog : ∀ x : Fin 256, ∀ j : Fin 8, bits BinOp.xor IntKind.u8 (x.val : Int) (2 ^ j.val) = (tog x.val j.val : Int) := by decide +kernel
theorem byte_ext : ∀ x y : Fin 256, (∀ j : Fin 8, x.val.testBit j.val = y.val.testBit j.val) → x = y := by
  intro x y h
  apply Fin.ext
  apply Nat.eq_of_testBit_eq
  intro j
  by_cases hj : j < 8
  · exact h ⟨j, hj⟩
  · have hx : x.val < 2 ^ j := Nat.lt_of_lt_of_le x.isLt (by
      have : (2 : Nat) ^ 8 ≤ 2 ^ j := Nat.pow_le_pow_right (by omega) (by omega)
      simpa using this)
    have hy : y.val < 2 ^ j := Nat.lt_of_lt_of_le y.isLt (by
      have : (2 : Nat) ^ 8 ≤ 2 ^ j := Nat.pow_le_pow_right (by omega) (by omega)
      simpa using this)
    rw [Nat.testBit_lt_two_pow hx, Nat.testBit_lt_two_pow hy]
theorem pop_bits : ∀ x : Fin 256, Lib.onesCount x.val = (List.range 8).countP (fun j => x.val.testBit j) := by decide +kernel
/-- The first bit that is not set. -/
theorem ntz_bits : ∀ x : Fin 256, Lib.trailingZeros8 (255 - x.val) = (((List.range 8).find? fun j => !x.val.testBit j).getD 8) := by decide +kernel
theorem not_eq : ∀ x : Fin 256, bits BinOp.xor IntKind.u8 (IntKind.u8.max) (x.val : Int) = ((255 - x.val : Nat) : Int) := by decide +kernel

theorem Bits.inj {bs bs' : List UInt8} {us : List Bool} (h : Bits bs us) (h' : Bits bs' us) : bs = bs' := by
  apply List.ext_getElem (h.1.trans h'.1.symm)
  intro i h1 h2
  have := byte_ext ⟨bs[i].toNat, UInt8.toNat_lt _⟩ ⟨bs'[i].toNat, UInt8.toNat_lt _⟩ (fun j => by
    have e1 := h.2 (8 * i + j.val) (by omega)
    have e2 := h'.2 (8 * i + j.val) (by omega)
    have d1 : (8 * i + j.val) / 8 = i := by omega
    have d2 : (8 * i + j.val) % 8 = j.val := by omega
    unfold bitAt at e1 e2
    rw [d1, d2, List.getElem?_eq_getElem h1] at e1
    rw [d1, d2, List.getElem?_eq_getElem h2] at e2
    simpa using e1.trans e2.symm)
  have hv : bs[i].toNat = bs'[i].toNat := by simpa using congrArg Fin.val this
  exact UInt8.toNat_inj.1 hv

theorem Bits.turn {bs : List UInt8} {us : List Bool} (h : Bits bs us) {k : Nat} (hk : k < us.length) :
    Bits (bs.set (k / 8) (UInt8.ofNat (tog (bs[k / 8]?.getD 0).toNat (k % 8)))) (us.set k (!us[k])) := by
  have hb : k / 8 < bs.length := by have := h.1; omega
  refine ⟨by simpa using h.1, fun i hi => ?_⟩
  rw [List.length_set] at hi
  have hlt := tog_lt ⟨(bs[k / 8]?.getD 0).toNat, UInt8.toNat_lt _⟩ ⟨k % 8, Nat.mod_lt _ (by omega)⟩
  have hbit := tog_bit ⟨(bs[k / 8]?.getD 0).toNat, UInt8.toNat_lt _⟩ ⟨k % 8, Nat.mod_lt _ (by omega)⟩ ⟨i % 8, Nat.mod_lt _ (by omega)⟩
  simp only [] at hlt hbit
  have hi0 := h.2 i hi
  have hk0 := h.2 k (by omega)
  unfold bitAt at hi0 hk0 ⊢
  rw [List.getElem?_eq_getElem hk] at hk0
  by_cases hd : i / 8 = k / 8
  · rw [hd, List.getElem?_set_self hb, Option.getD_some, UInt8.toNat_ofNat_of_lt' (by simpa using hlt), hbit]
    rw [hd] at hi0
    by_cases hm : i % 8 = k % 8
    · have hik : i = k := by omega
      subst hik
      rw [if_pos rfl, hk0, List.getElem?_set_self hk]
      rfl
    · rw [if_neg (by simpa [Fin.ext_iff] using hm), hi0, List.getElem?_set_ne (by omega)]
  · rw [List.getElem?_set_ne (Ne.symm hd), hi0, List.getElem?_set_ne (by omega)]
theorem Bits.byte {bs : List UInt8} {us : List Bool} (h : Bits bs us) {k : Nat} (hk : k < us.length) : k / 8 < bs.length := by have := h.1; omega
theorem Bits.get {bs : List UInt8} {us : List Bool} (h : Bits bs us) {k : Nat} (hk : k < us.length) : ((bs[k / 8]?.getD 0).toNat).testBit (k % 8) = us[k] := by
  have := h.2 k (by have := h.1; omega)
  rw [List.getElem?_eq_getElem hk] at this
  exact this
end Go.Proofs.Ytmceknchmflgoaa
