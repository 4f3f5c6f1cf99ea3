/- Contracts of Bytes, Used, New. -/
import Derived.Test.YtmceknchmflgoaaTake
namespace Go.Proofs.Ytmceknchmflgoaa
open Go.RowKit

def BytesPost (us : List Bool) (w : World) (e : Ending) (w' : World) : Prop :=
  ∃ bs A c, Bits bs us ∧ e = .returned (.slice A bs.length c) ∧ Arr w' 5 1 A bs.length c (bv bs) ∧ (∀ k, InB A k → w.heap.size ≤ k) ∧ Fr NoB w w'

theorem bytes_any {S : Nat → Prop} {m : Nat} {us : List Bool} (w : World) (h : MapAt w S m us) :
    Calls Try.prog 19 #[.pointer (some ⟨m, 0, none⟩)] w (BytesPost us w) := by
  obtain ⟨⟨g, bs, hb, hg, hbits, hSg⟩, ho, hlt', hp, hw⟩ := h
  have c1 : w.cell? ⟨m, 1, none⟩ = some (.slice (some ⟨g, 0, none⟩) bs.length bs.length) := hb.cell 1
  have hn : bs.length ≤ 512 := by have := hbits.1; omega
  have hrd : Rd w (fun k => k = g) 1 (some ⟨g, 0, none⟩) bs.length bs.length (bv bs) :=
    ⟨by simp [bv_len], Nat.le_refl _, by simp only [maxLen]; omega, (fun h => by cases h), fun a ha _ => by cases ha; exact ⟨rfl, hg.lt, At.of_bk (o := 0) (n := bs.length) hg (by simp [List.take_of_length_le (Nat.le_of_eq (bv_len bs))])⟩⟩
  have HB := Lib.hid hbits
  clear hb hg hbits
  go_enter Try.func19, Try.ntmps19
  go_wp2_with fail
  refine (clone_any _ _ _ _ bs w hrd (by omega)).mono ?_
  rintro e w1 ⟨A, c, rfl, harr, hin, hf⟩
  go_wp2_with fail
  go_ret
  exact ⟨bs, A, c, HB.out, rfl, harr, hin, hf⟩
theorem bytes_nil (w : World) : Calls Try.prog 19 #[.pointer none] w fun e w' => e = .returned (.slice none 0 0) ∧ w = w' := by
  go_enter Try.func19, Try.ntmps19
  go_wp2
  go_ret
  exact ⟨rfl, rfl⟩

def popS (l : List UInt8) : Nat := (l.map fun b => Lib.onesCount b.toNat).sum
theorem popS_snoc (l : List UInt8) (b : UInt8) : popS (l ++ [b]) = popS l + Lib.onesCount b.toNat := by simp [popS]
theorem popS_take {l : List UInt8} {j : Nat} (h : j < l.length) : popS (l.take (j + 1)) = popS (l.take j) + Lib.onesCount (l[j]?.getD 0).toNat := by
  rw [List.take_succ_eq_append_getElem h, popS_snoc, List.getElem?_eq_getElem h]
  rfl
theorem count_range (us : List Bool) : us.count true = (List.range us.length).countP (fun k => us[k]?.getD false) := by
  have h : us = (List.range us.length).map (fun k => us[k]?.getD false) := by
    apply List.ext_getElem?
    intro i
    rw [List.getElem?_map]
    by_cases hi : i < us.length
    · rw [List.getElem?_range hi, List.getElem?_eq_getElem hi]
      simp [List.getElem?_eq_getElem hi]
    · rw [List.getElem?_eq_none (by omega), List.getElem?_eq_none (by simp; omega)]
      rfl
  conv => lhs; rw [h]
  rw [List.count, List.countP_map]
  congr 1
  funext k
  simp
theorem popS_range (f : Nat → Bool) (l : List UInt8) (h : ∀ k, k < 8 * l.length → bitAt l k = f k) : ∀ n, n ≤ l.length → popS (l.take n) = (List.range (8 * n)).countP f := by
  intro n
  induction n with
  | zero => intro _; rfl
  | succ n ih =>
    intro hn
    have hp : Lib.onesCount (l[n]?.getD 0).toNat = (List.range 8).countP (fun j => ((l[n]?.getD 0).toNat).testBit j) := pop_bits ⟨_, UInt8.toNat_lt _⟩
    have e : (List.range 8).countP (fun j => ((l[n]?.getD 0).toNat).testBit j) = (List.range 8).countP (f ∘ fun x => 8 * n + x) := by
      apply List.countP_congr
      intro j hj
      have hj8 : j < 8 := List.mem_range.1 hj
      have h' := h (8 * n + j) (by omega)
      unfold bitAt at h'
      rw [show (8 * n + j) / 8 = n by omega, show (8 * n + j) % 8 = j by omega] at h'
      simp [h']
    rw [popS_take (by omega), ih (by omega), Nat.mul_succ, List.range_add, List.countP_append, hp, e, List.countP_map]
theorem popS_count {bs : List UInt8} {us : List Bool} (h : Bits bs us) : popS bs = us.count true := by
  have h1 := popS_range _ bs h.2 bs.length (Nat.le_refl _)
  rw [List.take_length] at h1
  rw [h1, count_range]
  have hle : us.length ≤ 8 * bs.length := by have := h.1; omega
  obtain ⟨d, hd⟩ : ∃ d, 8 * bs.length = us.length + d := ⟨_, (Nat.add_sub_of_le hle).symm⟩
  rw [hd, List.range_add, List.countP_append, List.countP_map]
  have : (List.range d).countP ((fun k => us[k]?.getD false) ∘ fun x => us.length + x) = 0 := by
    rw [List.countP_eq_zero]
    intro j _
    simp
  omega
theorem ones_le : ∀ x : Fin 256, Lib.onesCount x.val ≤ 8 := by decide +kernel
theorem popS_le (l : List UInt8) : popS l ≤ 8 * l.length := by
  induction l with
  | nil => simp [popS]
  | cons b r ih =>
    have := ones_le ⟨b.toNat, UInt8.toNat_lt _⟩
    simp only [popS, List.map_cons, List.sum_cons, List.length_cons] at ih ⊢
    simp only [] at this
    omega

theorem used_any {S : Nat → Prop} {m : Nat} {us : List Bool} (w : World) (h : MapAt w S m us) :
    Calls Try.prog 17 #[.pointer (some ⟨m, 0, none⟩)] w fun e w' => e = .returned (.int .i64 (us.count true)) ∧ Fr NoB w w' := by
  have hby := bytes_any w h
  have hfew := h.few
  clear h
  go_enter Try.func17, Try.ntmps17
  go_wp2_with fail
  refine hby.mono ?_
  rintro e w1 ⟨bs, A, c, hbits, rfl, harr, hin, hf⟩
  have hpc := Lib.hid (popS_count hbits)
  have hn : bs.length ≤ 512 := by have := hbits.1; omega
  clear hbits
  go_wp2_with fail
  go_loopg [3, 9] bs.length (fun g v3 v9 wr => ∃ j : Nat, j ≤ bs.length ∧ g = bs.length - j ∧ v9 = .int .i64 j ∧ v3 = .int .i64 (popS (bs.take j)) ∧ wr = w1)
  case atStart => exact ⟨0, Nat.zero_le _, rfl, rfl, rfl, rfl⟩
  case round =>
    obtain ⟨j, hj, rfl, rfl, rfl, rfl⟩ := hrel
    by_cases hjl : j < bs.length
    · obtain ⟨g, off, u, rfl, hgS, hgl, hu, hcu⟩ := harr.rd.cell_at hjl 0 (by omega)
      simp only [Nat.mul_one, Nat.add_zero] at hu hcu
      have hux : u = .int .u8 ((bs[j]?.getD 0).toNat : Int) := by
        rw [List.getElem?_eq_getElem hjl]
        simp only [bv, List.getElem?_map, List.getElem?_eq_getElem hjl, Option.map_some, Option.some.injEq] at hu
        exact hu.symm
      subst hux
      have hpt := popS_take hjl
      have hpl := popS_le (bs.take j)
      have hxl := UInt8.toNat_lt (bs[j]?.getD 0)
      have hones := ones_le ⟨(bs[j]?.getD 0).toNat, hxl⟩
      simp only [] at hones
      rw [List.length_take] at hpl
      have HP := Lib.hid hpt
      clear hpt hu
      generalize (bs[j]?.getD 0).toNat = x at *
      have hpo := pop_any (x : Int) wr (by omega) (by omega)
      rw [Int.toNat_natCast] at hpo
      go_wp2_with fail
      refine hpo.mono ?_
      rintro e w' ⟨rfl, rfl⟩
      go_wp2_with fail
      go_roundg (bs.length - (j + 1))
      case measure => omega
      case rel => exact ⟨j + 1, by omega, rfl, by go_num, by rw [HP.out]; simp, rfl⟩
    · obtain rfl : j = bs.length := by omega
      go_wp2_with fail
      go_ret
      have := hpc.out
      refine ⟨?_, hf⟩
      show Ending.returned (.int .i64 (popS (bs.take bs.length))) = _
      rw [List.take_length, this]
theorem used_nil (w : World) : Calls Try.prog 17 #[.pointer none] w fun e w' => e = .returned (.int .i64 0) ∧ w = w' := by
  go_enter Try.func17, Try.ntmps17
  go_wp2_with fail
  refine (bytes_nil w).mono ?_
  rintro e w' ⟨rfl, rfl⟩
  go_wp2_with fail
  go_loopg [3, 9] 0 (fun g u v wr => u = .int .i64 (0 : Int) ∧ v = .int .i64 (0 : Int) ∧ wr = w)
  case atStart => exact ⟨rfl, rfl, rfl⟩
  case round =>
    obtain ⟨rfl, rfl, rfl⟩ := hrel
    go_wp2_with fail
    go_ret
    exact ⟨rfl, rfl⟩
end Go.Proofs.Ytmceknchmflgoaa
