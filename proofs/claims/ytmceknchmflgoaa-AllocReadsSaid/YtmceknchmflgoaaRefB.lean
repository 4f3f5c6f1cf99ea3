/- The document's map: contracts of Count, Bytes. -/
import Derived.Test.YtmceknchmflgoaaRef
namespace Go.Proofs.Ytmceknchmflgoaa
open Go.RowKit

def bl (us : List Bool) : List Bool := false :: us
theorem bl_len (us : List Bool) : (bl us).length = us.length + 1 := rfl
theorem bl_cell {w : World} {g : Nat} {us : List Bool} (h : Bk w g 4 (boolsV us)) {k : Nat} (hk : k < us.length + 1) : w.cell? ⟨g, k, none⟩ = some (.bool ((bl us)[k]'(by rw [bl_len]; exact hk))) := by
  rw [h.cell]
  cases k with
  | zero => rfl
  | succ k => simp [boolsV, bl]

theorem refCount_any {T : Nat → Prop} {p : Nat} {us : List Bool} (w : World) (h : RefAt w T p us) :
    Calls Try.prog 18 #[.pointer (some ⟨p, 0, none⟩)] w fun e w' => e = .returned (.int .i64 (us.count true)) ∧ w = w' := by
  obtain ⟨⟨g, hb, hg, hT⟩, ho, hlt, hp, hw⟩ := h
  have c0 : w.cell? ⟨p, 0, none⟩ = some (.slice (some ⟨g, 0, none⟩) (us.length + 1) (us.length + 1)) := hb.cell 0
  have HG := Lib.hid hg
  clear hb hg
  go_enter Try.func18, Try.ntmps18
  go_wp2_with fail
  go_loopg [3, 11] (us.length + 1) (fun n v3 v11 wr => ∃ j : Nat, j ≤ us.length + 1 ∧ n = us.length + 1 - j ∧ v11 = .int .i64 j ∧ v3 = .int .i64 (((bl us).take j).count true) ∧ wr = w)
  case atStart => exact ⟨0, Nat.zero_le _, rfl, rfl, rfl, rfl⟩
  case round =>
    obtain ⟨j, hj, rfl, rfl, rfl, rfl⟩ := hrel
    by_cases hjl : j < us.length + 1
    · have c1 := bl_cell HG.out hjl
      have htk : (bl us).take (j + 1) = (bl us).take j ++ [(bl us)[j]'(by rw [bl_len]; exact hjl)] := List.take_succ_eq_append_getElem _
      have hcl : ((bl us).take j).count true ≤ 4097 := by
        have := List.count_le_length (l := (bl us).take j) (a := true)
        have := List.length_take_le j (bl us)
        omega
      have hjl' : (j : Int) < (us.length : Int) + 1 := by omega
      have HTK := Lib.hid htk
      clear htk
      cases hu : (bl us)[j]'(by rw [bl_len]; exact hjl) with
      | true =>
        rw [hu] at c1
        have HC : Hid (((bl us).take (j + 1)).count true = ((bl us).take j).count true + 1) := Lib.hid (by rw [HTK.out, hu]; simp)
        clear hu HTK
        go_wp2_with fail
        go_roundg (us.length + 1 - (j + 1))
        case measure => omega
        case rel => exact ⟨j + 1, by omega, rfl, by go_num, by rw [HC.out]; simp, rfl⟩
      | false =>
        rw [hu] at c1
        have HC : Hid (((bl us).take (j + 1)).count true = ((bl us).take j).count true) := Lib.hid (by rw [HTK.out, hu]; simp)
        clear hu HTK
        go_wp2_with fail
        go_roundg (us.length + 1 - (j + 1))
        case measure => omega
        case rel => exact ⟨j + 1, by omega, rfl, by go_num, by rw [HC.out], rfl⟩
    · obtain rfl : j = us.length + 1 := by omega
      have hjl' : ¬ (((us.length + 1 : Nat) : Int) < (us.length : Int) + 1) := by omega
      have hcnt : ((bl us).take (us.length + 1)).count true = us.count true := by
        rw [List.take_of_length_le (by rw [bl_len]; exact Nat.le_refl _)]
        simp [bl]
      have HC := Lib.hid hcnt
      clear hcnt
      go_wp2_with fail
      go_ret
      refine ⟨?_, rfl⟩
      show Ending.returned (.int .i64 (((bl us).take (us.length + 1)).count true)) = _
      rw [HC.out]

/-- The bytes of the pages below j. -/
def PB (bs : List UInt8) (us : List Bool) (j : Nat) : Prop := bs.length = (us.length + 7) / 8 ∧ ∀ k, k < 8 * bs.length → bitAt bs k = (decide (k + 1 < j) && us[k]?.getD false)
theorem PB.zero (us : List Bool) : PB (List.replicate ((us.length + 7) / 8) 0) us 0 := by
  refine ⟨by simp, fun k hk => ?_⟩
  rw [List.length_replicate] at hk
  unfold bitAt
  rw [List.getElem?_replicate, if_pos (by omega)]
  simp
theorem PB.one {bs : List UInt8} {us : List Bool} (h : PB bs us 0) : PB bs us 1 := ⟨h.1, fun k hk => by rw [h.2 k hk]; simp⟩
theorem PB.skip {bs : List UInt8} {us : List Bool} {k : Nat} (h : PB bs us (k + 1)) (hk : k < us.length) (hu : us[k] = false) : PB bs us (k + 2) := by
  refine ⟨h.1, fun i hi => ?_⟩
  rw [h.2 i hi]
  by_cases e : i = k
  · subst e
    rw [List.getElem?_eq_getElem hk, hu]
    simp
  · have : decide (i + 1 < k + 1) = decide (i + 1 < k + 2) := by
      by_cases h' : i + 1 < k + 1
      · rw [decide_eq_true h', decide_eq_true (by omega)]
      · rw [decide_eq_false h', decide_eq_false (by omega)]
    rw [this]
theorem PB.add {bs : List UInt8} {us : List Bool} {k : Nat} (h : PB bs us (k + 1)) (hk : k < us.length) (hu : us[k] = true) :
    PB (bs.set (k / 8) (UInt8.ofNat (tog (bs[k / 8]?.getD 0).toNat (k % 8)))) us (k + 2) ∧ ((bs[k / 8]?.getD 0).toNat).testBit (k % 8) = false ∧ k / 8 < bs.length := by
  have hb : k / 8 < bs.length := by have := h.1; omega
  have hk0 : ((bs[k / 8]?.getD 0).toNat).testBit (k % 8) = false := by
    have := h.2 k (by have := h.1; omega)
    unfold bitAt at this
    rw [this]
    simp
  refine ⟨⟨by simpa using h.1, fun i hi => ?_⟩, hk0, hb⟩
  rw [List.length_set] at hi
  have hlt := tog_lt ⟨(bs[k / 8]?.getD 0).toNat, UInt8.toNat_lt _⟩ ⟨k % 8, Nat.mod_lt _ (by omega)⟩
  have hbit := tog_bit ⟨(bs[k / 8]?.getD 0).toNat, UInt8.toNat_lt _⟩ ⟨k % 8, Nat.mod_lt _ (by omega)⟩ ⟨i % 8, Nat.mod_lt _ (by omega)⟩
  simp only [] at hlt hbit
  have hi0 := h.2 i hi
  unfold bitAt at hi0 ⊢
  by_cases e : i = k
  · subst e
    rw [List.getElem?_set_self hb, Option.getD_some, UInt8.toNat_ofNat_of_lt' (by simpa using hlt), hbit, if_pos rfl, hk0, List.getElem?_eq_getElem hk, hu]
    simp
  · have hd : decide (i + 1 < k + 1) = decide (i + 1 < k + 2) := by
      by_cases h' : i + 1 < k + 1
      · rw [decide_eq_true h', decide_eq_true (by omega)]
      · rw [decide_eq_false h', decide_eq_false (by omega)]
    rw [← hd, ← hi0]
    by_cases h8 : i / 8 = k / 8
    · rw [h8, List.getElem?_set_self hb, Option.getD_some, UInt8.toNat_ofNat_of_lt' (by simpa using hlt), hbit, if_neg (by simp [Fin.ext_iff]; omega)]
    · rw [List.getElem?_set_ne (Ne.symm h8)]
theorem PB.done {bs : List UInt8} {us : List Bool} (h : PB bs us (us.length + 1)) : Bits bs us := by
  refine ⟨h.1, fun k hk => ?_⟩
  rw [h.2 k hk]
  by_cases hk' : k + 1 < us.length + 1
  · simp [hk']
  · rw [List.getElem?_eq_none (by omega)]
    simp
theorem add_tog : ∀ x : Fin 256, ∀ j : Fin 8, x.val.testBit j.val = false → IntKind.u8.wrap ((x.val : Int) + 2 ^ j.val) = (tog x.val j.val : Int) := by decide +kernel
theorem wrap_pow : ∀ j : Fin 8, IntKind.u8.wrap ((2 : Int) ^ j.val) = (2 : Int) ^ j.val := by decide

/-- Bytes' state. -/
def BY (w : World) (us : List Bool) (g n : Nat) (v19 : Value) (wr : World) : Prop :=
  ∃ (j : Nat) (bs : List UInt8), j ≤ us.length + 1 ∧ n = us.length + 1 - j ∧ v19 = .int .i64 j ∧ bs.length = (us.length + 7) / 8 ∧ PB bs us j ∧ Bk wr g 5 (bv bs).toArray ∧ Fr NoB w wr

theorem refBytes_any {T : Nat → Prop} {p : Nat} {us : List Bool} (w : World) (h : RefAt w T p us) :
    Calls Try.prog 20 #[.pointer (some ⟨p, 0, none⟩)] w (BytesPost us w) := by
  obtain ⟨i0, hi0, hz0, hz1, hz2⟩ := info_parts info5
  obtain ⟨⟨g, hb, hg, hT⟩, ho, hlt, hp, hw⟩ := h
  have c0 : w.cell? ⟨p, 0, none⟩ = some (.slice (some ⟨g, 0, none⟩) (us.length + 1) (us.length + 1)) := hb.cell 0
  have hgl := hg.lt
  have hpl := hb.lt
  have HG := Lib.hid hg
  clear hb hg
  obtain ⟨k, hk⟩ : ∃ k, k = us.length := ⟨_, rfl⟩
  have hmk : ∀ u : World, (Instr.makeSlice 41 (.int .i64 (((us.length : Int) + 7) / 8)) (.int .i64 (((us.length : Int) + 7) / 8))).run Try.prog u = .ok (.slice (some ⟨u.heap.size, 0, none⟩) ((us.length + 7) / 8) ((us.length + 7) / 8)) (u.alloc (.cells (zb ((us.length + 7) / 8)) 5)) := fun u => by
    have h := run_make (P := Try.prog) u 41 5 i0 (.int .u8 0) Try.underlying41 hi0 hz0 .i64 .i64 (((us.length : Int) + 7) / 8) (((us.length : Int) + 7) / 8) (by omega) (Int.le_refl _) (by rw [hz2]; omega) (by omega)
    rw [hz1, show ((((us.length : Int) + 7) / 8)).toNat = (us.length + 7) / 8 by omega] at h
    exact h
  have hs : IntKind.i64.wrap ((us.length : Int) + 1 + 6) = (us.length : Int) + 7 := by rw [IntKind.wrap_i64]; omega
  have hq : ((us.length : Int) + 7).tdiv 8 = ((us.length : Int) + 7) / 8 := by
    have := Int.ofNat_tdiv (us.length + 7) 8
    simp at this
    omega
  clear hk
  go_enter Try.func20, Try.ntmps20
  go_wp2_with fail
  have fW : Fr NoB w (w.alloc (.cells (zb ((us.length + 7) / 8)) 5)) := (Fr.refl _ _).alloc _
  have bW := Bk.new w 5 (zb ((us.length + 7) / 8))
  rw [zb_eq] at bW
  have HN : Hid (BY w us w.heap.size (us.length + 1) (.int .i64 (0 : Nat)) (w.alloc (.cells (zb ((us.length + 7) / 8)) 5))) :=
    ⟨0, List.replicate ((us.length + 7) / 8) 0, Nat.zero_le _, rfl, rfl, List.length_replicate, PB.zero us, by rw [zb_eq]; exact bW, fW⟩
  clear bW fW
  generalize w.alloc (.cells (zb ((us.length + 7) / 8)) 5) = W at *
  obtain ⟨gb, hgb⟩ : ∃ gb, gb = w.heap.size := ⟨_, rfl⟩
  rw [← hgb] at HN ⊢
  replace hgb := Lib.hid hgb
  go_loopg [19] (us.length + 1) (fun n v19 wr => BY w us gb n v19 wr)
  case atStart => exact HN.out
  case round =>
    obtain ⟨j, bs, hj, rfl, rfl, hlb, hpb, hbk, hfr⟩ := hrel
    by_cases hjl : j < us.length + 1
    · have c1 := bl_cell (HG.out.fr hfr (fun h => h)) hjl
      have hjl' : (j : Int) < (us.length : Int) + 1 := by omega
      cases j with
      | zero =>
        have c1' : wr.cell? ⟨g, 0, none⟩ = some (.bool false) := c1
        have HP := Lib.hid hpb.one
        have HB := Lib.hid hbk
        have hlb' := Lib.hid hlb
        clear hpb hbk c1 hlb
        go_wp2_with fail
        go_roundg (us.length + 1 - (0 + 1))
        case measure => omega
        case rel => exact ⟨1, bs, by omega, rfl, by go_num, hlb'.out, HP.out, HB.out, hfr⟩
      | succ k =>
        have hk : k < us.length := by omega
        have c1' : wr.cell? ⟨g, k + 1, none⟩ = some (.bool us[k]) := c1
        clear c1
        cases hu : us[k] with
        | false =>
          rw [hu] at c1'
          have HP := Lib.hid (hpb.skip hk hu)
          have HB := Lib.hid hbk
          have hlb' := Lib.hid hlb
          clear hpb hbk hu hlb
          go_wp2_with fail
          go_roundg (us.length + 1 - (k + 1 + 1))
          case measure => omega
          case rel => exact ⟨k + 2, bs, by omega, rfl, by go_num, hlb'.out, HP.out, HB.out, hfr⟩
        | true =>
          rw [hu] at c1'
          obtain ⟨hadd, hbit, hk8⟩ := hpb.add hk hu
          have hz := bs_cell hbk hk8
          have zf := hbk.frozen (k / 8)
          have hlt := UInt8.toNat_lt (bs[k / 8]?.getD 0)
          have hat := add_tog ⟨(bs[k / 8]?.getD 0).toNat, hlt⟩ ⟨k % 8, Nat.mod_lt _ (by omega)⟩ hbit
          have htl := tog_lt ⟨(bs[k / 8]?.getD 0).toNat, hlt⟩ ⟨k % 8, Nat.mod_lt _ (by omega)⟩
          simp only [] at hat htl
          have hwp := wrap_pow ⟨k % 8, Nat.mod_lt _ (by omega)⟩
          simp only [] at hwp
          have g2 := hbk.set (k / 8) (.int .u8 ((UInt8.ofNat (tog (bs[k / 8]?.getD 0).toNat (k % 8))).toNat : Int))
          have hset : (bv bs).toArray.setIfInBounds (k / 8) (.int .u8 ((UInt8.ofNat (tog (bs[k / 8]?.getD 0).toNat (k % 8))).toNat : Int)) = (bv (bs.set (k / 8) (UInt8.ofNat (tog (bs[k / 8]?.getD 0).toNat (k % 8))))).toArray := by
            simp [bv, List.map_set]
          rw [hset] at g2
          have hval : IntKind.u8.wrap (((bs[k / 8]?.getD 0).toNat : Int) + 2 ^ (k % 8)) = ((UInt8.ofNat (tog (bs[k / 8]?.getD 0).toNat (k % 8))).toNat : Int) := by
            rw [hat, UInt8.toNat_ofNat_of_lt' (by simpa using htl)]
          have f2 : Fr NoB w (wr.setCell ⟨gb, k / 8, none⟩ (.int .u8 ((UInt8.ofNat (tog (bs[k / 8]?.getD 0).toNat (k % 8))).toNat : Int))) := Fr.setCell (p := ⟨gb, k / 8, none⟩) hfr (.inr (by have := hgb.out; simp only []; omega)) _
          have HR : Hid (∃ bs' : List UInt8, bs'.length = (us.length + 7) / 8 ∧ PB bs' us (k + 2) ∧ Bk (wr.setCell ⟨gb, k / 8, none⟩ (.int .u8 (IntKind.u8.wrap (((bs[k / 8]?.getD 0).toNat : Int) + 2 ^ (k % 8))))) gb 5 (bv bs').toArray ∧ Fr NoB w (wr.setCell ⟨gb, k / 8, none⟩ (.int .u8 (IntKind.u8.wrap (((bs[k / 8]?.getD 0).toNat : Int) + 2 ^ (k % 8)))))) :=
            ⟨_, by rw [List.length_set]; exact hlb, hadd, by rw [hval]; exact g2, by rw [hval]; exact f2⟩
          have hsk : IntKind.i64.wrap ((k : Int) + 1 - 1) = k := by rw [IntKind.wrap_i64]; omega
          have hq0 : (k : Int).tdiv 8 = (k / 8 : Nat) := (Int.ofNat_tdiv k 8).symm
          have hq1 : (k : Int).tmod 8 = (k % 8 : Nat) := (Int.ofNat_tmod k 8).symm
          have hw0 : IntKind.i64.wrap (k : Int) = k := by rw [IntKind.wrap_i64]; omega
          have hw1 : IntKind.i64.wrap ((k : Int) / 8) = (k : Int) / 8 := by rw [IntKind.wrap_i64]; omega
          have hw2 : IntKind.i64.wrap ((k : Int) % 8) = (k : Int) % 8 := by rw [IntKind.wrap_i64]; omega
          have i0 : (0 : Int) ≤ (k : Int) / 8 := by omega
          have i1 : (k : Int) / 8 < ((us.length : Int) + 7) / 8 := by omega
          have hto : ((k : Int) / 8).toNat = k / 8 := by omega
          have hto2 : ((k : Int) % 8).toNat = k % 8 := by omega
          generalize (bs[k / 8]?.getD 0).toNat = x at *
          clear hadd hbit hat htl g2 hset hval f2 hpb hbk hu hlb
          go_wp2_with fail
          obtain ⟨bs', r1, r2, r3, r4⟩ := HR.out
          go_roundg (us.length + 1 - (k + 1 + 1))
          case measure => omega
          case rel => exact ⟨k + 2, bs', by omega, rfl, by go_num, r1, r2, r3, r4⟩
    · obtain rfl : j = us.length + 1 := by omega
      have hjl' : ¬ (((us.length + 1 : Nat) : Int) < (us.length : Int) + 1) := by omega
      have HD := Lib.hid hpb.done
      have hlb' := Lib.hid hlb
      have HB := Lib.hid hbk
      clear hpb hlb hbk
      go_wp2_with fail
      go_ret
      refine ⟨bs, some ⟨gb, 0, none⟩, bs.length, HD.out, by rw [hlb'.out]; rfl, ⟨by simp [bv_len], .inr ⟨gb, _, rfl, HB.out, Nat.le_refl _, by have := hlb'.out; simp only [maxLen]; omega, by simp [bv_len], by simp [List.take_of_length_le (Nat.le_of_eq (bv_len bs))]⟩⟩, fun k hk => by rw [InB.some_] at hk; have := hgb.out; simp only [] at hk; omega, hfr⟩
end Go.Proofs.Ytmceknchmflgoaa
