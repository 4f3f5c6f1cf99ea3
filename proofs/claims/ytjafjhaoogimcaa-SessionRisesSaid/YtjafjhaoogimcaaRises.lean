/- SessionRises: the walk. -/
import Derived.Test.YtjafjhaoogimcaaStepsIn
namespace Go.Proofs.Ytjafjhaoogimcaa
open Go.RowKit

def RIs (ss : List Step3) (w : World) (s l : Nat) (n : Nat) (v14 : Value) (wr : World) : Prop :=
  ∃ (k : Nat) (fs : List Int), k ≤ ss.length ∧ n = ss.length - k ∧ v14 = .int .i64 k ∧ SessAt wr 64 s fs ∧ SessAt wr 46 l fs ∧ Fr NoB w wr

theorem RIs.both {w W w2 : World} {s l k : Nat} {fs fs2 : List Int} {x : Int} (h1 : SessAt w2 64 s fs2) (hf : Fr (fun j => j = s) W w2) (h2 : SessAt W 46 l fs) (hw : Fr NoB w W) (hsl : s ≠ l) (hs : w.heap.size ≤ s) (hl : w.heap.size ≤ l) (he : fs2 = fs.set k x) :
    SessAt (w2.setCell ⟨l, k, none⟩ (.int .i64 x)) 64 s fs2 ∧ SessAt (w2.setCell ⟨l, k, none⟩ (.int .i64 x)) 46 l fs2 ∧ Fr NoB w (w2.setCell ⟨l, k, none⟩ (.int .i64 x)) := by
  subst he
  obtain ⟨a, b⟩ := (h2.fr hf (fun e => hsl e.symm)).set k x
  exact ⟨h1.fr b hsl, a, (hw.join hf (fun j hj e => by omega)).join b (fun j hj e => by omega)⟩

set_option maxHeartbeats 4000000 in
set_option maxRecDepth 100000 in
theorem rises_any (A : Option Addr) (c : Nat) (ss : List Step3) (w : World) (h : StepsIn w w.heap.size A c ss) :
    Calls Try.prog 6 #[.slice A ss.length c] w (LawPost w) := by
  have hsl : ss.length ≤ 9223372036854775807 := by have := h.1.2.1; have := h.1.2.2.1; simp only [maxLen] at this; omega
  go_enter Try.func6, Try.ntmps6
  go_wp2_with fail
  refine (begin_any _).mono ?_
  rintro e w1 ⟨rfl, s1, fr1⟩
  have hz1 := s1.bk.lt
  have hk2 : Fr NoB w1 (w1.alloc (.cells #[.int .i64 0, .int .i64 0, .int .i64 0, .int .i64 0, .int .i64 0, .int .i64 0, .int .i64 0] 46)) := (Fr.refl _ _).alloc _
  have hb2 : SessAt (w1.alloc (.cells #[.int .i64 0, .int .i64 0, .int .i64 0, .int .i64 0, .int .i64 0, .int .i64 0, .int .i64 0] 46)) 46 w1.heap.size zero7 := ⟨Bk.new _ _ _, rfl⟩
  have HN : Hid (RIs ss w w.heap.size w1.heap.size ss.length (.int .i64 (0 : Nat)) (w1.alloc (.cells #[.int .i64 0, .int .i64 0, .int .i64 0, .int .i64 0, .int .i64 0, .int .i64 0, .int .i64 0] 46))) :=
    ⟨0, zero7, Nat.zero_le _, rfl, rfl, s1.fr hk2 (fun h => h), hb2, fr1.trans hk2⟩
  have hne : w.heap.size ≠ w1.heap.size := by omega
  have hle : w.heap.size ≤ w.heap.size := Nat.le_refl _
  have hle2 : w.heap.size ≤ w1.heap.size := by omega
  clear s1 hk2 hb2 fr1 hz1
  obtain ⟨s, hs⟩ : ∃ s, s = w.heap.size := ⟨_, rfl⟩
  have HS := Lib.hid hs
  rw [← hs] at HN hne ⊢
  have hsle : w.heap.size ≤ s := by omega
  clear hs hle
  go_wp2_with fail
  generalize w1.alloc (.cells #[.int .i64 0, .int .i64 0, .int .i64 0, .int .i64 0, .int .i64 0, .int .i64 0, .int .i64 0] 46) = w2 at *
  generalize w1.heap.size = l at *
  go_loopg [14] ss.length (fun n v14 wr => RIs ss w s l n v14 wr)
  case atStart => exact HN.out
  case round =>
    obtain ⟨k, fs, hk, rfl, rfl, hss, hll, hfr⟩ := hrel
    by_cases hlt : k < ss.length
    · obtain ⟨b, off, kd, ka, kb, hsk, rfl, x0, x1, x2, o1, o2, o3⟩ := (h.fr hfr).step hlt
      have hW : Fr NoB wr (wr.alloc (.cells #[.int .i64 kd, .int .i64 ka, .int .i64 kb] 50)) := (Fr.refl _ _).alloc _
      have HSS := Lib.hid (hss.fr hW (fun h => h))
      have HLL := Lib.hid (hll.fr hW (fun h => h))
      have HFR := Lib.hid (hfr.trans hW)
      have HB := Lib.hid (Bk.new wr 50 #[.int .i64 kd, .int .i64 ka, .int .i64 kb])
      have hns : ¬ wr.heap.size = s := by have := hss.bk.lt; omega
      have hnl : ¬ wr.heap.size = l := by have := hll.bk.lt; omega
      clear hss hll hfr hW hsk
      by_cases hk2 : kd = 2
      · subst hk2
        have hag := again_any ka _ HSS.out
        unfold againF at hag
        by_cases hn : isNode ka = true
        · rw [if_pos hn] at hag
          obtain ⟨i, rfl, hi⟩ := node_of hn
          rw [Int.toNat_natCast] at hag
          clear hn
          go_wp2_with fail
          refine hag.mono ?_
          rintro e w3 ⟨rfl, s3, fr3⟩
          have b3 := HB.out.fr fr3 hns
          have y1 : w3.cell? ⟨wr.heap.size, 1, none⟩ = some (.int .i64 (i : Int)) := b3.cell 1
          have l3 := HLL.out.fr fr3 (fun e => hne e.symm)
          have hil : i < fs.length := by rw [l3.len]; exact hi
          have y2 := l3.cell hil
          have y3 := l3.bk.frozen i
          obtain ⟨r1, r2, r3⟩ := RIs.both (x := 0) s3 fr3 HLL.out HFR.out hne hsle hle2 rfl
          have H1 := Lib.hid r1
          have H2 := Lib.hid r2
          have H3 := Lib.hid r3
          have i1 : (i : Int) < 7 := by omega
          clear r1 r2 r3 s3 fr3 b3 l3 hag
          generalize fs[i] = old at *
          go_wp2_with fail
          go_roundg (ss.length - (k + 1))
          case measure => omega
          case rel => exact ⟨k + 1, _, by omega, rfl, by go_num, H1.out, H2.out, H3.out⟩
        · rw [if_neg hn] at hag
          clear hn
          go_wp2_with fail
          refine hag.mono ?_
          rintro e w3 ⟨rfl, s3, fr3⟩
          have H1 := Lib.hid s3
          have H2 := Lib.hid (HLL.out.fr fr3 (fun e => hne e.symm))
          have H3 := Lib.hid (HFR.out.join fr3 (fun j hj e => by omega))
          clear s3 fr3 hag
          go_wp2_with fail
          go_roundg (ss.length - (k + 1))
          case measure => omega
          case rel => exact ⟨k + 1, _, by omega, rfl, by go_num, H1.out, H2.out, H3.out⟩
      · have hk2' : (kd == 2) = false := by simp [hk2]
        have hrd := read_any ka kb _ HSS.out
        unfold readF at hrd
        by_cases hg : isNode ka = true ∧ 0 ≤ kb ∧ kb ≤ 1099511627776
        · rw [if_pos hg] at hrd
          obtain ⟨i, rfl, hi⟩ := node_of hg.1
          rw [Int.toNat_natCast] at hrd
          have hil : i < fs.length := by rw [HSS.out.len]; exact hi
          rw [List.getElem?_eq_getElem hil, Option.getD_some] at hrd
          by_cases hlow : kb < fs[i]
          · rw [if_pos hlow] at hrd
            have dge : decide (fs[i] ≤ kb) = false := decide_eq_false (by omega)
            clear hg
            go_wp2_with fail
            refine hrd.mono ?_
            rintro e w3 ⟨rfl, s3, fr3⟩
            have b3 := HB.out.fr fr3 hns
            have y1 : w3.cell? ⟨wr.heap.size, 1, none⟩ = some (.int .i64 (i : Int)) := b3.cell 1
            have y2 : w3.cell? ⟨wr.heap.size, 2, none⟩ = some (.int .i64 kb) := b3.cell 2
            have y3 := (HLL.out.fr fr3 (fun e => hne e.symm)).cell hil
            have H1 := Lib.hid s3
            have H2 := Lib.hid (HLL.out.fr fr3 (fun e => hne e.symm))
            have H3 := Lib.hid (HFR.out.join fr3 (fun j hj e => by omega))
            have i1 : (i : Int) < 7 := by omega
            clear s3 fr3 hrd b3 hlow
            generalize fs[i] = old at *
            go_wp2_with fail
            go_quiet (fail)
            go_wp2_with fail
            go_roundg (ss.length - (k + 1))
            case measure => omega
            case rel => exact ⟨k + 1, fs, by omega, rfl, by go_num, H1.out.fr ((Fr.refl NoB _).drewN _) (fun h => h), H2.out.fr ((Fr.refl NoB _).drewN _) (fun h => h), H3.out.drewN _⟩
          · rw [if_neg hlow] at hrd
            have dge : decide (fs[i] ≤ kb) = true := decide_eq_true (by omega)
            clear hg
            go_wp2_with fail
            refine hrd.mono ?_
            rintro e w3 ⟨rfl, s3, fr3⟩
            have b3 := HB.out.fr fr3 hns
            have y1 : w3.cell? ⟨wr.heap.size, 1, none⟩ = some (.int .i64 (i : Int)) := b3.cell 1
            have y2 : w3.cell? ⟨wr.heap.size, 2, none⟩ = some (.int .i64 kb) := b3.cell 2
            have l3 := HLL.out.fr fr3 (fun e => hne e.symm)
            have y3 := l3.cell hil
            have y4 := l3.bk.frozen i
            obtain ⟨r1, r2, r3⟩ := RIs.both (x := kb) s3 fr3 HLL.out HFR.out hne hsle hle2 rfl
            have H1 := Lib.hid r1
            have H2 := Lib.hid r2
            have H3 := Lib.hid r3
            have i1 : (i : Int) < 7 := by omega
            clear s3 fr3 hrd b3 hlow l3 r1 r2 r3
            generalize fs[i] = old at *
            go_wp2_with fail
            go_quiet (fail)
            go_wp2_with fail
            go_roundg (ss.length - (k + 1))
            case measure => omega
            case rel => exact ⟨k + 1, _, by omega, rfl, by go_num, H1.out.fr ((Fr.refl NoB _).drewN _) (fun h => h), H2.out.fr ((Fr.refl NoB _).drewN _) (fun h => h), H3.out.drewN _⟩
        · rw [if_neg hg] at hrd
          clear hg
          go_wp2_with fail
          refine hrd.mono ?_
          rintro e w3 ⟨rfl, s3, fr3⟩
          have H1 := Lib.hid s3
          have H2 := Lib.hid (HLL.out.fr fr3 (fun e => hne e.symm))
          have H3 := Lib.hid (HFR.out.join fr3 (fun j hj e => by omega))
          clear s3 fr3 hrd
          go_wp2_with fail
          go_roundg (ss.length - (k + 1))
          case measure => omega
          case rel => exact ⟨k + 1, _, by omega, rfl, by go_num, H1.out, H2.out, H3.out⟩
    · obtain rfl : k = ss.length := by omega
      go_wp2_with fail
      refine (speaks_any wr).mono ?_
      rintro e w9 ⟨rfl, fr9⟩
      go_wp2_with fail
      go_ret
      exact ⟨rfl, hfr.trans fr9⟩
end Go.Proofs.Ytjafjhaoogimcaa
