/- DiskLasts: the walk. -/
import Derived.Test.YtghddmdehbacaaaFirst
namespace Go.Proofs.Ytghddmdehbacaaa
open Go.RowKit

structure LW (w : World) (d x : Nat) (s : List UInt8) (las : List (List UInt8)) (q : List (Nat × List UInt8)) (k : Nat) (S : Nat → Prop) (wr : World) : Prop where
  dk : DiskAt wr S d las q
  get : las[3]? = some s
  no3 : ∀ p ∈ q, p.1 ≠ 3
  few : q.length ≤ k
  up : Up w.heap.size S
  fr : Fr NoB w wr
  rd : Rd wr (fun j => j = x) 1 (some ⟨x, 0, none⟩) 256 256 (bv s)
  nx : ∀ j, S j → j ≠ x

def LWs (ss : List StepS) (w : World) (d x : Nat) (s : List UInt8) (g : Nat) (v57 : Value) (wr : World) : Prop :=
  ∃ (k : Nat) (S : Nat → Prop) (las : List (List UInt8)) (q : List (Nat × List UInt8)), k ≤ ss.length ∧ g = ss.length - k ∧ v57 = .int .i64 k ∧ LW w d x s las q k S wr

theorem LW.keep {w wr W : World} {d x : Nat} {s : List UInt8} {las : List (List UInt8)} {q : List (Nat × List UInt8)} {k : Nat} {S : Nat → Prop} (h : LW w d x s las q k S wr) (hf : Fr NoB wr W) : LW w d x s las q k S W :=
  ⟨h.dk.fr hf (fun _ _ h => h), h.get, h.no3, h.few, h.up, h.fr.trans hf, h.rd.fr hf (fun _ _ _ h => h), h.nx⟩
theorem LW.more {w wr : World} {d x : Nat} {s : List UInt8} {las : List (List UInt8)} {q : List (Nat × List UInt8)} {k : Nat} {S : Nat → Prop} (h : LW w d x s las q k S wr) : LW w d x s las q (k + 1) S wr :=
  ⟨h.dk, h.get, h.no3, by have := h.few; omega, h.up, h.fr, h.rd, h.nx⟩
theorem LW.turn {w W w2 : World} {d x : Nat} {s : List UInt8} {las las' : List (List UInt8)} {q q' : List (Nat × List UInt8)} {k : Nat} {S S2 : Nat → Prop} (h : LW w d x s las q k S W)
    (hd : DiskAt w2 S2 d las' q') (hf : Fr S W w2) (hg : Gr S S2 W) (h3 : las'[3]? = las[3]?) (hn : ∀ p ∈ q', p.1 ≠ 3) (hl : q'.length ≤ k + 1) : LW w d x s las' q' (k + 1) S2 w2 := by
  have hx : x < W.heap.size := (h.rd.2.2.2.2 _ rfl (by omega)).2.1
  refine ⟨hd, h3.trans h.get, hn, hl, hg.up h.up h.fr.size, h.fr.up hf h.up, h.rd.fr hf (fun j _ hj hs => by subst hj; exact h.nx _ hs rfl), fun j hj e => ?_⟩
  rcases hg j hj with h' | h'
  · exact h.nx j h' e
  · omega
theorem writeF_no3 {m : Nat} {q : List (Nat × List UInt8)} {i : Int} {b : List UInt8} (h : ∀ p ∈ q, p.1 ≠ 3) (hi : i ≠ 3) : (∀ p ∈ (writeF m q i b).2, p.1 ≠ 3) ∧ (writeF m q i b).2.length ≤ q.length + 1 := by
  unfold writeF
  by_cases h1 : hasB m i = true
  · rw [if_pos h1]
    by_cases h2 : 256 < b.length
    · rw [if_pos h2]
      exact ⟨h, by simp⟩
    · rw [if_neg h2]
      refine ⟨fun p hp => ?_, by simp⟩
      rcases List.mem_append.1 hp with h' | h'
      · exact h p h'
      · simp only [List.mem_singleton] at h'
        subst h'
        have := of_decide_eq_true h1
        simp only []
        omega
  · rw [if_neg h1]
    exact ⟨h, by simp⟩
theorem crashF_no3 {las : List (List UInt8)} {q : List (Nat × List UInt8)} {keep torn : Int} (h : ∀ p ∈ q, p.1 ≠ 3) : (crashF las q keep torn).2.1[3]? = las[3]? ∧ (∀ p ∈ (crashF las q keep torn).2.2, p.1 ≠ 3) ∧ (crashF las q keep torn).2.2.length ≤ q.length := by
  unfold crashF
  split
  · refine ⟨?_, by simp, by simp⟩
    simp only []
    unfold las2F
    rw [tornF_get_not h, apply_get_not fun p hp => h p (List.mem_of_mem_take hp)]
  · exact ⟨rfl, h, Nat.le_refl _⟩

set_option maxHeartbeats 8000000 in
set_option maxRecDepth 100000 in
theorem lastsLaw_any (B : Option Addr) (cb : Nat) (bb : List UInt8) (A : Option Addr) (c : Nat) (ss : List StepS) (w : World) (hB : Rd w (fun k => k < w.heap.size) 1 B bb.length cb (bv bb)) (h : StepsIn w w.heap.size A c ss) (hss : ss.length ≤ 1048576) :
    Calls Try.prog 5 #[.slice B bb.length cb, .slice A ss.length c] w (LawPost w) := by
  go_enter Try.func5, Try.ntmps5
  go_wp2_with fail
  refine (new_any 8 _).mono ?_
  rintro e w1 (⟨_, _, d, S, hd, rfl, dk1, up1, fr1⟩ | ⟨hno, _⟩)
  rotate_left
  · omega
  go_wp2_with fail
  refine (write_any 3 B cb bb w1 dk1 (hB.fr fr1 (fun _ _ _ h => h)) (by simp)).mono ?_
  have hz8 : (zeros (Int.toNat 8)).length = 8 := zeros_len 8
  rw [hz8]
  by_cases hlen : bb.length ≤ 256
  rotate_left
  · have hF : writeF 8 [] 3 bb = (2, []) := by
      unfold writeF
      rw [if_pos (show hasB 8 3 = true from rfl), if_pos (by omega)]
    rw [hF]
    have dlen : decide (256 < (bb.length : Int)) = true := decide_eq_true (by omega)
    rintro e w2 ⟨S2, rfl, dk2, fr2, gr2⟩
    have fw2 := fr1.up fr2 up1
    go_wp2_with fail
    refine (speaks_any _).mono ?_
    rintro e w3 ⟨rfl, fr3⟩
    go_wp2_with fail
    go_ret
    exact ⟨rfl, fw2.trans fr3⟩
  have hF : writeF 8 [] 3 bb = (0, [(3, full bb)]) := by
    unfold writeF
    rw [if_pos (show hasB 8 3 = true from rfl), if_neg (by omega)]
    rfl
  rw [hF]
  rintro e w2 ⟨S2, rfl, dk2, fr2, gr2⟩
  have fw2 := fr1.up fr2 up1
  have up2 := gr2.up up1 fr1.size
  go_wp2_with fail
  refine (sync_any w2 dk2 (by simp)).mono ?_
  rintro e w3 ⟨S3, rfl, dk3, fr3, gr3⟩
  have fw3 := fw2.up fr3 up2
  have up3 := gr3.up up2 fw2.size
  have hget : (apply [(3, full bb)] (zeros (Int.toNat 8)))[3]? = some (full bb) := by
    show ((zeros 8).set 3 (full bb))[3]? = some (full bb)
    rw [List.getElem?_set_self (by rw [zeros_len]; omega)]
  go_wp2_with fail
  refine (lasts_some 3 (full bb) w3 dk3 hget).mono ?_
  rintro e w4 ⟨x, hx, rfl, rdx, fr4⟩
  have hW0 : LW w d x (full bb) (apply [(3, full bb)] (zeros (Int.toNat 8))) [] 0 S3 w4 :=
    ⟨dk3.fr fr4 (fun _ _ h => h), hget, by simp, by simp, up3, fw3.trans fr4, rdx, fun j hj e => by have := dk3.lt j hj; omega⟩
  have hsl : (full bb).length = 256 := full_len hlen
  have HSL := Lib.hid hsl
  have HN : Hid (LWs ss w d x (full bb) ss.length (.int .i64 (0 : Nat)) w4) := ⟨0, S3, _, [], Nat.zero_le _, rfl, rfl, hW0⟩
  clear hW0 dk1 dk2 dk3 up1 up2 up3 fr1 fr2 fr3 fr4 fw2 fw3 gr2 gr3 hget rdx hx hF hlen hsl
  generalize full bb = s at *
  go_wp2_with fail
  go_loopg [57] ss.length (fun g v57 wr => LWs ss w d x s g v57 wr)
  case atStart => exact HN
  case round =>
    obtain ⟨k, S, las, q, hk, rfl, rfl, hw⟩ := hrel
    by_cases hlt : k < ss.length
    · obtain ⟨b, off, A', c', kd, ka, kc, kb, hsk, rfl, x0, x1, x2, x3, hrd⟩ := (h.fr hw.fr).step hlt
      have hW : Fr NoB wr (wr.alloc (.cells #[.int .i64 kd, .int .i64 ka, .int .i64 kc, .slice A' kb.length c'] 29)) := (Fr.refl _ _).alloc _
      clear hsk
      have HW := Lib.hid (hw.keep hW)
      have hrW := Lib.hid (hrd.fr hW (fun _ _ _ h => h))
      have hfew := hw.few
      clear hw hrd
      by_cases hk0 : kd = 0
      · subst hk0
        by_cases h3 : ka = 3
        · subst h3
          go_wp2_with fail
          have HX := Lib.hid (HW.out.more)
          refine (lasts_some 3 s _ HX.out.dk HX.out.get).mono ?_
          rintro e w5 ⟨y, hy, rfl, rdy, fr5⟩
          have HX5 := Lib.hid (HX.out.keep fr5)
          go_wp2_with fail
          refine (read_some 3 s w5 HX5.out.dk ((apply_get_not HX5.out.no3).trans HX5.out.get)).mono ?_
          rintro e w6 ⟨y', hy', rfl, rdy', fr6⟩
          have HX6 := Lib.hid (HX5.out.keep fr6)
          have cx := run_conv_rd w6 27 9 5 Try.underlying27 Try.underlying5 Try.underlying9 s (by rw [HSL.out]; exact rdy.fr fr6 (fun _ _ _ h => h))
          have cy := run_conv_rd w6 27 9 5 Try.underlying27 Try.underlying5 Try.underlying9 s (by rw [HSL.out]; exact rdy')
          have cz := run_conv_rd w6 27 9 5 Try.underlying27 Try.underlying5 Try.underlying9 s (by rw [HSL.out]; exact HX6.out.rd)
          rw [HSL.out] at cx cy cz
          clear rdy rdy' fr5 fr6
          go_wp2_with fail
          go_roundg (ss.length - (k + 1))
          case measure => omega
          case rel => exact ⟨k + 1, _, _, _, by omega, rfl, by go_num, HX6.out⟩
        · have h3' : (ka != 3) = true := by simp [h3]
          have hwa := Lib.hid (write_any ka A' c' kb _ HW.out.dk hrW.out (by omega))
          have hno := writeF_no3 (m := las.length) (b := kb) HW.out.no3 h3
          have HNO := Lib.hid hno
          clear hno
          go_wp2_with fail
          refine hwa.out.mono ?_
          generalize writeF las.length q ka kb = r at *
          rintro e w3 ⟨S3, rfl, dk3, fr3, gr3⟩
          have HT := Lib.hid (LW.turn HW.out dk3 fr3 gr3 rfl HNO.out.1 (by have := HNO.out.2; omega))
          clear dk3 fr3 gr3
          go_wp2_with fail
          have HX := Lib.hid (HT.out)
          refine (lasts_some 3 s _ HX.out.dk HX.out.get).mono ?_
          rintro e w5 ⟨y, hy, rfl, rdy, fr5⟩
          have HX5 := Lib.hid (HX.out.keep fr5)
          go_wp2_with fail
          refine (read_some 3 s w5 HX5.out.dk ((apply_get_not HX5.out.no3).trans HX5.out.get)).mono ?_
          rintro e w6 ⟨y', hy', rfl, rdy', fr6⟩
          have HX6 := Lib.hid (HX5.out.keep fr6)
          have cx := run_conv_rd w6 27 9 5 Try.underlying27 Try.underlying5 Try.underlying9 s (by rw [HSL.out]; exact rdy.fr fr6 (fun _ _ _ h => h))
          have cy := run_conv_rd w6 27 9 5 Try.underlying27 Try.underlying5 Try.underlying9 s (by rw [HSL.out]; exact rdy')
          have cz := run_conv_rd w6 27 9 5 Try.underlying27 Try.underlying5 Try.underlying9 s (by rw [HSL.out]; exact HX6.out.rd)
          rw [HSL.out] at cx cy cz
          clear rdy rdy' fr5 fr6
          go_wp2_with fail
          go_roundg (ss.length - (k + 1))
          case measure => omega
          case rel => exact ⟨k + 1, _, _, _, by omega, rfl, by go_num, HX6.out⟩
      · have hk0' : (kd == 0) = false := by simp [hk0]
        by_cases hk1 : kd = 1
        · subst hk1
          have hsy := Lib.hid (sync_any _ HW.out.dk (by omega))
          go_wp2_with fail
          refine hsy.out.mono ?_
          rintro e w3 ⟨S3, rfl, dk3, fr3, gr3⟩
          have HT := Lib.hid (LW.turn HW.out dk3 fr3 gr3 (apply_get_not HW.out.no3) (by simp) (by simp))
          clear dk3 fr3 gr3
          go_wp2_with fail
          have HX := Lib.hid (HT.out)
          refine (lasts_some 3 s _ HX.out.dk HX.out.get).mono ?_
          rintro e w5 ⟨y, hy, rfl, rdy, fr5⟩
          have HX5 := Lib.hid (HX.out.keep fr5)
          go_wp2_with fail
          refine (read_some 3 s w5 HX5.out.dk ((apply_get_not HX5.out.no3).trans HX5.out.get)).mono ?_
          rintro e w6 ⟨y', hy', rfl, rdy', fr6⟩
          have HX6 := Lib.hid (HX5.out.keep fr6)
          have cx := run_conv_rd w6 27 9 5 Try.underlying27 Try.underlying5 Try.underlying9 s (by rw [HSL.out]; exact rdy.fr fr6 (fun _ _ _ h => h))
          have cy := run_conv_rd w6 27 9 5 Try.underlying27 Try.underlying5 Try.underlying9 s (by rw [HSL.out]; exact rdy')
          have cz := run_conv_rd w6 27 9 5 Try.underlying27 Try.underlying5 Try.underlying9 s (by rw [HSL.out]; exact HX6.out.rd)
          rw [HSL.out] at cx cy cz
          clear rdy rdy' fr5 fr6
          go_wp2_with fail
          go_roundg (ss.length - (k + 1))
          case measure => omega
          case rel => exact ⟨k + 1, _, _, _, by omega, rfl, by go_num, HX6.out⟩
        · have hk1' : (kd == 1) = false := by simp [hk1]
          have hcr := Lib.hid (crash_any ka kc _ HW.out.dk (by omega))
          have HNO := Lib.hid (crashF_no3 (las := las) (keep := ka) (torn := kc) HW.out.no3)
          go_wp2_with fail
          refine hcr.out.mono ?_
          generalize crashF las q ka kc = r at *
          rintro e w3 ⟨S3, rfl, dk3, fr3, gr3⟩
          have HT := Lib.hid (LW.turn HW.out dk3 fr3 gr3 HNO.out.1 HNO.out.2.1 (by have := HNO.out.2.2; omega))
          clear dk3 fr3 gr3
          go_wp2_with fail
          have HX := Lib.hid (HT.out)
          refine (lasts_some 3 s _ HX.out.dk HX.out.get).mono ?_
          rintro e w5 ⟨y, hy, rfl, rdy, fr5⟩
          have HX5 := Lib.hid (HX.out.keep fr5)
          go_wp2_with fail
          refine (read_some 3 s w5 HX5.out.dk ((apply_get_not HX5.out.no3).trans HX5.out.get)).mono ?_
          rintro e w6 ⟨y', hy', rfl, rdy', fr6⟩
          have HX6 := Lib.hid (HX5.out.keep fr6)
          have cx := run_conv_rd w6 27 9 5 Try.underlying27 Try.underlying5 Try.underlying9 s (by rw [HSL.out]; exact rdy.fr fr6 (fun _ _ _ h => h))
          have cy := run_conv_rd w6 27 9 5 Try.underlying27 Try.underlying5 Try.underlying9 s (by rw [HSL.out]; exact rdy')
          have cz := run_conv_rd w6 27 9 5 Try.underlying27 Try.underlying5 Try.underlying9 s (by rw [HSL.out]; exact HX6.out.rd)
          rw [HSL.out] at cx cy cz
          clear rdy rdy' fr5 fr6
          go_wp2_with fail
          go_roundg (ss.length - (k + 1))
          case measure => omega
          case rel => exact ⟨k + 1, _, _, _, by omega, rfl, by go_num, HX6.out⟩
    · obtain rfl : k = ss.length := by omega
      go_wp2_with fail
      refine (speaks_any wr).mono ?_
      rintro e w9 ⟨rfl, fr9⟩
      go_wp2_with fail
      go_ret
      exact ⟨rfl, hw.fr.trans fr9⟩
end Go.Proofs.Ytghddmdehbacaaa
