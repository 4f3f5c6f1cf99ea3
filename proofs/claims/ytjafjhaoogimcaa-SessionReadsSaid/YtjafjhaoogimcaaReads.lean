/- SessionReads: the document's session, the walk. -/
import Derived.Test.YtjafjhaoogimcaaStepsIn
namespace Go.Proofs.Ytjafjhaoogimcaa
open Go.RowKit

theorem refRead_any {s : Nat} {fs : List Int} (i p : Int) (w : World) (h : SessAt w 48 s fs) :
    Calls Try.prog 24 #[.pointer (some ⟨s, 0, none⟩), .int .i64 i, .int .i64 p] w (ReadPost 48 s (readF fs i p) w) := by
  have H := Lib.hid h
  unfold readF
  by_cases hi : isNode i = true
  rotate_left
  · rw [if_neg (fun hh => hi hh.1)]
    have hi' := of_decide_eq_false (by simpa using hi : isNode i = false)
    clear h hi
    by_cases h0 : i < 0
    · go_enter Try.func24, Try.ntmps24
      go_wp2_with fail
      go_ret2
      exact ⟨rfl, H.out, Fr.refl _ _⟩
    · have h6 : 6 < i := by omega
      go_enter Try.func24, Try.ntmps24
      go_wp2_with fail
      go_ret2
      exact ⟨rfl, H.out, Fr.refl _ _⟩
  obtain ⟨k, rfl, hk⟩ := node_of hi
  have d1 : decide ((k : Int) < 0) = false := decide_eq_false (by omega)
  have d2 : decide (6 < (k : Int)) = false := decide_eq_false (by omega)
  by_cases h1 : p < 0
  · rw [if_neg (by omega)]
    clear h hi
    go_enter Try.func24, Try.ntmps24
    go_wp2_with fail
    go_ret2
    exact ⟨rfl, H.out, Fr.refl _ _⟩
  by_cases h2 : 1099511627776 < p
  · rw [if_neg (by omega)]
    clear h hi
    go_enter Try.func24, Try.ntmps24
    go_wp2_with fail
    go_ret2
    exact ⟨rfl, H.out, Fr.refl _ _⟩
  rw [if_pos ⟨hi, by omega, by omega⟩, Int.toNat_natCast]
  have hkl : k < fs.length := by rw [h.len]; exact hk
  have c0 := h.cell hkl
  rw [List.getElem?_eq_getElem hkl, Option.getD_some]
  have i1 : (k : Int) < 7 := by omega
  obtain ⟨s1, s2⟩ := h.set k p
  have H1 := Lib.hid s1
  have H2 := Lib.hid s2
  have f0 := h.bk.frozen k
  clear h hi s1 s2
  generalize fs[k] = x at *
  by_cases h3 : p < x
  · rw [if_pos h3]
    go_enter Try.func24, Try.ntmps24
    go_wp2_with fail
    go_ret2
    exact ⟨rfl, H.out, Fr.refl _ _⟩
  · rw [if_neg h3]
    have h3' : decide (p < x) = false := decide_eq_false h3
    go_enter Try.func24, Try.ntmps24
    go_wp2_with fail
    go_ret2
    exact ⟨rfl, H1.out, H2.out⟩

theorem refAgain_any {s : Nat} {fs : List Int} (i : Int) (w : World) (h : SessAt w 48 s fs) :
    Calls Try.prog 22 #[.pointer (some ⟨s, 0, none⟩), .int .i64 i] w (AgainPost 48 s (againF fs i) w) := by
  have H := Lib.hid h
  unfold againF
  by_cases hi : isNode i = true
  · rw [if_pos hi]
    obtain ⟨k, rfl, hk⟩ := node_of hi
    have hkl : k < fs.length := by rw [h.len]; exact hk
    have c0 := h.cell hkl
    have f0 := h.bk.frozen k
    have i1 : (k : Int) < 7 := by omega
    have d1 : decide ((k : Int) < 0) = false := decide_eq_false (by omega)
    have d2 : decide (6 < (k : Int)) = false := decide_eq_false (by omega)
    rw [Int.toNat_natCast]
    obtain ⟨s1, s2⟩ := h.set k 0
    have H1 := Lib.hid s1
    have H2 := Lib.hid s2
    clear h hi s1 s2
    generalize fs[k] = x at *
    go_enter Try.func22, Try.ntmps22
    go_wp2_with fail
    go_ret
    exact ⟨rfl, H1.out, H2.out⟩
  · rw [if_neg hi]
    have hi' := of_decide_eq_false (by simpa using hi : isNode i = false)
    clear h hi
    by_cases h0 : i < 0
    · go_enter Try.func22, Try.ntmps22
      go_wp2_with fail
      go_ret
      exact ⟨rfl, H.out, Fr.refl _ _⟩
    · have h6 : 6 < i := by omega
      go_enter Try.func22, Try.ntmps22
      go_wp2_with fail
      go_ret
      exact ⟨rfl, H.out, Fr.refl _ _⟩

def RDs (ss : List Step3) (w : World) (s p : Nat) (n : Nat) (v19 : Value) (wr : World) : Prop :=
  ∃ (k : Nat) (fs : List Int), k ≤ ss.length ∧ n = ss.length - k ∧ v19 = .int .i64 k ∧ SessAt wr 64 s fs ∧ SessAt wr 48 p fs ∧ Fr NoB w wr

set_option maxHeartbeats 8000000 in
set_option maxRecDepth 100000 in
theorem reads_any (A : Option Addr) (c : Nat) (ss : List Step3) (w : World) (h : StepsIn w w.heap.size A c ss) :
    Calls Try.prog 5 #[.slice A ss.length c] w (LawPost w) := by
  have hsl : ss.length ≤ 9223372036854775807 := by have := h.1.2.1; have := h.1.2.2.1; simp only [maxLen] at this; omega
  go_enter Try.func5, Try.ntmps5
  go_wp2_with fail
  refine (begin_any _).mono ?_
  rintro e w1 ⟨rfl, s1, fr1⟩
  have hz1 := s1.bk.lt
  have hk2 : Fr NoB w1 (w1.alloc (.cells #[.int .i64 0, .int .i64 0, .int .i64 0, .int .i64 0, .int .i64 0, .int .i64 0, .int .i64 0] 48)) := (Fr.refl _ _).alloc _
  have hb2 : SessAt (w1.alloc (.cells #[.int .i64 0, .int .i64 0, .int .i64 0, .int .i64 0, .int .i64 0, .int .i64 0, .int .i64 0] 48)) 48 w1.heap.size zero7 := ⟨Bk.new _ _ _, rfl⟩
  have HN : Hid (RDs ss w w.heap.size w1.heap.size ss.length (.int .i64 (0 : Nat)) (w1.alloc (.cells #[.int .i64 0, .int .i64 0, .int .i64 0, .int .i64 0, .int .i64 0, .int .i64 0, .int .i64 0] 48))) :=
    ⟨0, zero7, Nat.zero_le _, rfl, rfl, s1.fr hk2 (fun h => h), hb2, fr1.trans hk2⟩
  have hne : w.heap.size ≠ w1.heap.size := by omega
  have hle : w.heap.size ≤ w.heap.size := Nat.le_refl _
  have hle2 : w.heap.size ≤ w1.heap.size := by omega
  clear s1 hk2 hb2 fr1 hz1
  obtain ⟨s, hs⟩ : ∃ s, s = w.heap.size := ⟨_, rfl⟩
  rw [← hs] at HN hne ⊢
  have hsle : w.heap.size ≤ s := by omega
  clear hs hle
  go_wp2_with fail
  generalize w1.alloc (.cells #[.int .i64 0, .int .i64 0, .int .i64 0, .int .i64 0, .int .i64 0, .int .i64 0, .int .i64 0] 48) = w2 at *
  generalize w1.heap.size = p at *
  go_loopg [19] ss.length (fun n v19 wr => RDs ss w s p n v19 wr)
  case atStart => exact HN.out
  case round =>
    obtain ⟨k, fs, hk, rfl, rfl, hss, hpp, hfr⟩ := hrel
    by_cases hlt : k < ss.length
    · obtain ⟨b, off, kd, ka, kb, hsk, rfl, x0, x1, x2, o1, o2, o3⟩ := (h.fr hfr).step hlt
      have hW : Fr NoB wr (wr.alloc (.cells #[.int .i64 kd, .int .i64 ka, .int .i64 kb] 50)) := (Fr.refl _ _).alloc _
      have HSS0 := Lib.hid (hss.fr hW (fun h => h))
      have HPP0 := Lib.hid (hpp.fr hW (fun h => h))
      have HFR0 := Lib.hid (hfr.trans hW)
      have HB := Lib.hid (Bk.new wr 50 #[.int .i64 kd, .int .i64 ka, .int .i64 kb])
      have hns : ¬ wr.heap.size = s := by have := hss.bk.lt; omega
      have hnp : ¬ wr.heap.size = p := by have := hpp.bk.lt; omega
      clear hss hpp hfr hW hsk
      by_cases hk2 : kd = 2
      · subst hk2
        go_wp2_with fail
        have d1 : (wr.alloc (.cells #[.int .i64 2, .int .i64 ka, .int .i64 kb] 50)).cell? ⟨wr.heap.size, 1, none⟩ = some (.int .i64 ka) := HB.out.cell 1
        generalize hWW : wr.alloc (.cells #[.int .i64 2, .int .i64 ka, .int .i64 kb] 50) = WW at *
        clear hWW
        refine wp_region_plan 9 (fun w' => w'.cell? ⟨wr.heap.size, 1, none⟩ = some (.int .i64 ka)) [(0, 0), (1, 0), (2, 1), (4, 0), (5, 0), (6, 1), (3, 2), (7, 2), (8, 0)] (by kernel_rfl) (by kernel_rfl) (fun _ _ _ _ _ h => h) d1 ?_
        refine wpPlan_free _ ?_ rfl (by rfl) (fun w' => ?_) ?_
        rotate_left
        · go_simp; with_reducible rfl
        simp only [Act.put, List.setIfInBounds_toArray, List.set_cons_zero, List.set_cons_succ]
        refine wpPlan_free _ ?_ rfl (by rfl) (fun w' => ?_) ?_
        rotate_left
        · go_simp; with_reducible rfl
        simp only [Act.put, List.setIfInBounds_toArray, List.set_cons_zero, List.set_cons_succ]
        refine wpPlan_held _ ?_ rfl (by rfl) (fun w' hS => ?_) ?_
        rotate_left
        · have e0 := hS; go_simp; with_reducible rfl
        simp only [Act.put, List.setIfInBounds_toArray, List.set_cons_zero, List.set_cons_succ]
        refine wpPlan_free _ ?_ rfl (by rfl) (fun w' => ?_) ?_
        rotate_left
        · go_simp; with_reducible rfl
        simp only [Act.put, List.setIfInBounds_toArray, List.set_cons_zero, List.set_cons_succ]
        refine wpPlan_free _ ?_ rfl (by rfl) (fun w' => ?_) ?_
        rotate_left
        · go_simp; with_reducible rfl
        simp only [Act.put, List.setIfInBounds_toArray, List.set_cons_zero, List.set_cons_succ]
        refine wpPlan_held _ ?_ rfl (by rfl) (fun w' hS => ?_) ?_
        rotate_left
        · have e0 := hS; go_simp; with_reducible rfl
        simp only [Act.put, List.setIfInBounds_toArray, List.set_cons_zero, List.set_cons_succ]
        refine wpPlan_do _ rfl (fun K hK => ?_)
        go_simp
        refine (again_any ka _ (HSS0.out.fr ((Fr.refl NoB _).drew) (fun h => h))).mono ?_
        rintro e w3 ⟨rfl, s3, fr3⟩
        have fr3' : Fr (fun j => j = s) WW w3 := ((Fr.refl (fun j => j = s) _).drew).trans fr3
        have b3 := HB.out.fr fr3' hns
        have y1 : w3.cell? ⟨wr.heap.size, 1, none⟩ = some (.int .i64 ka) := b3.cell 1
        refine hK _ _ (fun _ => y1) ?_
        clear hK K
        refine wpPlan_do _ rfl (fun K hK => ?_)
        go_simp
        refine (refAgain_any ka _ (HPP0.out.fr fr3' (fun e => hne e.symm))).mono ?_
        rintro e w4 ⟨rfl, p4, fr4⟩
        have y2 := fr4.cell_some y1 hnp
        refine hK _ _ (fun _ => y2) ?_
        clear hK K
        refine wpPlan_free _ ?_ rfl (by rfl) (fun w' => ?_) ?_
        rotate_left
        · go_simp; with_reducible rfl
        simp only [Act.put, List.setIfInBounds_toArray, List.set_cons_zero, List.set_cons_succ]
        refine wpPlan_nil ?_
        have HSS := Lib.hid (s3.fr fr4 hne)
        have HPP := Lib.hid p4
        have HFR := Lib.hid ((HFR0.out.join fr3' (fun j hj e => by omega)).join fr4 (fun j hj e => by omega))
        clear s3 p4 fr3 fr3' fr4 b3 y1
        generalize againF fs ka = r at *
        by_cases hn : isNode ka = true
        · obtain ⟨i, rfl, hi⟩ := node_of hn
          have hil : i < (r.2).length := by rw [HSS.out.len]; exact hi
          have z1 := HPP.out.cell hil
          have kf := floor_any (i : Int) w4 HSS.out
          have e1 : floorF (r.2) (i : Int) = (r.2)[i] := by
            unfold floorF
            rw [if_pos hn, Int.toNat_natCast, List.getElem?_eq_getElem hil, Option.getD_some]
          rw [e1] at kf
          have i1 : (i : Int) < 7 := by omega
          have i2 : (0 : Int) ≤ (i : Int) := by omega
          have KF : ∀ n, Calls Try.prog 25 #[.pointer (some ⟨s, 0, none⟩), .int .i64 (i : Int)] (w4.drewN n) fun e w' => e = .returned (.int .i64 (r.2)[i]) ∧ w4.drewN n = w' := fun n => by
            have := floor_any (i : Int) (w4.drewN n) (HSS.out.fr ((Fr.refl NoB _).drewN n) (fun h => h))
            rwa [e1] at this
          clear hn kf e1
          generalize (r.2)[i] = old at *
          go_wp2_with fail
          go_quiet (fail)
          go_wp2_with fail
          refine (KF _).mono ?_
          rintro e w' ⟨rfl, rfl⟩
          go_wp2_with fail
          go_roundg (ss.length - (k + 1))
          case measure => omega
          case rel => exact ⟨k + 1, _, by omega, rfl, by go_num, HSS.out.fr ((Fr.refl NoB _).drewN _) (fun h => h), HPP.out.fr ((Fr.refl NoB _).drewN _) (fun h => h), HFR.out.drewN _⟩
        · have kf := floor_any ka w4 HSS.out
          have e1 : floorF (r.2) ka = 0 := by
            unfold floorF
            rw [if_neg hn]
          rw [e1] at kf
          have hn' := of_decide_eq_false (by simpa using hn : isNode ka = false)
          clear hn e1
          by_cases h0 : 0 ≤ ka
          · have d1 : decide (0 ≤ ka) = true := decide_eq_true h0
            have d2 : decide (ka < 7) = false := decide_eq_false (by omega)
            go_wp2_with fail
            refine kf.mono ?_
            rintro e w' ⟨rfl, rfl⟩
            go_wp2_with fail
            go_roundg (ss.length - (k + 1))
            case measure => omega
            case rel => exact ⟨k + 1, _, by omega, rfl, by go_num, HSS.out, HPP.out, HFR.out⟩
          · have d1 : decide (0 ≤ ka) = false := decide_eq_false h0
            go_wp2_with fail
            refine kf.mono ?_
            rintro e w' ⟨rfl, rfl⟩
            go_wp2_with fail
            go_roundg (ss.length - (k + 1))
            case measure => omega
            case rel => exact ⟨k + 1, _, by omega, rfl, by go_num, HSS.out, HPP.out, HFR.out⟩
      · have hk2' : (kd == 2) = false := by simp [hk2]
        go_wp2_with fail
        refine (read_any ka kb _ HSS0.out).mono ?_
        rintro e w3 ⟨rfl, s3, fr3⟩
        have b3 := HB.out.fr fr3 hns
        have q1 : w3.cell? ⟨wr.heap.size, 1, none⟩ = some (.int .i64 ka) := b3.cell 1
        have q2 : w3.cell? ⟨wr.heap.size, 2, none⟩ = some (.int .i64 kb) := b3.cell 2
        have p3 := HPP0.out.fr fr3 (fun e => hne e.symm)
        have HS3 := Lib.hid s3
        have HF3 := Lib.hid fr3
        have HB3 := Lib.hid b3
        clear s3 fr3 b3
        go_wp2_with fail
        refine (refRead_any ka kb _ p3).mono ?_
        rintro e w4 ⟨rfl, p4, fr4⟩
        have HSS := Lib.hid (HS3.out.fr fr4 hne)
        have HPP := Lib.hid p4
        have HFR := Lib.hid ((HFR0.out.join HF3.out (fun j hj e => by omega)).join fr4 (fun j hj e => by omega))
        have y2 : w4.cell? ⟨wr.heap.size, 1, none⟩ = some (.int .i64 ka) := (HB3.out.fr fr4 hnp).cell 1
        clear p4 fr4 p3 q1 q2 HS3 HF3 HB3
        generalize readF fs ka kb = r at *
        by_cases hn : isNode ka = true
        · obtain ⟨i, rfl, hi⟩ := node_of hn
          have hil : i < (r.2.2).length := by rw [HSS.out.len]; exact hi
          have z1 := HPP.out.cell hil
          have kf := floor_any (i : Int) w4 HSS.out
          have e1 : floorF (r.2.2) (i : Int) = (r.2.2)[i] := by
            unfold floorF
            rw [if_pos hn, Int.toNat_natCast, List.getElem?_eq_getElem hil, Option.getD_some]
          rw [e1] at kf
          have i1 : (i : Int) < 7 := by omega
          have i2 : (0 : Int) ≤ (i : Int) := by omega
          have KF : ∀ n, Calls Try.prog 25 #[.pointer (some ⟨s, 0, none⟩), .int .i64 (i : Int)] (w4.drewN n) fun e w' => e = .returned (.int .i64 (r.2.2)[i]) ∧ w4.drewN n = w' := fun n => by
            have := floor_any (i : Int) (w4.drewN n) (HSS.out.fr ((Fr.refl NoB _).drewN n) (fun h => h))
            rwa [e1] at this
          clear hn kf e1
          generalize (r.2.2)[i] = old at *
          go_wp2_with fail
          go_quiet (fail)
          go_wp2_with fail
          refine (KF _).mono ?_
          rintro e w' ⟨rfl, rfl⟩
          go_wp2_with fail
          go_roundg (ss.length - (k + 1))
          case measure => omega
          case rel => exact ⟨k + 1, _, by omega, rfl, by go_num, HSS.out.fr ((Fr.refl NoB _).drewN _) (fun h => h), HPP.out.fr ((Fr.refl NoB _).drewN _) (fun h => h), HFR.out.drewN _⟩
        · have kf := floor_any ka w4 HSS.out
          have e1 : floorF (r.2.2) ka = 0 := by
            unfold floorF
            rw [if_neg hn]
          rw [e1] at kf
          have hn' := of_decide_eq_false (by simpa using hn : isNode ka = false)
          clear hn e1
          by_cases h0 : 0 ≤ ka
          · have d1 : decide (0 ≤ ka) = true := decide_eq_true h0
            have d2 : decide (ka < 7) = false := decide_eq_false (by omega)
            go_wp2_with fail
            refine kf.mono ?_
            rintro e w' ⟨rfl, rfl⟩
            go_wp2_with fail
            go_roundg (ss.length - (k + 1))
            case measure => omega
            case rel => exact ⟨k + 1, _, by omega, rfl, by go_num, HSS.out, HPP.out, HFR.out⟩
          · have d1 : decide (0 ≤ ka) = false := decide_eq_false h0
            go_wp2_with fail
            refine kf.mono ?_
            rintro e w' ⟨rfl, rfl⟩
            go_wp2_with fail
            go_roundg (ss.length - (k + 1))
            case measure => omega
            case rel => exact ⟨k + 1, _, by omega, rfl, by go_num, HSS.out, HPP.out, HFR.out⟩
    · obtain rfl : k = ss.length := by omega
      go_wp2_with fail
      refine (speaks_any wr).mono ?_
      rintro e w9 ⟨rfl, fr9⟩
      go_wp2_with fail
      go_ret
      exact ⟨rfl, hfr.trans fr9⟩
end Go.Proofs.Ytjafjhaoogimcaa
