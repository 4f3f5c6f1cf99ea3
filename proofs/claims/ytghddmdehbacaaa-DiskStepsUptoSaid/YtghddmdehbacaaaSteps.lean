/- DiskSteps: the walk. -/
import Derived.Test.YtghddmdehbacaaaRefCrash
namespace Go.Proofs.Ytghddmdehbacaaa
open Go.RowKit

theorem RefAt.lens {T U : Nat → Prop} {w : World} {p : Nat} {L : List (List UInt8)} {q : List (Nat × List UInt8)} (h : RefAt w T U p L q) : ∀ s ∈ L, s.length = 0 ∨ s.length = 256 := by
  intro s hs
  obtain ⟨i, hi⟩ := List.getElem?_of_mem hs
  obtain ⟨⟨gl, Aq, cq, vs, css, hbk, hg, hvs, hL, _⟩, _⟩ := h
  have hil := (List.getElem?_eq_some_iff.1 hi).1
  obtain ⟨A, c, _, h', _⟩ := hL i vs[i] s (Array.getElem?_eq_getElem (by omega)) hi
  exact h'

set_option maxHeartbeats 4000000 in
theorem same_any {S T U : Nat → Prop} {d p : Nat} {L : List (List UInt8)} {q : List (Nat × List UInt8)} (i : Int) (w : World) (hd : DiskAt w S d (L.map full) q) (hr : RefAt w T U p L q) (hql : q.length ≤ 16777215) :
    Calls Try.prog 18 #[.pointer (some ⟨d, 0, none⟩), .pointer (some ⟨p, 0, none⟩), .int .i64 i] w fun e w' => e = .returned (.bool true) ∧ Fr NoB w w' := by
  have HD := Lib.hid hd
  have HR := Lib.hid hr
  clear hd hr
  by_cases hi : hasB L.length i = true
  · have h3 := of_decide_eq_true hi
    obtain ⟨k, rfl⟩ := Int.eq_ofNat_of_zero_le h3.1
    have hkl : k < L.length := by omega
    obtain ⟨s, hs⟩ : ∃ s, (apply q (L.map full))[k]? = some s := ⟨_, List.getElem?_eq_getElem (by rw [apply_len, List.length_map]; exact hkl)⟩
    have ht : (L.map full)[k]? = some (full L[k]) := by rw [List.getElem?_map, List.getElem?_eq_getElem hkl]; rfl
    have HT := Lib.hid ht
    have HS := Lib.hid hs
    have hs256 : s.length = 256 := apply_all HD.out.las_len (fun p hp => (HD.out.q_ok p hp).2) s (List.mem_of_getElem? hs)
    have ht256 : (full L[k]).length = 256 := HD.out.las_len _ (List.mem_of_getElem? ht)
    have HLk := Lib.hid (List.getElem?_eq_getElem hkl)
    clear hi h3 hs ht
    generalize L[k] = l0 at *
    go_enter Try.func18, Try.ntmps18
    go_wp2_with fail
    refine (read_some k s w HD.out HS.out).mono ?_
    rintro e w1 ⟨x1, hx1, rfl, rd1, fr1⟩
    have R1 := Lib.hid (HR.out.fr fr1 (fun _ _ h => h) (fun _ _ h => h))
    go_wp2_with fail
    refine (refRead_some k s w1 R1.out HS.out hql).mono ?_
    rintro e w2 ⟨A2, c2, rfl, rd2, fr2⟩
    have D2 := Lib.hid (HD.out.fr (fr1.trans fr2) (fun _ _ h => h))
    go_wp2_with fail
    refine (lasts_some k (full l0) w2 D2.out HT.out).mono ?_
    rintro e w3 ⟨x3, hx3, rfl, rd3, fr3⟩
    have R3 := Lib.hid (R1.out.fr (fr2.trans fr3) (fun _ _ h => h) (fun _ _ h => h))
    go_wp2_with fail
    refine (refLasts_some k l0 w3 R3.out HLk.out).mono ?_
    rintro e w4 ⟨x4, hx4, rfl, arr4, fr4⟩
    have D4 := D2.out.fr (fr3.trans fr4) (fun _ _ h => h)
    obtain ⟨gl, Aq, cq, _, y1⟩ := (R3.out.fr fr4 (fun _ _ h => h) (fun _ _ h => h)).words
    have cv : ∀ {V : Nat → Prop} {A : Option Addr} {c : Nat} {t : List UInt8}, t.length = 256 → Rd w4 V 1 A 256 c (bv t) → ∀ n, (convert 27 9 (.slice A 256 c)).run Try.prog (w4.drewN n) = .ok (.string ⟨t.toArray⟩) (w4.drewN n) := fun {V A c t} hl hr n => by
      have := run_conv_rd (w4.drewN n) 27 9 5 Try.underlying27 Try.underlying5 Try.underlying9 t (S := V) (A := A) (c := c) (by rw [hl]; exact hr.drewN n)
      rwa [hl] at this
    have k1 := cv hs256 (rd1.fr ((fr2.trans fr3).trans fr4) (fun _ _ _ h => h))
    have k2 := cv hs256 (rd2.fr (fr3.trans fr4) (fun _ _ _ h => h))
    have k3 := cv ht256 (rd3.fr fr4 (fun _ _ _ h => h))
    have k4 := cv ht256 arr4.rd
    have hw := fun n => (waits_any (w4.drewN n) (D4.fr ((Fr.refl NoB w4).drewN n) (fun _ _ h => h))).mono fun e w' h => And.intro h.1 h.2.symm
    have fall := ((fr1.trans fr2).trans fr3).trans fr4
    clear cv rd1 rd2 rd3 arr4 fr1 fr2 fr3 fr4 D4
    go_wp2_with fail
    go_quiet ((go_at_call 10; exact Calls.quiet_of_same (hw _)))
    go_wp2_with fail
    go_ret
    exact ⟨rfl, fall.drewN _⟩
  · have hi' : hasB L.length i = false := by simpa using hi
    have hi2 : hasB (L.map full).length i = false := by rw [List.length_map]; exact hi'
    clear hi
    go_enter Try.func18, Try.ntmps18
    go_wp2_with fail
    refine (read_none i w HD.out hi2).mono ?_
    rintro e w1 ⟨rfl, fr1⟩
    have R1 := Lib.hid (HR.out.fr fr1 (fun _ _ h => h) (fun _ _ h => h))
    go_wp2_with fail
    refine (refRead_none i w1 R1.out hi' hql).mono ?_
    rintro e w2 ⟨rfl, fr2⟩
    have D2 := Lib.hid (HD.out.fr (fr1.trans fr2) (fun _ _ h => h))
    go_wp2_with fail
    refine (lasts_none i w2 D2.out hi2).mono ?_
    rintro e w3 ⟨rfl, fr3⟩
    have R3 := Lib.hid (R1.out.fr (fr2.trans fr3) (fun _ _ h => h) (fun _ _ h => h))
    go_wp2_with fail
    refine (refLasts_none i w3 R3.out hi').mono ?_
    rintro e w4 ⟨rfl, rfl⟩
    have D4 := D2.out.fr fr3 (fun _ _ h => h)
    obtain ⟨gl, Aq, cq, _, y1⟩ := R3.out.words
    have k1 : ∀ n, (convert 27 9 (.slice none 0 0)).run Try.prog (w3.drewN n) = .ok (.string ⟨#[]⟩) (w3.drewN n) := fun n => run_conv_rd (w3.drewN n) 27 9 5 Try.underlying27 Try.underlying5 Try.underlying9 [] (Rd.none_ _ NoB _)
    have hw := fun n => (waits_any (w3.drewN n) (D4.fr ((Fr.refl NoB w3).drewN n) (fun _ _ h => h))).mono fun e w' h => And.intro h.1 h.2.symm
    have fall := (fr1.trans fr2).trans fr3
    clear fr1 fr2 fr3 D4
    go_wp2_with fail
    go_quiet ((go_at_call 10; exact Calls.quiet_of_same (hw _)))
    go_wp2_with fail
    go_ret
    exact ⟨rfl, fall.drewN _⟩

structure DS (w : World) (d p : Nat) (S T U : Nat → Prop) (L : List (List UInt8)) (q : List (Nat × List UInt8)) (k : Nat) (wr : World) : Prop where
  dk : DiskAt wr S d (L.map full) q
  rf : RefAt wr T U p L q
  disT : ∀ j, S j → ¬ T j
  disU : ∀ j, S j → ¬ U j
  ups : Up w.heap.size S
  upt : Up w.heap.size T
  fr : Fr NoB w wr
  few : q.length ≤ k

def DSs (ss : List StepS) (w : World) (d p : Nat) (m : Nat) (g : Nat) (v36 : Value) (wr : World) : Prop :=
  ∃ (k : Nat) (S T U : Nat → Prop) (L : List (List UInt8)) (q : List (Nat × List UInt8)), k ≤ ss.length ∧ g = ss.length - k ∧ v36 = .int .i64 k ∧ DS w d p S T U L q k wr ∧ L.length = m

theorem DS.keep {w wr W : World} {d p : Nat} {S T U : Nat → Prop} {L : List (List UInt8)} {q : List (Nat × List UInt8)} {k : Nat} (h : DS w d p S T U L q k wr) (hf : Fr NoB wr W) : DS w d p S T U L q k W :=
  ⟨h.dk.fr hf (fun _ _ h => h), h.rf.fr hf (fun _ _ h => h) (fun _ _ h => h), h.disT, h.disU, h.ups, h.upt, h.fr.trans hf, h.few⟩
theorem DS.more {w wr : World} {d p : Nat} {S T U : Nat → Prop} {L : List (List UInt8)} {q : List (Nat × List UInt8)} {k : Nat} (h : DS w d p S T U L q k wr) : DS w d p S T U L q (k + 1) wr :=
  ⟨h.dk, h.rf, h.disT, h.disU, h.ups, h.upt, h.fr, by have := h.few; omega⟩
/-- The document's disk behind the disk's turn. -/
theorem DS.ref {w W w2 : World} {d p : Nat} {S T U : Nat → Prop} {L : List (List UInt8)} {q : List (Nat × List UInt8)} {k : Nat} (h : DS w d p S T U L q k W) (hf : Fr S W w2) : RefAt w2 T U p L q :=
  h.rf.fr hf (fun j ht hs => h.disT j hs ht) (fun j hu hs => h.disU j hs hu)
theorem DS.turn {w W w2 w3 : World} {d p : Nat} {S T U S2 T2 U2 : Nat → Prop} {L L2 : List (List UInt8)} {q q2 : List (Nat × List UInt8)} {k : Nat} (h : DS w d p S T U L q k W)
    (hn : DiskAt w2 S2 d (L2.map full) q2) (hf : Fr S W w2) (hg : Gr S S2 W) (hr : RefAt w3 T2 U2 p L2 q2) (hf2 : Fr T w2 w3) (hg2 : Gr T T2 w2) (hg3 : Gr U U2 w2) (hl : q2.length ≤ k + 1) : DS w d p S2 T2 U2 L2 q2 (k + 1) w3 := by
  have z0 := h.fr.size
  have z1 := hf.size
  have s2T : ∀ j, S2 j → ¬ T j := fun j hs ht => by
    rcases hg j hs with h' | h'
    · exact h.disT j h' ht
    · have := h.rf.ltT j ht; omega
  have s2U : ∀ j, S2 j → ¬ U j := fun j hs hu => by
    rcases hg j hs with h' | h'
    · exact h.disU j h' hu
    · have := h.rf.ltU j hu; omega
  have lt2 := hn.lt
  refine ⟨hn.fr hf2 s2T, hr, fun j hs ht => ?_, fun j hs hu => ?_, hg.up h.ups (by omega), hg2.up h.upt (by omega), (h.fr.up hf h.ups).up hf2 h.upt, hl⟩
  · rcases hg2 j ht with h' | h'
    · exact s2T j hs h'
    · have := lt2 j hs; omega
  · rcases hg3 j hu with h' | h'
    · exact s2U j hs h'
    · have := lt2 j hs; omega

theorem writeF_len (m : Nat) (q : List (Nat × List UInt8)) (i : Int) (b : List UInt8) : (writeF m q i b).2.length ≤ q.length + 1 := by
  unfold writeF
  split
  · split <;> simp
  · simp

set_option maxHeartbeats 8000000 in
set_option maxRecDepth 100000 in
theorem steps_any (m : Int) (A : Option Addr) (c : Nat) (ss : List StepS) (w : World) (h : StepsIn w w.heap.size A c ss) (hss : ss.length ≤ 1048576) :
    Calls Try.prog 4 #[.int .i64 m, .slice A ss.length c] w (LawPost w) := by
  go_enter Try.func4, Try.ntmps4
  go_wp2_with fail
  refine (new_any m _).mono ?_
  rintro e w1 (⟨hm1, hm2, d, S, hd, rfl, dk1, up1, fr1⟩ | ⟨hno, rfl, fr1⟩)
  rotate_left
  · go_wp2_with fail
    refine (refNew_any m _).mono ?_
    rintro e w2 (⟨hn1, hn7, _⟩ | ⟨_, rfl, fr2⟩)
    · omega
    go_wp2_with fail
    refine (speaks_any _).mono ?_
    rintro e w3 ⟨rfl, fr3⟩
    go_wp2_with fail
    go_ret
    exact ⟨rfl, (fr1.trans fr2).trans fr3⟩
  go_wp2_with fail
  refine (refNew_any m _).mono ?_
  rintro e w2 (⟨_, _, p, T, hp, rfl, rf2, up2, fr2⟩ | ⟨hno, _⟩)
  rotate_left
  · omega
  have hz1 := fr1.size
  obtain ⟨mn, rfl⟩ := Int.eq_ofNat_of_zero_le (by omega : 0 ≤ m)
  rw [Int.toNat_natCast] at dk1 rf2
  have hmap : (List.replicate mn ([] : List UInt8)).map full = zeros mn := by rw [List.map_replicate]; rfl
  have hD0 : DS w d p S T NoB (List.replicate mn []) [] 0 w2 :=
    ⟨by rw [hmap]; exact dk1.fr fr2 (fun _ _ h => h), rf2, fun j hs ht => by have := dk1.lt j hs; have := up2 j ht; omega, fun _ _ h => h, up1, fun j hj => by have := up2 j hj; omega, fr1.trans fr2, Nat.le_refl _⟩
  have HN : Hid (DSs ss w d p mn ss.length (.int .i64 (0 : Nat)) w2) := ⟨0, S, T, NoB, _, [], Nat.zero_le _, rfl, rfl, hD0, List.length_replicate⟩
  clear hD0 dk1 rf2 up1 up2 fr1 fr2 hmap
  go_wp2_with fail
  go_loopg [36] ss.length (fun g v36 wr => DSs ss w d p mn g v36 wr)
  case atStart => exact HN
  case round =>
    obtain ⟨k, S, T, U, L, q, hk, rfl, rfl, hw, hLm⟩ := hrel
    by_cases hlt : k < ss.length
    · obtain ⟨b, off, A', c', kd, ka, kc, kb, hsk, rfl, x0, x1, x2, x3, hrd⟩ := (h.fr hw.fr).step hlt
      have hW : Fr NoB wr (wr.alloc (.cells #[.int .i64 kd, .int .i64 ka, .int .i64 kc, .slice A' kb.length c'] 29)) := (Fr.refl _ _).alloc _
      have hBW : Bk (wr.alloc (.cells #[.int .i64 kd, .int .i64 ka, .int .i64 kc, .slice A' kb.length c'] 29)) wr.heap.size 29 #[.int .i64 kd, .int .i64 ka, .int .i64 kc, .slice A' kb.length c'] := Bk.new _ _ _
      have hnS : ¬ S wr.heap.size := fun h => by have := hw.dk.lt _ h; omega
      have hnT : ¬ T wr.heap.size := fun h => by have := hw.rf.ltT _ h; omega
      clear hsk
      have hfew := hw.few
      have HW := Lib.hid (hw.keep hW)
      have hrW := Lib.hid (hrd.fr hW (fun _ _ _ h => h))
      have HB := Lib.hid hBW
      clear hw hrd hBW
      by_cases hk0 : kd = 0
      · subst hk0
        go_wp2_with fail
        have d1 : (wr.alloc (.cells #[.int .i64 0, .int .i64 ka, .int .i64 kc, .slice A' kb.length c'] 29)).cell? ⟨wr.heap.size, 1, none⟩ = some (.int .i64 ka) := HB.out.cell 1
        have d3 : (wr.alloc (.cells #[.int .i64 0, .int .i64 ka, .int .i64 kc, .slice A' kb.length c'] 29)).cell? ⟨wr.heap.size, 3, none⟩ = some (.slice A' kb.length c') := HB.out.cell 3
        refine wp_region_plan 13 (fun w' => w'.cell? ⟨wr.heap.size, 1, none⟩ = some (.int .i64 ka) ∧ w'.cell? ⟨wr.heap.size, 3, none⟩ = some (.slice A' kb.length c'))
          [(0, 0), (1, 0), (2, 1), (3, 0), (4, 1), (6, 0), (7, 0), (8, 1), (9, 0), (10, 1), (5, 2), (11, 2), (12, 0)] (by kernel_rfl) (by kernel_rfl) (fun _ _ _ _ _ h => h) ⟨d1, d3⟩ ?_
        refine wpPlan_free _ ?_ rfl (by rfl) (fun w' => ?_) ?_
        rotate_left
        · go_simp; with_reducible rfl
        simp only [Act.put, List.setIfInBounds_toArray, List.set_cons_zero, List.set_cons_succ]
        refine wpPlan_free _ ?_ rfl (by rfl) (fun w' => ?_) ?_
        rotate_left
        · go_simp; with_reducible rfl
        simp only [Act.put, List.setIfInBounds_toArray, List.set_cons_zero, List.set_cons_succ]
        refine wpPlan_held _ ?_ rfl (by rfl) (fun w' hS => ?_) ?_
        rotate_left
        · obtain ⟨e0, e1⟩ := hS; go_simp; with_reducible rfl
        simp only [Act.put, List.setIfInBounds_toArray, List.set_cons_zero, List.set_cons_succ]
        refine wpPlan_free _ ?_ rfl (by rfl) (fun w' => ?_) ?_
        rotate_left
        · go_simp; with_reducible rfl
        simp only [Act.put, List.setIfInBounds_toArray, List.set_cons_zero, List.set_cons_succ]
        refine wpPlan_held _ ?_ rfl (by rfl) (fun w' hS => ?_) ?_
        rotate_left
        · obtain ⟨e0, e1⟩ := hS; go_simp; with_reducible rfl
        simp only [Act.put, List.setIfInBounds_toArray, List.set_cons_zero, List.set_cons_succ]
        refine wpPlan_free _ ?_ rfl (by rfl) (fun w' => ?_) ?_
        rotate_left
        · go_simp; with_reducible rfl
        simp only [Act.put, List.setIfInBounds_toArray, List.set_cons_zero, List.set_cons_succ]
        refine wpPlan_free _ ?_ rfl (by rfl) (fun w' => ?_) ?_
        rotate_left
        · go_simp; with_reducible rfl
        simp only [Act.put, List.setIfInBounds_toArray, List.set_cons_zero, List.set_cons_succ]
        refine wpPlan_held _ ?_ rfl (by rfl) (fun w' hS => ?_) ?_
        rotate_left
        · obtain ⟨e0, e1⟩ := hS; go_simp; with_reducible rfl
        simp only [Act.put, List.setIfInBounds_toArray, List.set_cons_zero, List.set_cons_succ]
        refine wpPlan_free _ ?_ rfl (by rfl) (fun w' => ?_) ?_
        rotate_left
        · go_simp; with_reducible rfl
        simp only [Act.put, List.setIfInBounds_toArray, List.set_cons_zero, List.set_cons_succ]
        refine wpPlan_held _ ?_ rfl (by rfl) (fun w' hS => ?_) ?_
        rotate_left
        · obtain ⟨e0, e1⟩ := hS; go_simp; with_reducible rfl
        simp only [Act.put, List.setIfInBounds_toArray, List.set_cons_zero, List.set_cons_succ]
        refine wpPlan_do _ rfl (fun K hK => ?_)
        go_simp
        refine (write_any ka A' c' kb _ (HW.out.dk.fr ((Fr.refl NoB _).drew) (fun _ _ h => h)) hrW.out.drew (by omega)).mono ?_
        rw [List.length_map]
        rintro e w3 ⟨S3, rfl, dk3, fr3, gr3⟩
        have fr3' : Fr S (wr.alloc (.cells #[.int .i64 0, .int .i64 ka, .int .i64 kc, .slice A' kb.length c'] 29)) w3 := ((Fr.refl S _).drew).trans fr3
        have b3 := HB.out.fr fr3' hnS
        have y1 : w3.cell? ⟨wr.heap.size, 1, none⟩ = some (.int .i64 ka) := b3.cell 1
        have y3 : w3.cell? ⟨wr.heap.size, 3, none⟩ = some (.slice A' kb.length c') := b3.cell 3
        refine hK _ _ (fun _ => ⟨y1, y3⟩) ?_
        clear hK K
        have rf3 := HW.out.ref fr3'
        have rd3 := hrW.out.fr fr3' (fun j _ hj hs => by have := HW.out.ups j hs; omega)
        refine wpPlan_do _ rfl (fun K hK => ?_)
        go_simp
        refine (refWrite_any ka A' c' kb _ rf3 rd3 (by omega)).mono ?_
        rintro e w4 ⟨T4, U4, rfl, rf4, fr4, gr4, gr4'⟩
        refine hK _ _ (fun _ => ⟨fr4.cell_some y1 hnT, fr4.cell_some y3 hnT⟩) ?_
        clear hK K
        refine wpPlan_free _ ?_ rfl (by rfl) (fun w' => ?_) ?_
        rotate_left
        · go_simp; with_reducible rfl
        simp only [Act.put, List.setIfInBounds_toArray, List.set_cons_zero, List.set_cons_succ]
        refine wpPlan_nil ?_
        have yb := fr4.cell_some y1 hnT
        have hlen := writeF_len L.length q ka kb
        have HT := Lib.hid (DS.turn HW.out dk3 fr3' gr3 rf4 fr4 gr4 gr4' (by omega))
        clear dk3 fr3 fr3' gr3 rf4 fr4 gr4 gr4' rf3 rd3 b3 y1 y3 hlen
        generalize writeF L.length q ka kb = r at *
        go_wp2_with fail
        have hq1 := HT.out.few
        refine (same_any ka _ HT.out.dk HT.out.rf (by omega)).mono ?_
        rintro e w5 ⟨rfl, fr5⟩
        have H5 := Lib.hid (HT.out.keep fr5)
        go_wp2_with fail
        refine (same_any 0 _ H5.out.dk H5.out.rf (by omega)).mono ?_
        rintro e w6 ⟨rfl, fr6⟩
        have H6 := Lib.hid (H5.out.keep fr6)
        go_wp2_with fail
        refine (same_any _ _ H6.out.dk H6.out.rf (by omega)).mono ?_
        rintro e w7 ⟨rfl, fr7⟩
        have H7 := Lib.hid (H6.out.keep fr7)
        clear fr5 fr6 fr7
        go_wp2_with fail
        go_roundg (ss.length - (k + 1))
        case measure => omega
        case rel => exact ⟨k + 1, _, _, _, _, _, by omega, rfl, by go_num, H7.out, by assumption⟩
      · have hk0' : (kd == 0) = false := by simp [hk0]
        by_cases hk1 : kd = 1
        · subst hk1
          have hsy := Lib.hid (sync_any _ HW.out.dk (by omega))
          go_wp2_with fail
          refine hsy.out.mono ?_
          rintro e w3 ⟨S3, rfl, dk3, fr3, gr3⟩
          have rf3 := HW.out.ref fr3
          obtain ⟨gl, Aq, cq, _, y1⟩ := rf3.words
          have hcr := refCrash_any q.length 0 w3 rf3 (by omega)
          have hcf : crashR L q q.length 0 = (0, las2R L q q.length 0, []) := by
            unfold crashR
            rw [if_pos ⟨by omega, by omega, by omega, by omega⟩]
            rfl
          rw [hcf] at hcr
          have hmp : (las2R L q q.length 0).map full = apply q (L.map full) := by
            rw [map_las2 (fun x hx => ⟨by have := (HW.out.dk.q_ok x hx).1; rwa [List.length_map] at this, (HW.out.dk.q_ok x hx).2⟩) HW.out.rf.lens (Nat.le_refl _) (by omega), las2F_whole]
          have hml : (las2R L q q.length 0).length = mn := by rw [las2R, stageL_len]; exact hLm
          rw [← hmp] at dk3
          have HCR := Lib.hid hcr
          have HD := Lib.hid dk3
          have HF := Lib.hid fr3
          have HG := Lib.hid gr3
          clear hcr hcf hmp dk3 fr3 gr3 rf3
          go_wp2_with fail
          refine HCR.out.mono ?_
          rintro e w4 ⟨T4, U4, rfl, rf4, fr4, gr4, gr4'⟩
          have HT := Lib.hid (DS.turn HW.out HD.out HF.out HG.out rf4 fr4 gr4 gr4' (by simp))
          have b3 := Lib.hid ((HB.out.fr HF.out hnS).fr fr4 hnT)
          have yb : w4.cell? ⟨wr.heap.size, 1, none⟩ = some (.int .i64 ka) := b3.out.cell 1
          clear rf4 fr4 gr4 gr4'
          generalize las2R L q q.length 0 = L2 at *
          go_wp2_with fail
          have hq1 := HT.out.few
          refine (same_any ka _ HT.out.dk HT.out.rf (by omega)).mono ?_
          rintro e w5 ⟨rfl, fr5⟩
          have H5 := Lib.hid (HT.out.keep fr5)
          go_wp2_with fail
          refine (same_any 0 _ H5.out.dk H5.out.rf (by omega)).mono ?_
          rintro e w6 ⟨rfl, fr6⟩
          have H6 := Lib.hid (H5.out.keep fr6)
          go_wp2_with fail
          refine (same_any _ _ H6.out.dk H6.out.rf (by omega)).mono ?_
          rintro e w7 ⟨rfl, fr7⟩
          have H7 := Lib.hid (H6.out.keep fr7)
          clear fr5 fr6 fr7
          go_wp2_with fail
          go_roundg (ss.length - (k + 1))
          case measure => omega
          case rel => exact ⟨k + 1, _, _, _, _, _, by omega, rfl, by go_num, H7.out, by assumption⟩
        · have hk1' : (kd == 1) = false := by simp [hk1]
          by_cases hk2 : kd = 2
          · subst hk2
            go_wp2_with fail
            have d1 : (wr.alloc (.cells #[.int .i64 2, .int .i64 ka, .int .i64 kc, .slice A' kb.length c'] 29)).cell? ⟨wr.heap.size, 1, none⟩ = some (.int .i64 ka) := HB.out.cell 1
            have d3 : (wr.alloc (.cells #[.int .i64 2, .int .i64 ka, .int .i64 kc, .slice A' kb.length c'] 29)).cell? ⟨wr.heap.size, 2, none⟩ = some (.int .i64 kc) := HB.out.cell 2
            refine wp_region_plan 13 (fun w' => w'.cell? ⟨wr.heap.size, 1, none⟩ = some (.int .i64 ka) ∧ w'.cell? ⟨wr.heap.size, 2, none⟩ = some (.int .i64 kc))
              [(0, 0), (1, 0), (2, 1), (3, 0), (4, 1), (6, 0), (7, 0), (8, 1), (9, 0), (10, 1), (5, 2), (11, 2), (12, 0)] (by kernel_rfl) (by kernel_rfl) (fun _ _ _ _ _ h => h) ⟨d1, d3⟩ ?_
            refine wpPlan_free _ ?_ rfl (by rfl) (fun w' => ?_) ?_
            rotate_left
            · go_simp; with_reducible rfl
            simp only [Act.put, List.setIfInBounds_toArray, List.set_cons_zero, List.set_cons_succ]
            refine wpPlan_free _ ?_ rfl (by rfl) (fun w' => ?_) ?_
            rotate_left
            · go_simp; with_reducible rfl
            simp only [Act.put, List.setIfInBounds_toArray, List.set_cons_zero, List.set_cons_succ]
            refine wpPlan_held _ ?_ rfl (by rfl) (fun w' hS => ?_) ?_
            rotate_left
            · obtain ⟨e0, e1⟩ := hS; go_simp; with_reducible rfl
            simp only [Act.put, List.setIfInBounds_toArray, List.set_cons_zero, List.set_cons_succ]
            refine wpPlan_free _ ?_ rfl (by rfl) (fun w' => ?_) ?_
            rotate_left
            · go_simp; with_reducible rfl
            simp only [Act.put, List.setIfInBounds_toArray, List.set_cons_zero, List.set_cons_succ]
            refine wpPlan_held _ ?_ rfl (by rfl) (fun w' hS => ?_) ?_
            rotate_left
            · obtain ⟨e0, e1⟩ := hS; go_simp; with_reducible rfl
            simp only [Act.put, List.setIfInBounds_toArray, List.set_cons_zero, List.set_cons_succ]
            refine wpPlan_free _ ?_ rfl (by rfl) (fun w' => ?_) ?_
            rotate_left
            · go_simp; with_reducible rfl
            simp only [Act.put, List.setIfInBounds_toArray, List.set_cons_zero, List.set_cons_succ]
            refine wpPlan_free _ ?_ rfl (by rfl) (fun w' => ?_) ?_
            rotate_left
            · go_simp; with_reducible rfl
            simp only [Act.put, List.setIfInBounds_toArray, List.set_cons_zero, List.set_cons_succ]
            refine wpPlan_held _ ?_ rfl (by rfl) (fun w' hS => ?_) ?_
            rotate_left
            · obtain ⟨e0, e1⟩ := hS; go_simp; with_reducible rfl
            simp only [Act.put, List.setIfInBounds_toArray, List.set_cons_zero, List.set_cons_succ]
            refine wpPlan_free _ ?_ rfl (by rfl) (fun w' => ?_) ?_
            rotate_left
            · go_simp; with_reducible rfl
            simp only [Act.put, List.setIfInBounds_toArray, List.set_cons_zero, List.set_cons_succ]
            refine wpPlan_held _ ?_ rfl (by rfl) (fun w' hS => ?_) ?_
            rotate_left
            · obtain ⟨e0, e1⟩ := hS; go_simp; with_reducible rfl
            simp only [Act.put, List.setIfInBounds_toArray, List.set_cons_zero, List.set_cons_succ]
            refine wpPlan_do _ rfl (fun K hK => ?_)
            go_simp
            refine (crash_any ka kc _ (HW.out.dk.fr ((Fr.refl NoB _).drew) (fun _ _ h => h)) (by omega)).mono ?_
            rintro e w3 ⟨S3, rfl, dk3, fr3, gr3⟩
            have fr3' : Fr S (wr.alloc (.cells #[.int .i64 2, .int .i64 ka, .int .i64 kc, .slice A' kb.length c'] 29)) w3 := ((Fr.refl S _).drew).trans fr3
            have b3 := HB.out.fr fr3' hnS
            have y1 : w3.cell? ⟨wr.heap.size, 1, none⟩ = some (.int .i64 ka) := b3.cell 1
            have y3 : w3.cell? ⟨wr.heap.size, 2, none⟩ = some (.int .i64 kc) := b3.cell 2
            refine hK _ _ (fun _ => ⟨y1, y3⟩) ?_
            clear hK K
            have rf3 := HW.out.ref fr3'
            refine wpPlan_do _ rfl (fun K hK => ?_)
            go_simp
            refine (refCrash_any ka kc _ rf3 (by omega)).mono ?_
            rintro e w4 ⟨T4, U4, rfl, rf4, fr4, gr4, gr4'⟩
            refine hK _ _ (fun _ => ⟨fr4.cell_some y1 hnT, fr4.cell_some y3 hnT⟩) ?_
            clear hK K
            have hpair : (crashF (L.map full) q ka kc).1 = (crashR L q ka kc).1 ∧ (crashF (L.map full) q ka kc).2.1 = (crashR L q ka kc).2.1.map full ∧ (crashF (L.map full) q ka kc).2.2 = (crashR L q ka kc).2.2 ∧ (crashR L q ka kc).2.1.length = mn ∧ (crashR L q ka kc).2.2.length ≤ q.length := by
              unfold crashF crashR
              by_cases hb : 0 ≤ ka ∧ ka ≤ q.length ∧ 0 ≤ kc ∧ kc ≤ 256
              · rw [if_pos hb, if_pos hb]
                refine ⟨rfl, (map_las2 (fun x hx => ⟨by have := (HW.out.dk.q_ok x hx).1; rwa [List.length_map] at this, (HW.out.dk.q_ok x hx).2⟩) HW.out.rf.lens (by omega) (by omega)).symm, rfl, ?_, by simp⟩
                simp only []
                rw [las2R, stageL_len]
                exact hLm
              · rw [if_neg hb, if_neg hb]
                exact ⟨rfl, rfl, rfl, hLm, Nat.le_refl _⟩
            rw [hpair.2.1, hpair.2.2.1] at dk3
            rw [hpair.1]
            refine wpPlan_free _ ?_ rfl (by rfl) (fun w' => ?_) ?_
            rotate_left
            · go_simp; with_reducible rfl
            simp only [Act.put, List.setIfInBounds_toArray, List.set_cons_zero, List.set_cons_succ]
            refine wpPlan_nil ?_
            have HT := Lib.hid (DS.turn HW.out dk3 fr3' gr3 rf4 fr4 gr4 gr4' (by have := hpair.2.2.2.2; omega))
            have hml := hpair.2.2.2.1
            have yb := fr4.cell_some y1 hnT
            clear dk3 fr3 fr3' gr3 rf4 fr4 gr4 gr4' rf3 b3 y1 y3 hpair
            generalize crashR L q ka kc = r at *
            go_wp2_with fail
            have hq1 := HT.out.few
            refine (same_any ka _ HT.out.dk HT.out.rf (by omega)).mono ?_
            rintro e w5 ⟨rfl, fr5⟩
            have H5 := Lib.hid (HT.out.keep fr5)
            go_wp2_with fail
            refine (same_any 0 _ H5.out.dk H5.out.rf (by omega)).mono ?_
            rintro e w6 ⟨rfl, fr6⟩
            have H6 := Lib.hid (H5.out.keep fr6)
            go_wp2_with fail
            refine (same_any _ _ H6.out.dk H6.out.rf (by omega)).mono ?_
            rintro e w7 ⟨rfl, fr7⟩
            have H7 := Lib.hid (H6.out.keep fr7)
            clear fr5 fr6 fr7
            go_wp2_with fail
            go_roundg (ss.length - (k + 1))
            case measure => omega
            case rel => exact ⟨k + 1, _, _, _, _, _, by omega, rfl, by go_num, H7.out, by assumption⟩
          · have hk2' : (kd == 2) = false := by simp [hk2]
            have HT := Lib.hid HW.out.more
            have yb : (wr.alloc (.cells #[.int .i64 kd, .int .i64 ka, .int .i64 kc, .slice A' kb.length c'] 29)).cell? ⟨wr.heap.size, 1, none⟩ = some (.int .i64 ka) := HB.out.cell 1
            go_wp2_with fail
            have hq1 := HT.out.few
            refine (same_any ka _ HT.out.dk HT.out.rf (by omega)).mono ?_
            rintro e w5 ⟨rfl, fr5⟩
            have H5 := Lib.hid (HT.out.keep fr5)
            go_wp2_with fail
            refine (same_any 0 _ H5.out.dk H5.out.rf (by omega)).mono ?_
            rintro e w6 ⟨rfl, fr6⟩
            have H6 := Lib.hid (H5.out.keep fr6)
            go_wp2_with fail
            refine (same_any _ _ H6.out.dk H6.out.rf (by omega)).mono ?_
            rintro e w7 ⟨rfl, fr7⟩
            have H7 := Lib.hid (H6.out.keep fr7)
            clear fr5 fr6 fr7
            go_wp2_with fail
            go_roundg (ss.length - (k + 1))
            case measure => omega
            case rel => exact ⟨k + 1, _, _, _, _, _, by omega, rfl, by go_num, H7.out, by assumption⟩
    · obtain rfl : k = ss.length := by omega
      go_wp2_with fail
      refine (speaks_any wr).mono ?_
      rintro e w9 ⟨rfl, fr9⟩
      go_wp2_with fail
      go_ret
      exact ⟨rfl, hw.fr.trans fr9⟩
end Go.Proofs.Ytghddmdehbacaaa
