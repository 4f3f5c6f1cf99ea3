/- The document's pool: Get, whole. -/
import Derived.Test.YtmbabgaanpjmpaaRefF
namespace Go.Proofs.Ytmbabgaanpjmpaa
open Go.RowKit

theorem pos_of {a : Int} (h0 : 0 ≤ a) (h : (a == 0) = false) : decide (0 < a) = true := by
  have : a ≠ 0 := by simpa using h
  exact decide_eq_true (by omega)

set_option maxHeartbeats 4000000 in
theorem rget_full {w : World} {T : Nat → Prop} {p n : Nat} {fl ck N : Int} {L : List Frm} {x : Int} (h : RP w T p n fl L) (hg : PGood n fl ck N L) (h1 : 1 ≤ x) (h2 : x ≤ 4096) (hfi : findF L x = none) (hl : L.length = n) (hfr : freeF L = none) :
    Calls Try.prog 30 #[.pointer (some ⟨p, 0, none⟩), .int .i64 x] w (RGetPost T p n (got0, 5, fl, ck, L) w) := by
  have HFR : Hid (∀ i (hi : i < L.length), (L[i].pins == 0) = false) := Lib.hid (by
    unfold freeF at hfr
    rw [List.findIdx?_eq_none_iff] at hfr
    exact fun i hi => hfr _ (List.getElem_mem hi))
  clear hfr
  obtain ⟨i0, hi0, hz0, hz1, hz2⟩ := info_parts info72
  have d1 : decide (x < 1) = false := decide_eq_false (by omega)
  have d2 : decide (4096 < x) = false := decide_eq_false (by omega)
  have hll : L.length ≤ 64 := by have := hg.len; have := hg.n2; omega
  have d3 : decide ((n : Int) ≤ (L.length : Int)) = true := decide_eq_true (by omega)
  have f0 : Fr NoB w (w.alloc (.cells #[.bool false, .bool false, .int .i64 0, .int .i64 0] 66)) := (Fr.refl NoB w).alloc _
  have hf := find_any x (h.fr f0 (fun _ _ h => h))
  rw [hfi] at hf
  change Calls _ _ _ _ (fun e w' => e = .returned (.int .i64 (-1)) ∧ Fr NoB (w.alloc (.cells #[.bool false, .bool false, .int .i64 0, .int .i64 0] 66)) w') at hf
  have H := Lib.hid h
  have HNO := Lib.hid (frameOf_none (findF_none hfi))
  have HB0 := Lib.hid (Bk.new w 66 #[.bool false, .bool false, .int .i64 0, .int .i64 0])
  have hz : Hid ((w.alloc (.cells #[.bool false, .bool false, .int .i64 0, .int .i64 0] 66)).heap.size = w.heap.size + 1) := Lib.hid (by simp)
  have HF0 := Lib.hid f0
  have d4 : n ≤ L.length := by omega
  clear hl
  have HPN : Hid (∀ i (hi : i < L.length), 0 ≤ L[i].pins) := Lib.hid fun i hi => (hg.pin _ (List.getElem_mem hi)).1
  have HND := Lib.hid hg.nd
  clear hfi h hg f0
  go_enter Try.func30, Try.ntmps30
  go_wp2_with fail
  refine hf.mono ?_
  rintro e w1 ⟨rfl, f1⟩
  generalize (w.alloc (.cells #[.bool false, .bool false, .int .i64 0, .int .i64 0] 66)) = w0 at *
  obtain ⟨A, c, h1⟩ := ((H.out.fr HF0.out (fun _ _ h => h)).fr f1 (fun _ _ h => h)).open
  have k0 : Fr NoB w1 (w1.alloc (.cells #[.bool false, .bool false, .int .i64 0, .int .i64 0] 66)) := (Fr.refl _ _).alloc _
  have HA1 := Lib.hid (h1.fr k0 (fun _ _ h => h))
  have HB1 := Lib.hid ((HB0.out.fr f1 (fun h => h)).fr k0 (fun h => h))
  have HW1 := Lib.hid (f1.trans k0)
  have HB9 := Lib.hid (Bk.new w1 66 #[.bool false, .bool false, .int .i64 0, .int .i64 0])
  have hz9 : w.heap.size + 1 ≤ w1.heap.size := by have := f1.size; have := hz.out; omega
  clear h1 f1 k0
  go_wp2_with fail
  generalize hb9 : w1.heap.size = b9 at *
  clear hb9
  generalize w1.alloc (.cells #[.bool false, .bool false, .int .i64 0, .int .i64 0] 66) = w2 at *
  have c2 : w2.cell? ⟨p, 2, none⟩ = some (.slice A L.length c) := HA1.out.bk.cell 2
  have c0 : w2.cell? ⟨p, 0, none⟩ = some (.int .i64 n) := HA1.out.bk.cell 0
  go_quiet (fail)
  have fq : Fr NoB w2 (w2.drewN nq) := (Fr.refl NoB w2).drewN nq
  have HA2 := Lib.hid (HA1.out.fr fq (fun _ _ h => h))
  have HB2 := Lib.hid (HB1.out.fr fq (fun h => h))
  have HB92 := Lib.hid (HB9.out.fr fq (fun h => h))
  have HW2 := Lib.hid (HW1.out.trans fq)
  clear fq HA1 HB1 HB9 HW1 c0 c2
  generalize w2.drewN nq = w4 at *
  have c2 : w4.cell? ⟨p, 2, none⟩ = some (.slice A L.length c) := HA2.out.bk.cell 2
  go_wp2_with fail
  go_loopg [10] L.length (fun g v10 wr => ∃ j : Nat, j ≤ L.length ∧ g = L.length - j ∧ v10 = .int .i64 j ∧ wr = w4)
  case atStart => exact ⟨0, Nat.zero_le _, rfl, rfl, rfl⟩
  case round =>
    obtain ⟨j, hj, rfl, rfl, rfl⟩ := hrel
    by_cases hjl : j < L.length
    · obtain ⟨g, rfl, hgl, hcell, hfz⟩ := rc_at HA2.out.ar hjl
      have y1 := hcell 1 _ rfl (by omega)
      clear hcell
      have hpj := HFR.out j hjl
      have hp0 := HPN.out j hjl
      have d5 : decide (0 < L[j].pins) = true := pos_of hp0 hpj
      go_wp2_with fail
      go_roundg (L.length - (j + 1))
      case measure => omega
      case rel => exact ⟨j + 1, by omega, rfl, by go_num, rfl⟩
    · obtain rfl : j = L.length := by omega
      have HE : Hid (∀ v0 v1 v2 v3, RP ((((wr.setCell ⟨w.heap.size, 0, none⟩ v0).setCell ⟨w.heap.size, 1, none⟩ v1).setCell ⟨w.heap.size, 2, none⟩ v2).setCell ⟨w.heap.size, 3, none⟩ v3) T p n fl L ∧ Fr T w ((((wr.setCell ⟨w.heap.size, 0, none⟩ v0).setCell ⟨w.heap.size, 1, none⟩ v1).setCell ⟨w.heap.size, 2, none⟩ v2).setCell ⟨w.heap.size, 3, none⟩ v3)) := Lib.hid fun v0 v1 v2 v3 => by
        have g := fr_four w.heap.size wr v0 v1 v2 v3
        exact ⟨(HA2.out.shut.fr g (fun k hk e => by have := H.out.lt k hk; omega)), ((HF0.out.trans HW2.out).mono (fun _ _ h => h.elim)).join g (fun j e _ => by omega)⟩
      have b0 := HB2.out.cell 0
      have b1 := HB2.out.cell 1
      have b2 := HB2.out.cell 2
      have b3 := HB2.out.cell 3
      have bf0 := HB2.out.frozen 0
      have bf1 := HB2.out.frozen 1
      have bf2 := HB2.out.frozen 2
      have bf3 := HB2.out.frozen 3
      simp at b0 b1 b2 b3
      go_wp2_with fail
      refine bodyPost_ret (v := .tuple #[gotV got0, .int .i64 5]) ?_ rfl ⟨T, rfl, (HE.out _ _ _ _).1, (HE.out _ _ _ _).2, fun _ h => .inl h⟩
      simp [results, Try.results30, go_sem, gotV, got0, *]

set_option maxHeartbeats 8000000 in
theorem rget_wash {w : World} {T : Nat → Prop} {p n : Nat} {fl ck N : Int} {L : List Frm} {x : Int} (blk : Nat) (h : RP w T p n fl L) (hg : PGood n fl ck N L) (h1 : 1 ≤ x) (h2 : x ≤ 4096) (hfi : findF L x = none) (hl : L.length = n) {k : Nat} (hk : k < L.length) (hfr : freeF L = some k) (hd : L[k].dirty = true) :
    Calls Try.prog 30 #[.pointer (some ⟨p, 0, none⟩), .int .i64 x] w (RGetPost T p n (⟨false, true, L[k].page, (needF fl L[k].lsn).1⟩, 0, (needF fl L[k].lsn).2, ck + 1, putF ck (without L L[k].page) (newFrm x blk)) w) := by
  obtain ⟨fl2, hfl2⟩ : ∃ fl2, fl2 = (needF fl L[k].lsn).2 := ⟨_, rfl⟩
  obtain ⟨nd, hnd⟩ : ∃ nd, nd = (needF fl L[k].lsn).1 := ⟨_, rfl⟩
  rw [← hfl2, ← hnd]
  replace hnd := Lib.hid hnd
  replace hfl2 := Lib.hid hfl2
  have HFR : Hid (L[k].pins = 0 ∧ ∀ i (hi : i < L.length), i < k → (L[i].pins == 0) = false) := Lib.hid (by
    unfold freeF at hfr
    obtain ⟨_, hp, hb⟩ := List.findIdx?_eq_some_iff_getElem.1 hfr
    exact ⟨by simpa using hp, fun i hi hik => by simpa using hb i hik⟩)
  clear hfr
  have HER := Lib.hid (er_without hg.nd hk)
  have HD := Lib.hid hd
  clear hd
  obtain ⟨i0, hi0, hz0, hz1, hz2⟩ := info_parts info72
  have d1 : decide (x < 1) = false := decide_eq_false (by omega)
  have d2 : decide (4096 < x) = false := decide_eq_false (by omega)
  have hll : L.length ≤ 64 := by have := hg.len; have := hg.n2; omega
  have d3 : decide ((n : Int) ≤ (L.length : Int)) = true := decide_eq_true (by omega)
  have f0 : Fr NoB w (w.alloc (.cells #[.bool false, .bool false, .int .i64 0, .int .i64 0] 66)) := (Fr.refl NoB w).alloc _
  have hf := find_any x (h.fr f0 (fun _ _ h => h))
  rw [hfi] at hf
  change Calls _ _ _ _ (fun e w' => e = .returned (.int .i64 (-1)) ∧ Fr NoB (w.alloc (.cells #[.bool false, .bool false, .int .i64 0, .int .i64 0] 66)) w') at hf
  have H := Lib.hid h
  have HNO := Lib.hid (frameOf_none (findF_none hfi))
  have HB0 := Lib.hid (Bk.new w 66 #[.bool false, .bool false, .int .i64 0, .int .i64 0])
  have hz : Hid ((w.alloc (.cells #[.bool false, .bool false, .int .i64 0, .int .i64 0] 66)).heap.size = w.heap.size + 1) := Lib.hid (by simp)
  have HF0 := Lib.hid f0
  have d4 : n ≤ L.length := by omega
  clear hl
  have HPN : Hid (∀ i (hi : i < L.length), 0 ≤ L[i].pins) := Lib.hid fun i hi => (hg.pin _ (List.getElem_mem hi)).1
  have HND := Lib.hid hg.nd
  clear hfi h hg f0
  go_enter Try.func30, Try.ntmps30
  go_wp2_with fail
  refine hf.mono ?_
  rintro e w1 ⟨rfl, f1⟩
  generalize (w.alloc (.cells #[.bool false, .bool false, .int .i64 0, .int .i64 0] 66)) = w0 at *
  obtain ⟨A, c, h1⟩ := ((H.out.fr HF0.out (fun _ _ h => h)).fr f1 (fun _ _ h => h)).open
  have k0 : Fr NoB w1 (w1.alloc (.cells #[.bool false, .bool false, .int .i64 0, .int .i64 0] 66)) := (Fr.refl _ _).alloc _
  have HA1 := Lib.hid (h1.fr k0 (fun _ _ h => h))
  have HB1 := Lib.hid ((HB0.out.fr f1 (fun h => h)).fr k0 (fun h => h))
  have HW1 := Lib.hid (f1.trans k0)
  have HB9 := Lib.hid (Bk.new w1 66 #[.bool false, .bool false, .int .i64 0, .int .i64 0])
  have hz9 : w.heap.size + 1 ≤ w1.heap.size := by have := f1.size; have := hz.out; omega
  clear h1 f1 k0
  go_wp2_with fail
  generalize hb9 : w1.heap.size = b9 at *
  clear hb9
  generalize w1.alloc (.cells #[.bool false, .bool false, .int .i64 0, .int .i64 0] 66) = w2 at *
  have c2 : w2.cell? ⟨p, 2, none⟩ = some (.slice A L.length c) := HA1.out.bk.cell 2
  have c0 : w2.cell? ⟨p, 0, none⟩ = some (.int .i64 n) := HA1.out.bk.cell 0
  go_quiet (fail)
  have fq : Fr NoB w2 (w2.drewN nq) := (Fr.refl NoB w2).drewN nq
  have HA2 := Lib.hid (HA1.out.fr fq (fun _ _ h => h))
  have HB2 := Lib.hid (HB1.out.fr fq (fun h => h))
  have HB92 := Lib.hid (HB9.out.fr fq (fun h => h))
  have HW2 := Lib.hid (HW1.out.trans fq)
  clear fq HA1 HB1 HB9 HW1 c0 c2
  generalize w2.drewN nq = w4 at *
  have c2 : w4.cell? ⟨p, 2, none⟩ = some (.slice A L.length c) := HA2.out.bk.cell 2
  go_wp2_with fail
  go_loopg [10] (k + 1) (fun g v10 wr => ∃ j : Nat, j ≤ k ∧ g = k + 1 - j ∧ v10 = .int .i64 j ∧ wr = w4)
  case atStart => exact ⟨0, Nat.zero_le _, rfl, rfl, rfl⟩
  case round =>
    obtain ⟨j, hj, rfl, rfl, rfl⟩ := hrel
    have hjl : j < L.length := by omega
    obtain ⟨g, hgA, hgl, hcell, hfz⟩ := rc_at HA2.out.ar hjl
    have y0 := hcell 0 _ rfl (by omega)
    have y1 := hcell 1 _ rfl (by omega)
    have y2 := hcell 2 _ rfl (by omega)
    have y4 := hcell 4 _ rfl (by omega)
    simp only [Nat.add_zero] at y0
    clear hcell
    by_cases hjk : j = k
    · subst hjk
      have hbne : ((j : Int) == (L.length : Int)) = false := by rw [beq_eq_false_iff_ne]; omega
      rw [HFR.out.1] at y1
      rw [HD.out] at y4
      have e1 : p ≠ b9 := HA2.out.bk.types HB92.out (by decide)
      have e2 : b9 ≠ p := e1.symm
      have hgb : g ≠ b9 := fun e => by
        obtain ⟨cur, hc⟩ := HA2.out.ar.blk (k := g) (by rw [hgA]; exact rfl)
        exact hc.types HB92.out (by decide) e
      have hgb' : b9 ≠ g := hgb.symm
      have o0 := HB92.out.cell 0
      have o1 := HB92.out.cell 1
      have o2 := HB92.out.cell 2
      have o3 := HB92.out.cell 3
      have of1 := HB92.out.frozen 1
      have of2 := HB92.out.frozen 2
      have of3 := HB92.out.frozen 3
      have gV : Fr (fun j => j = b9) wr ((wr.setCell ⟨b9, 2, none⟩ (.int .i64 L[j].page)).setCell ⟨b9, 1, none⟩ (.bool true)) := ((Fr.refl (fun j => j = b9) wr).setCell (p := ⟨b9, 2, none⟩) (.inl rfl) _).setCell (p := ⟨b9, 1, none⟩) (.inl rfl) _
      have b9l := HB92.out.lt
      have hw0 := HW2.out.size
      have hT : Hid (∀ k, T k → k < w.heap.size) := Lib.hid H.out.lt
      have HAV := Lib.hid (HA2.out.fr gV (fun k hk e => by have := hT.out k hk; omega))
      have HBV : Hid (Bk ((wr.setCell ⟨b9, 2, none⟩ (.int .i64 L[j].page)).setCell ⟨b9, 1, none⟩ (.bool true)) b9 66 #[.bool false, .bool true, .int .i64 L[j].page, .int .i64 0]) := Lib.hid ((HB92.out.set 2 _).set 1 _)
      have HB0V := Lib.hid (HB2.out.fr gV (fun e => by omega))
      have HWV := Lib.hid ((HW2.out.mono (fun _ _ h => h.elim)).join gV (S := T) (fun j e hs => by have := hz.out; omega))
      simp at o0 o1 o2 o3
      subst hgA
      have hneed := refNeed_any L[j].lsn HAV.out.shut
      rw [← hfl2.out, ← hnd.out] at hneed
      go_wp2_with fail
      refine hneed.mono ?_
      rintro e w5 ⟨rfl, raw5, f5⟩
      obtain ⟨A5, c5, h5⟩ := raw5.open
      have hT9 : ¬ T b9 := fun hh => by have := hT.out _ hh; omega
      have hT0 : ¬ T w.heap.size := fun hh => by have := hT.out _ hh; omega
      have k9 := HBV.out.fr f5 hT9
      have g5 : Fr (fun j => j = b9) w5 (w5.setCell ⟨b9, 3, none⟩ (.int .i64 nd)) := Fr.setCell (S := fun j => j = b9) (p := ⟨b9, 3, none⟩) (Fr.refl _ w5) (.inl rfl) _
      have HK9 : Hid (Bk (w5.setCell ⟨b9, 3, none⟩ (.int .i64 nd)) b9 66 #[.bool false, .bool true, .int .i64 L[j].page, .int .i64 nd]) := Lib.hid (k9.set 3 _)
      have HK0 := Lib.hid ((HB0V.out.fr f5 hT0).fr g5 (fun e => by omega))
      have HA5 := Lib.hid (h5.fr g5 (fun k hk e => by have := hT.out k hk; omega))
      have HW5 := Lib.hid ((HWV.out.trans f5).join g5 (fun j e hs => by have := hz.out; omega))
      have c25 : w5.cell? ⟨p, 2, none⟩ = some (.slice A5 L.length c5) := h5.bk.cell 2
      have z0 := k9.cell 0
      have z1 := k9.cell 1
      have z2 := k9.cell 2
      have z3 := k9.cell 3
      have zf := k9.frozen 3
      simp at z0 z1 z2 z3
      have hwi := without_any HA5.out.ar hll hjl
      have hbs : b9 < (w5.setCell ⟨b9, 3, none⟩ (.int .i64 nd)).heap.size := HK9.out.lt
      clear k9 g5 h5 raw5 f5 hneed o0 o1 o2 o3 of1 of2 of3 gV HAV HBV HB0V HWV y0 y1 y2 y4 c2
      go_wp2_with fail
      refine hwi.mono ?_
      rintro e w6 ⟨A2, c6, rfl, arr6, new6, f6⟩
      have kp6 := HA5.out.bk.fr f6 (fun h => h)
      have pc6 := kp6.cell 2
      have pf6 := kp6.frozen 2
      simp at pc6
      have nA2 : Hid (∀ k, InB A2 k → w0.heap.size ≤ k ∧ p < k ∧ w.heap.size < k ∧ b9 < k) := Lib.hid fun k hk => by
        have := new6 k hk
        have := HA5.out.bk.lt
        have := hz.out
        have := HW5.out.size
        omega
      have g6 : Fr (fun j => j = p) w6 (w6.setCell ⟨p, 2, none⟩ (.slice A2 (L.eraseIdx j).length c6)) := Fr.setCell (S := fun j => j = p) (p := ⟨p, 2, none⟩) (Fr.refl _ w6) (.inl rfl) _
      have HKP6 := Lib.hid (kp6.set 2 (.slice A2 (L.eraseIdx j).length c6))
      have HKB6 := Lib.hid ((HK0.out.fr f6 (fun h => h)).fr g6 (fun e => by have := hT.out _ HA5.out.own; omega))
      have HK96 := Lib.hid ((HK9.out.fr f6 (fun h => h)).fr g6 e2)
      have HW6 := Lib.hid ((HW5.out.trans (f6.mono (fun _ _ h => h.elim))).trans (g6.mono (T := T) (fun j _ e => by subst e; exact HA5.out.own)))
      have hs6 : (w6.setCell ⟨p, 2, none⟩ (.slice A2 (L.eraseIdx j).length c6)).heap.size = w6.heap.size := by simp
      have HG : Hid (Arr ((w6.setCell ⟨p, 2, none⟩ (.slice A2 (L.eraseIdx j).length c6)).alloc (.cells (rc ⟨x, 1, 0, 0, 0, false, 0⟩).toArray 72)) 72 5 A2 (L.eraseIdx j).length c6 (rcells (L.eraseIdx j)) ∧ Rd ((w6.setCell ⟨p, 2, none⟩ (.slice A2 (L.eraseIdx j).length c6)).alloc (.cells (rc ⟨x, 1, 0, 0, 0, false, 0⟩).toArray 72)) (fun k => k = w6.heap.size) 5 (some ⟨w6.heap.size, 0, none⟩) 1 1 (rc ⟨x, 1, 0, 0, 0, false, 0⟩)) :=
        Lib.hid ⟨(arr6.fr g6 (fun k hk e => by have := nA2.out k hk; omega)).fr ((Fr.refl NoB _).alloc _) (fun _ _ h => h), by have := rd_five (Bk.new (w6.setCell ⟨p, 2, none⟩ (.slice A2 (L.eraseIdx j).length c6)) 72 (rc ⟨x, 1, 0, 0, 0, false, 0⟩).toArray); rw [hs6] at this; exact this⟩
      have hML : (L.eraseIdx j).length ≤ 64 := Nat.le_trans (List.length_eraseIdx_le _ _) hll
      have HEM : Hid (((L.eraseIdx j) ++ [(⟨x, 1, 0, 0, 0, false, 0⟩ : Frm)]).length = (L.eraseIdx j).length + 1) := Lib.hid (by simp)
      clear kp6 g6 hs6 arr6 new6 f6 hwi HA5 HK9 HK0 HW5 HA2 HB2 HB92 HW2
      go_wp2_with (at_builtin; go_loud (refine wpList_append_arr _ rfl _ _ 63 rfl 72 i0 _ 5 40 Try.underlying63 hi0 hz0 hz1 hz2 rfl A2 (L.eraseIdx j).length c6 (rcells (L.eraseIdx j)) rfl HG.out.1 _ (some ⟨_, 0, none⟩) 1 1 (rc ⟨x, 1, 0, 0, 0, false, 0⟩) rfl HG.out.2 (by intro u hu; simp [rc] at hu; rcases hu with rfl | rfl | rfl | rfl | rfl <;> rfl) (by simp only [maxLen]; omega) (by omega) ?_; intro A3 c3 w3 ha3 hf3 hin3 _; have kp := (HKP6.out.fr ((Fr.refl NoB _).alloc (.cells (rc ⟨x, 1, 0, 0, 0, false, 0⟩).toArray 72)) (fun h => h)).fr hf3 (fun hk => by have := nA2.out _ hk; omega); have kb := (HKB6.out.fr ((Fr.refl NoB _).alloc (.cells (rc ⟨x, 1, 0, 0, 0, false, 0⟩).toArray 72)) (fun h => h)).fr hf3 (fun hk => by have := nA2.out _ hk; omega); have k9 := (HK96.out.fr ((Fr.refl NoB _).alloc (.cells (rc ⟨x, 1, 0, 0, 0, false, 0⟩).toArray 72)) (fun h => h)).fr hf3 (fun hk => by have := nA2.out _ hk; omega); have pf := kp.frozen 2; have pc := kp.cell 2; have b0 := kb.cell 0; have b1 := kb.cell 1; have b2 := kb.cell 2; have b3 := kb.cell 3; have bf0 := kb.frozen 0; have bf1 := kb.frozen 1; have bf2 := kb.frozen 2; have bf3 := kb.frozen 3; have q0 := k9.cell 0; have q1 := k9.cell 1; have q2 := k9.cell 2; have q3 := k9.cell 3; have e5 := kb.types kp (by decide); have e6 := e5.symm; have e7 := k9.types kp (by decide); have e8 := e7.symm; have HE := lay_end H.out HF0.out hz.out (((HW6.out.trans (((Fr.refl NoB _).alloc (.cells (rc ⟨x, 1, 0, 0, 0, false, 0⟩).toArray 72)).mono (fun _ _ h => h.elim)))).join hf3 (fun j hs hj => by have := nA2.out _ hj; omega)) kp (M := (L.eraseIdx j) ++ [(⟨x, 1, 0, 0, 0, false, 0⟩ : Frm)]) (by rw [HEM.out, ← rcells_snoc]; exact ha3) (fun k hk => (hin3 k hk).elim (fun h' => .inr (by have := nA2.out _ h'; omega)) (fun h' => .inr (by have := HW6.out.size; simp at h' this; omega))) (.bool false) (.bool true) (.int .i64 L[j].page) (.int .i64 nd); rw [HEM.out] at HE; replace HE := Lib.hid HE; clear kp kb k9 ha3 hf3 hin3; simp at b0 b1 b2 b3 pc q0 q1 q2 q3))
      refine bodyPost_ret (v := .tuple #[gotV ⟨false, true, L[j].page, nd⟩, .int .i64 0]) ?_ rfl ⟨fun k => T k ∨ InB A3 k, rfl, HE.out.1.congr ?_ ?_, HE.out.2.1, HE.out.2.2⟩
      · simp [results, Try.results30, go_sem, gotV, *]
      · unfold putF
        rw [show (newFrm x blk).page = x from rfl, without_none (fun g hg => HNO.out g (mem_without.1 hg).1), ← HER.out, ← rcells_snoc, ← rcells_snoc]
        rfl
      · unfold putF
        rw [show (newFrm x blk).page = x from rfl, without_none (fun g hg => HNO.out g (mem_without.1 hg).1), ← HER.out]
        simp
    · have hpj := HFR.out.2 j hjl (by omega)
      have hp0 := HPN.out j hjl
      have d5 : decide (0 < L[j].pins) = true := pos_of hp0 hpj
      subst hgA
      go_wp2_with fail
      go_roundg (k + 1 - (j + 1))
      case measure => omega
      case rel => exact ⟨j + 1, by omega, rfl, by go_num, rfl⟩

set_option maxHeartbeats 8000000 in
theorem rget_shed {w : World} {T : Nat → Prop} {p n : Nat} {fl ck N : Int} {L : List Frm} {x : Int} (blk : Nat) (h : RP w T p n fl L) (hg : PGood n fl ck N L) (h1 : 1 ≤ x) (h2 : x ≤ 4096) (hfi : findF L x = none) (hl : L.length = n) {k : Nat} (hk : k < L.length) (hfr : freeF L = some k) (hd : L[k].dirty = false) :
    Calls Try.prog 30 #[.pointer (some ⟨p, 0, none⟩), .int .i64 x] w (RGetPost T p n (⟨false, false, L[k].page, 0⟩, 0, fl, ck + 1, putF ck (without L L[k].page) (newFrm x blk)) w) := by
  have HFR : Hid (L[k].pins = 0 ∧ ∀ i (hi : i < L.length), i < k → (L[i].pins == 0) = false) := Lib.hid (by
    unfold freeF at hfr
    obtain ⟨_, hp, hb⟩ := List.findIdx?_eq_some_iff_getElem.1 hfr
    exact ⟨by simpa using hp, fun i hi hik => by simpa using hb i hik⟩)
  clear hfr
  have HER := Lib.hid (er_without hg.nd hk)
  have HD := Lib.hid hd
  clear hd
  obtain ⟨i0, hi0, hz0, hz1, hz2⟩ := info_parts info72
  have d1 : decide (x < 1) = false := decide_eq_false (by omega)
  have d2 : decide (4096 < x) = false := decide_eq_false (by omega)
  have hll : L.length ≤ 64 := by have := hg.len; have := hg.n2; omega
  have d3 : decide ((n : Int) ≤ (L.length : Int)) = true := decide_eq_true (by omega)
  have f0 : Fr NoB w (w.alloc (.cells #[.bool false, .bool false, .int .i64 0, .int .i64 0] 66)) := (Fr.refl NoB w).alloc _
  have hf := find_any x (h.fr f0 (fun _ _ h => h))
  rw [hfi] at hf
  change Calls _ _ _ _ (fun e w' => e = .returned (.int .i64 (-1)) ∧ Fr NoB (w.alloc (.cells #[.bool false, .bool false, .int .i64 0, .int .i64 0] 66)) w') at hf
  have H := Lib.hid h
  have HNO := Lib.hid (frameOf_none (findF_none hfi))
  have HB0 := Lib.hid (Bk.new w 66 #[.bool false, .bool false, .int .i64 0, .int .i64 0])
  have hz : Hid ((w.alloc (.cells #[.bool false, .bool false, .int .i64 0, .int .i64 0] 66)).heap.size = w.heap.size + 1) := Lib.hid (by simp)
  have HF0 := Lib.hid f0
  have d4 : n ≤ L.length := by omega
  clear hl
  have HPN : Hid (∀ i (hi : i < L.length), 0 ≤ L[i].pins) := Lib.hid fun i hi => (hg.pin _ (List.getElem_mem hi)).1
  have HND := Lib.hid hg.nd
  clear hfi h hg f0
  go_enter Try.func30, Try.ntmps30
  go_wp2_with fail
  refine hf.mono ?_
  rintro e w1 ⟨rfl, f1⟩
  generalize (w.alloc (.cells #[.bool false, .bool false, .int .i64 0, .int .i64 0] 66)) = w0 at *
  obtain ⟨A, c, h1⟩ := ((H.out.fr HF0.out (fun _ _ h => h)).fr f1 (fun _ _ h => h)).open
  have k0 : Fr NoB w1 (w1.alloc (.cells #[.bool false, .bool false, .int .i64 0, .int .i64 0] 66)) := (Fr.refl _ _).alloc _
  have HA1 := Lib.hid (h1.fr k0 (fun _ _ h => h))
  have HB1 := Lib.hid ((HB0.out.fr f1 (fun h => h)).fr k0 (fun h => h))
  have HW1 := Lib.hid (f1.trans k0)
  have HB9 := Lib.hid (Bk.new w1 66 #[.bool false, .bool false, .int .i64 0, .int .i64 0])
  have hz9 : w.heap.size + 1 ≤ w1.heap.size := by have := f1.size; have := hz.out; omega
  clear h1 f1 k0
  go_wp2_with fail
  generalize hb9 : w1.heap.size = b9 at *
  clear hb9
  generalize w1.alloc (.cells #[.bool false, .bool false, .int .i64 0, .int .i64 0] 66) = w2 at *
  have c2 : w2.cell? ⟨p, 2, none⟩ = some (.slice A L.length c) := HA1.out.bk.cell 2
  have c0 : w2.cell? ⟨p, 0, none⟩ = some (.int .i64 n) := HA1.out.bk.cell 0
  go_quiet (fail)
  have fq : Fr NoB w2 (w2.drewN nq) := (Fr.refl NoB w2).drewN nq
  have HA2 := Lib.hid (HA1.out.fr fq (fun _ _ h => h))
  have HB2 := Lib.hid (HB1.out.fr fq (fun h => h))
  have HB92 := Lib.hid (HB9.out.fr fq (fun h => h))
  have HW2 := Lib.hid (HW1.out.trans fq)
  clear fq HA1 HB1 HB9 HW1 c0 c2
  generalize w2.drewN nq = w4 at *
  have c2 : w4.cell? ⟨p, 2, none⟩ = some (.slice A L.length c) := HA2.out.bk.cell 2
  go_wp2_with fail
  go_loopg [10] (k + 1) (fun g v10 wr => ∃ j : Nat, j ≤ k ∧ g = k + 1 - j ∧ v10 = .int .i64 j ∧ wr = w4)
  case atStart => exact ⟨0, Nat.zero_le _, rfl, rfl, rfl⟩
  case round =>
    obtain ⟨j, hj, rfl, rfl, rfl⟩ := hrel
    have hjl : j < L.length := by omega
    obtain ⟨g, hgA, hgl, hcell, hfz⟩ := rc_at HA2.out.ar hjl
    have y0 := hcell 0 _ rfl (by omega)
    have y1 := hcell 1 _ rfl (by omega)
    have y2 := hcell 2 _ rfl (by omega)
    have y4 := hcell 4 _ rfl (by omega)
    simp only [Nat.add_zero] at y0
    clear hcell
    by_cases hjk : j = k
    · subst hjk
      have hbne : ((j : Int) == (L.length : Int)) = false := by rw [beq_eq_false_iff_ne]; omega
      rw [HFR.out.1] at y1
      rw [HD.out] at y4
      have e1 : p ≠ b9 := HA2.out.bk.types HB92.out (by decide)
      have e2 : b9 ≠ p := e1.symm
      have hgb : g ≠ b9 := fun e => by
        obtain ⟨cur, hc⟩ := HA2.out.ar.blk (k := g) (by rw [hgA]; exact rfl)
        exact hc.types HB92.out (by decide) e
      have hgb' : b9 ≠ g := hgb.symm
      have o0 := HB92.out.cell 0
      have o1 := HB92.out.cell 1
      have o2 := HB92.out.cell 2
      have o3 := HB92.out.cell 3
      have of1 := HB92.out.frozen 1
      have of2 := HB92.out.frozen 2
      have of3 := HB92.out.frozen 3
      have gV : Fr (fun j => j = b9) wr ((wr.setCell ⟨b9, 2, none⟩ (.int .i64 L[j].page)).setCell ⟨b9, 1, none⟩ (.bool false)) := ((Fr.refl (fun j => j = b9) wr).setCell (p := ⟨b9, 2, none⟩) (.inl rfl) _).setCell (p := ⟨b9, 1, none⟩) (.inl rfl) _
      have b9l := HB92.out.lt
      have hw0 := HW2.out.size
      have hT : Hid (∀ k, T k → k < w.heap.size) := Lib.hid H.out.lt
      have HAV := Lib.hid (HA2.out.fr gV (fun k hk e => by have := hT.out k hk; omega))
      have HBV : Hid (Bk ((wr.setCell ⟨b9, 2, none⟩ (.int .i64 L[j].page)).setCell ⟨b9, 1, none⟩ (.bool false)) b9 66 #[.bool false, .bool false, .int .i64 L[j].page, .int .i64 0]) := Lib.hid ((HB92.out.set 2 _).set 1 _)
      have HB0V := Lib.hid (HB2.out.fr gV (fun e => by omega))
      have HWV := Lib.hid ((HW2.out.mono (fun _ _ h => h.elim)).join gV (S := T) (fun j e hs => by have := hz.out; omega))
      simp at o0 o1 o2 o3
      subst hgA
      have HA5 := HAV
      have HK9 := HBV
      have HK0 := HB0V
      have HW5 := HWV
      have hwi := without_any HA5.out.ar hll hjl
      have hbs : b9 < ((wr.setCell ⟨b9, 2, none⟩ (.int .i64 L[j].page)).setCell ⟨b9, 1, none⟩ (.bool false)).heap.size := HK9.out.lt
      clear HAV HBV HB0V HWV gV
      go_wp2_with fail
      refine hwi.mono ?_
      rintro e w6 ⟨A2, c6, rfl, arr6, new6, f6⟩
      have kp6 := HA5.out.bk.fr f6 (fun h => h)
      have pc6 := kp6.cell 2
      have pf6 := kp6.frozen 2
      simp at pc6
      have nA2 : Hid (∀ k, InB A2 k → w0.heap.size ≤ k ∧ p < k ∧ w.heap.size < k ∧ b9 < k) := Lib.hid fun k hk => by
        have := new6 k hk
        have := HA5.out.bk.lt
        have := hz.out
        have := HW5.out.size
        omega
      have g6 : Fr (fun j => j = p) w6 (w6.setCell ⟨p, 2, none⟩ (.slice A2 (L.eraseIdx j).length c6)) := Fr.setCell (S := fun j => j = p) (p := ⟨p, 2, none⟩) (Fr.refl _ w6) (.inl rfl) _
      have HKP6 := Lib.hid (kp6.set 2 (.slice A2 (L.eraseIdx j).length c6))
      have HKB6 := Lib.hid ((HK0.out.fr f6 (fun h => h)).fr g6 (fun e => by have := hT.out _ HA5.out.own; omega))
      have HK96 := Lib.hid ((HK9.out.fr f6 (fun h => h)).fr g6 e2)
      have HW6 := Lib.hid ((HW5.out.trans (f6.mono (fun _ _ h => h.elim))).trans (g6.mono (T := T) (fun j _ e => by subst e; exact HA5.out.own)))
      have hs6 : (w6.setCell ⟨p, 2, none⟩ (.slice A2 (L.eraseIdx j).length c6)).heap.size = w6.heap.size := by simp
      have HG : Hid (Arr ((w6.setCell ⟨p, 2, none⟩ (.slice A2 (L.eraseIdx j).length c6)).alloc (.cells (rc ⟨x, 1, 0, 0, 0, false, 0⟩).toArray 72)) 72 5 A2 (L.eraseIdx j).length c6 (rcells (L.eraseIdx j)) ∧ Rd ((w6.setCell ⟨p, 2, none⟩ (.slice A2 (L.eraseIdx j).length c6)).alloc (.cells (rc ⟨x, 1, 0, 0, 0, false, 0⟩).toArray 72)) (fun k => k = w6.heap.size) 5 (some ⟨w6.heap.size, 0, none⟩) 1 1 (rc ⟨x, 1, 0, 0, 0, false, 0⟩)) :=
        Lib.hid ⟨(arr6.fr g6 (fun k hk e => by have := nA2.out k hk; omega)).fr ((Fr.refl NoB _).alloc _) (fun _ _ h => h), by have := rd_five (Bk.new (w6.setCell ⟨p, 2, none⟩ (.slice A2 (L.eraseIdx j).length c6)) 72 (rc ⟨x, 1, 0, 0, 0, false, 0⟩).toArray); rw [hs6] at this; exact this⟩
      have hML : (L.eraseIdx j).length ≤ 64 := Nat.le_trans (List.length_eraseIdx_le _ _) hll
      have HEM : Hid (((L.eraseIdx j) ++ [(⟨x, 1, 0, 0, 0, false, 0⟩ : Frm)]).length = (L.eraseIdx j).length + 1) := Lib.hid (by simp)
      clear kp6 g6 hs6 arr6 new6 f6 hwi HA5 HK9 HK0 HW5 HA2 HB2 HB92 HW2
      go_wp2_with (at_builtin; go_loud (refine wpList_append_arr _ rfl _ _ 63 rfl 72 i0 _ 5 40 Try.underlying63 hi0 hz0 hz1 hz2 rfl A2 (L.eraseIdx j).length c6 (rcells (L.eraseIdx j)) rfl HG.out.1 _ (some ⟨_, 0, none⟩) 1 1 (rc ⟨x, 1, 0, 0, 0, false, 0⟩) rfl HG.out.2 (by intro u hu; simp [rc] at hu; rcases hu with rfl | rfl | rfl | rfl | rfl <;> rfl) (by simp only [maxLen]; omega) (by omega) ?_; intro A3 c3 w3 ha3 hf3 hin3 _; have kp := (HKP6.out.fr ((Fr.refl NoB _).alloc (.cells (rc ⟨x, 1, 0, 0, 0, false, 0⟩).toArray 72)) (fun h => h)).fr hf3 (fun hk => by have := nA2.out _ hk; omega); have kb := (HKB6.out.fr ((Fr.refl NoB _).alloc (.cells (rc ⟨x, 1, 0, 0, 0, false, 0⟩).toArray 72)) (fun h => h)).fr hf3 (fun hk => by have := nA2.out _ hk; omega); have k9 := (HK96.out.fr ((Fr.refl NoB _).alloc (.cells (rc ⟨x, 1, 0, 0, 0, false, 0⟩).toArray 72)) (fun h => h)).fr hf3 (fun hk => by have := nA2.out _ hk; omega); have pf := kp.frozen 2; have pc := kp.cell 2; have b0 := kb.cell 0; have b1 := kb.cell 1; have b2 := kb.cell 2; have b3 := kb.cell 3; have bf0 := kb.frozen 0; have bf1 := kb.frozen 1; have bf2 := kb.frozen 2; have bf3 := kb.frozen 3; have q0 := k9.cell 0; have q1 := k9.cell 1; have q2 := k9.cell 2; have q3 := k9.cell 3; have e5 := kb.types kp (by decide); have e6 := e5.symm; have e7 := k9.types kp (by decide); have e8 := e7.symm; have HE := lay_end H.out HF0.out hz.out (((HW6.out.trans (((Fr.refl NoB _).alloc (.cells (rc ⟨x, 1, 0, 0, 0, false, 0⟩).toArray 72)).mono (fun _ _ h => h.elim)))).join hf3 (fun j hs hj => by have := nA2.out _ hj; omega)) kp (M := (L.eraseIdx j) ++ [(⟨x, 1, 0, 0, 0, false, 0⟩ : Frm)]) (by rw [HEM.out, ← rcells_snoc]; exact ha3) (fun k hk => (hin3 k hk).elim (fun h' => .inr (by have := nA2.out _ h'; omega)) (fun h' => .inr (by have := HW6.out.size; simp at h' this; omega))) (.bool false) (.bool false) (.int .i64 L[j].page) (.int .i64 0); rw [HEM.out] at HE; replace HE := Lib.hid HE; clear kp kb k9 ha3 hf3 hin3; simp at b0 b1 b2 b3 pc q0 q1 q2 q3))
      refine bodyPost_ret (v := .tuple #[gotV ⟨false, false, L[j].page, 0⟩, .int .i64 0]) ?_ rfl ⟨fun k => T k ∨ InB A3 k, rfl, HE.out.1.congr ?_ ?_, HE.out.2.1, HE.out.2.2⟩
      · simp [results, Try.results30, go_sem, gotV, *]
      · unfold putF
        rw [show (newFrm x blk).page = x from rfl, without_none (fun g hg => HNO.out g (mem_without.1 hg).1), ← HER.out, ← rcells_snoc, ← rcells_snoc]
        rfl
      · unfold putF
        rw [show (newFrm x blk).page = x from rfl, without_none (fun g hg => HNO.out g (mem_without.1 hg).1), ← HER.out]
        simp
    · have hpj := HFR.out.2 j hjl (by omega)
      have hp0 := HPN.out j hjl
      have d5 : decide (0 < L[j].pins) = true := pos_of hp0 hpj
      subst hgA
      go_wp2_with fail
      go_roundg (k + 1 - (j + 1))
      case measure => omega
      case rel => exact ⟨j + 1, by omega, rfl, by go_num, rfl⟩

theorem findF_someF {L : List Frm} (hn : (L.map (·.page)).Nodup) {x : Int} {f : Frm} (h : frameOf L x = some f) : ∃ i, ∃ hi : i < L.length, findF L L[i].page = some i ∧ L[i] = f ∧ L[i].page = x := by
  obtain ⟨hf, rfl⟩ := frameOf_some h
  cases hi : findF L f.page with
  | none => rw [findF_none hi] at h; cases h
  | some i =>
    obtain ⟨hil, hp⟩ := findF_some hi
    exact ⟨i, hil, by rw [hp]; exact hi, page_unique hn (List.getElem_mem hil) hf hp, hp⟩
theorem findF_noneF {L : List Frm} {x : Int} (h : frameOf L x = none) : findF L x = none := by
  cases hi : findF L x with
  | none => rfl
  | some i =>
    obtain ⟨hil, hp⟩ := findF_some hi
    exact absurd hp (frameOf_none h _ (List.getElem_mem hil))
theorem rget_any {w : World} {T : Nat → Prop} {p n : Nat} {fl ck N : Int} {L : List Frm} (x : Int) (blk : Nat) (h : RP w T p n fl L) (hg : PGood n fl ck N L) (hN : N + 1 ≤ 9223372036854775807) :
    Calls Try.prog 30 #[.pointer (some ⟨p, 0, none⟩), .int .i64 x] w (RGetPost T p n (getF n fl ck L x blk) w) := by
  unfold getF
  by_cases hx : 1 ≤ x ∧ x ≤ 4096
  · rw [if_pos hx]
    cases hfo : frameOf L x with
    | some f =>
      obtain ⟨i, hi, hfi, rfl, rfl⟩ := findF_someF hg.nd hfo
      exact rget_hit h hg hN hi hfi
    | none =>
      have hfi := findF_noneF hfo
      simp only []
      by_cases hl : L.length < n
      · rw [if_pos hl]
        exact rget_miss blk h hg hx.1 hx.2 hfi hl
      · rw [if_neg hl]
        have hl2 : L.length = n := by have := hg.len; omega
        cases hfr : freeF L with
        | none => exact rget_full h hg hx.1 hx.2 hfi hl2 hfr
        | some k =>
          have hk : k < L.length := by
            unfold freeF at hfr
            exact (List.findIdx?_eq_some_iff_getElem.1 hfr).1
          simp only [Option.bind_some, List.getElem?_eq_getElem hk]
          cases hd : L[k].dirty with
          | true => exact rget_wash blk h hg hx.1 hx.2 hfi hl2 hk hfr hd
          | false => exact rget_shed blk h hg hx.1 hx.2 hfi hl2 hk hfr hd
  · rw [if_neg hx]
    exact rget_bad x ck h (by omega)
end Go.Proofs.Ytmbabgaanpjmpaa
