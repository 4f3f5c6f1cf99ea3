/- Get: no frame is empty. -/
import Derived.Test.YtmbabgaanpjmpaaGetC
namespace Go.Proofs.Ytmbabgaanpjmpaa
open Go.RowKit

theorem fr_four (b : Nat) (V : World) (v0 v1 v2 v3 : Value) : Fr (fun j => j = b) V ((((V.setCell ⟨b, 0, none⟩ v0).setCell ⟨b, 1, none⟩ v1).setCell ⟨b, 2, none⟩ v2).setCell ⟨b, 3, none⟩ v3) :=
  ((((Fr.refl (fun j => j = b) V).setCell (p := ⟨b, 0, none⟩) (.inl rfl) v0).setCell (p := ⟨b, 1, none⟩) (.inl rfl) v1).setCell (p := ⟨b, 2, none⟩) (.inl rfl) v2).setCell (p := ⟨b, 3, none⟩) (.inl rfl) v3
theorem Own.outw {w W : World} {p b0 b1 b2 : Nat} {o : Got} (h : Own w p b0 b1 b2 o W) (x : Int) (d : Bool) : Own w p b0 b1 b2 { o with out := x, write := d } ((W.setCell ⟨b2, 2, none⟩ (.int .i64 x)).setCell ⟨b2, 1, none⟩ (.bool d)) ∧ Fr (fun j => j = b2) W ((W.setCell ⟨b2, 2, none⟩ (.int .i64 x)).setCell ⟨b2, 1, none⟩ (.bool d)) := by
  have f2 : Fr (fun j => j = b2) W ((W.setCell ⟨b2, 2, none⟩ (.int .i64 x)).setCell ⟨b2, 1, none⟩ (.bool d)) := ((Fr.refl (fun j => j = b2) W).setCell (p := ⟨b2, 2, none⟩) (.inl rfl) _).setCell (p := ⟨b2, 1, none⟩) (.inl rfl) _
  exact ⟨⟨h.k0.fr f2 h.d02, h.k1.fr f2 h.d12, (h.k2.set 2 _).set 1 _, h.n0, h.n1, h.n2, h.d01, h.d02, h.d12⟩, f2⟩
theorem Own.nd {w W : World} {p b0 b1 b2 : Nat} {o : Got} (h : Own w p b0 b1 b2 o W) (x : Int) : Own w p b0 b1 b2 { o with need := x } (W.setCell ⟨b2, 3, none⟩ (.int .i64 x)) ∧ Fr (fun j => j = b2) W (W.setCell ⟨b2, 3, none⟩ (.int .i64 x)) := by
  have f2 : Fr (fun j => j = b2) W (W.setCell ⟨b2, 3, none⟩ (.int .i64 x)) := (Fr.refl (fun j => j = b2) W).setCell (p := ⟨b2, 3, none⟩) (.inl rfl) _
  exact ⟨⟨h.k0.fr f2 h.d02, h.k1.fr f2 h.d12, h.k2.set 3 _, h.n0, h.n1, h.n2, h.d01, h.d02, h.d12⟩, f2⟩

set_option maxHeartbeats 4000000 in
theorem get_full {w : World} {S : Nat → Prop} {p n : Nat} {fl ck N : Int} {L : List Frm} {x : Int} (h : PoolRaw w S p n fl ck L) (hg : PGood n fl ck N L) (h1 : 1 ≤ x) (h2 : x ≤ 4096) (hno : ∀ f ∈ L, f.page ≠ x) (hl : L.length = n) (hfr : freeF L = none) :
    Calls Try.prog 11 #[.pointer (some ⟨p, 0, none⟩), .int .i64 x] w (GetPost S p n (fun _ => (got0, 5, fl, ck, L)) w) := by
  have d1 : decide (x < 1) = false := decide_eq_false (by omega)
  have d2 : decide (4096 < x) = false := decide_eq_false (by omega)
  have hW : Fr NoB w (((w.alloc (.cells #[.pointer (some ⟨p, 0, none⟩)] 23)).alloc (.cells #[.bool false, .bool false, .int .i64 0, .int .i64 0] 34)).alloc (.cells #[.bool false, .bool false, .int .i64 0, .int .i64 0] 34)) := (((Fr.refl NoB w).alloc _).alloc _).alloc _
  have ho := own_made w p
  have hP := h.fr hW (fun _ _ h => h)
  have hat := at_none hP (x := x) (by unfold okI; omega) hno
  have HO := Lib.hid ho
  have HP := Lib.hid hP
  have HW := Lib.hid hW
  have HG := Lib.hid hg
  have HNO := Lib.hid hno
  obtain ⟨bm, hbp, hmp, hbS⟩ := hP.ex
  have HBP := Lib.hid hbp
  have HMP := Lib.hid hmp
  have hlt := h.lt
  have hlen : ((L.length : Int) == (n : Int)) = true := by rw [beq_iff_eq]; omega
  have hkl : (keysP L).length = L.length := by simp [keysP]
  have HKL := Lib.hid hkl
  have hLl : L.length ≤ 64 := by have := hg.len; have := hg.n2; omega
  have HL := Lib.hid hl
  clear ho hP hW hg hno h hbp hmp hkl hl
  go_enter Try.func11, Try.ntmps11
  go_wp2_with fail
  refine hat.mono ?_
  rintro e w' ⟨rfl, rfl⟩
  generalize ((w.alloc (.cells #[.pointer (some ⟨p, 0, none⟩)] 23)).alloc (.cells #[.bool false, .bool false, .int .i64 0, .int .i64 0] 34)).alloc (.cells #[.bool false, .bool false, .int .i64 0, .int .i64 0] 34) = W at *
  have q0 : W.cell? ⟨w.heap.size, 0, none⟩ = some (.pointer (some ⟨p, 0, none⟩)) := HO.out.k0.cell 0
  have pc0 : W.cell? ⟨p, 0, none⟩ = some (.int .i64 n) := HBP.out.cell 0
  have pc3 : W.cell? ⟨p, 3, none⟩ = some (.map (some bm)) := HBP.out.cell 3
  have hlm : ∀ (k : Nat) (ty : TypeId), (Builtin.len_ #[51] ty #[.map (some bm)]).run Try.prog (W.drewN k) = .ok (.int .i64 L.length) (W.drewN k) := fun k ty => by
    have := (HMP.out.fr ((Fr.refl NoB W).drewN k) (fun h => h)).run_len Try.underlying51 ty
    rwa [HKL.out] at this
  go_wp2_with fail
  go_quiet (fail)
  have fq : Fr NoB W (W.drewN nq) := (Fr.refl NoB W).drewN nq
  have hpages := pages_any (HP.out.fr fq (fun _ _ h => h)) HG.out
  have FQ := Lib.hid fq
  clear fq
  go_wp2_with fail
  refine hpages.mono ?_
  rintro e v1 ⟨A, c, rfl, ha, hup, hf1⟩
  have fq1 : Fr NoB W v1 := FQ.out.trans hf1
  have HO1 := Lib.hid (HO.out.fr fq1 (fun _ h => h.elim))
  have HP1 := Lib.hid (HP.out.fr fq1 (fun _ _ h => h))
  have HW1 := Lib.hid (HW.out.trans fq1)
  have HBP1 := Lib.hid (HBP.out.fr fq1 (fun h => h))
  have HMP1 := Lib.hid (HMP.out.fr fq1 (fun h => h))
  have q1 : v1.cell? ⟨w.heap.size, 0, none⟩ = some (.pointer (some ⟨p, 0, none⟩)) := HO1.out.k0.cell 0
  have hidx := index_any HP1.out HG.out q1 ha.rd
  have HA := Lib.hid ha
  have hup' : ∀ k, InB A k → W.heap.size ≤ k := hup
  have HU := Lib.hid hup'
  have hWs := HO.out.lens.2.2
  clear hpages ha hup hup' hf1 fq1 HO HP HW HBP HMP hlm pc0 pc3 FQ q0
  rw [hfr] at hidx
  change Calls _ _ _ _ (fun e w' => e = .returned (.int .i64 (-1)) ∧ v1 = w') at hidx
  have HE : Hid (∀ v0 v1' v2 v3, PoolRaw ((((v1.setCell ⟨w.heap.size + 1, 0, none⟩ v0).setCell ⟨w.heap.size + 1, 1, none⟩ v1').setCell ⟨w.heap.size + 1, 2, none⟩ v2).setCell ⟨w.heap.size + 1, 3, none⟩ v3) S p n fl ck L ∧ Fr S w ((((v1.setCell ⟨w.heap.size + 1, 0, none⟩ v0).setCell ⟨w.heap.size + 1, 1, none⟩ v1').setCell ⟨w.heap.size + 1, 2, none⟩ v2).setCell ⟨w.heap.size + 1, 3, none⟩ v3)) := Lib.hid fun v0 v1' v2 v3 => by
    have hh := fr_four (w.heap.size + 1) v1 v0 v1' v2 v3
    exact ⟨HP1.out.fr hh (fun k hk e => by have := hlt k hk; omega), (HW1.out.mono (fun _ _ h => h.elim)).join hh (fun j e _ => by omega)⟩
  have r0 := HO1.out.k1.cell 0
  have r1 := HO1.out.k1.cell 1
  have r2 := HO1.out.k1.cell 2
  have r3 := HO1.out.k1.cell 3
  have rf0 := HO1.out.k1.frozen 0
  have rf1 := HO1.out.k1.frozen 1
  have rf2 := HO1.out.k1.frozen 2
  have rf3 := HO1.out.k1.frozen 3
  clear HO1 HP1 HW1 HBP1 HMP1 HG HNO
  simp at r0 r1 r2 r3
  go_wp2_with fail
  refine hidx.mono ?_
  rintro e w' ⟨rfl, rfl⟩
  go_wp2_with fail
  refine bodyPost_ret (v := .tuple #[gotV got0, .int .i64 5]) ?_ rfl ⟨0, S, rfl, (HE.out _ _ _ _).1, (HE.out _ _ _ _).2, fun _ h => .inl h⟩
  simp [results, Try.results11, go_sem, gotV, got0, *]

set_option maxHeartbeats 8000000 in
theorem get_wash {w : World} {S : Nat → Prop} {p n : Nat} {fl ck N : Int} {L : List Frm} {x : Int} (h : PoolRaw w S p n fl ck L) (hg : PGood n fl ck N L) (hN : N + 1 ≤ 9223372036854775807) (h1 : 1 ≤ x) (h2 : x ≤ 4096) (hno : ∀ f ∈ L, f.page ≠ x) (hl : L.length = n) {k : Nat} (hfr : freeF L = some k) {f : Frm} (hk : k < L.length) (hfk : L[k] = f) (hd : f.dirty = true) :
    Calls Try.prog 11 #[.pointer (some ⟨p, 0, none⟩), .int .i64 x] w (GetPost S p n (fun blk => (⟨false, true, f.page, (needF fl f.lsn).1⟩, 0, (needF fl f.lsn).2, ck + 1, putF ck (without L f.page) (newFrm x blk))) w) := by
  obtain ⟨fl2, hfl2⟩ : ∃ fl2, fl2 = (needF fl f.lsn).2 := ⟨_, rfl⟩
  obtain ⟨nd, hnd⟩ : ∃ nd, nd = (needF fl f.lsn).1 := ⟨_, rfl⟩
  obtain ⟨g5, hg5⟩ : ∃ g5 : Got, g5 = ⟨false, true, f.page, nd⟩ := ⟨_, rfl⟩
  rw [← hfl2, ← hnd, ← hg5]
  replace hnd := Lib.hid hnd
  replace hfl2 := Lib.hid hfl2
  replace hg5 := Lib.hid hg5
  have hfL : f ∈ L := by rw [← hfk]; exact List.getElem_mem hk
  have HF := Lib.hid hfL
  have hpg := hg.pg f hfL
  have HOK : Hid (okI f.page) := Lib.hid (by unfold okI; omega)
  have d1 : decide (x < 1) = false := decide_eq_false (by omega)
  have d2 : decide (4096 < x) = false := decide_eq_false (by omega)
  have hW : Fr NoB w (((w.alloc (.cells #[.pointer (some ⟨p, 0, none⟩)] 23)).alloc (.cells #[.bool false, .bool false, .int .i64 0, .int .i64 0] 34)).alloc (.cells #[.bool false, .bool false, .int .i64 0, .int .i64 0] 34)) := (((Fr.refl NoB w).alloc _).alloc _).alloc _
  have ho := own_made w p
  have hP := h.fr hW (fun _ _ h => h)
  have hat := at_none hP (x := x) (by unfold okI; omega) hno
  have HO := Lib.hid ho
  have HP := Lib.hid hP
  have HW := Lib.hid hW
  have HG := Lib.hid hg
  have HNO := Lib.hid hno
  obtain ⟨bm, hbp, hmp, hbS⟩ := hP.ex
  have HBP := Lib.hid hbp
  have HMP := Lib.hid hmp
  have hlt := h.lt
  have hlen : ((L.length : Int) == (n : Int)) = true := by rw [beq_iff_eq]; omega
  have hkl : (keysP L).length = L.length := by simp [keysP]
  have HKL := Lib.hid hkl
  have hLl : L.length ≤ 64 := by have := hg.len; have := hg.n2; omega
  have HL := Lib.hid hl
  clear ho hP hW hg hno h hbp hmp hkl hl
  go_enter Try.func11, Try.ntmps11
  go_wp2_with fail
  refine hat.mono ?_
  rintro e w' ⟨rfl, rfl⟩
  generalize ((w.alloc (.cells #[.pointer (some ⟨p, 0, none⟩)] 23)).alloc (.cells #[.bool false, .bool false, .int .i64 0, .int .i64 0] 34)).alloc (.cells #[.bool false, .bool false, .int .i64 0, .int .i64 0] 34) = W at *
  have q0 : W.cell? ⟨w.heap.size, 0, none⟩ = some (.pointer (some ⟨p, 0, none⟩)) := HO.out.k0.cell 0
  have pc0 : W.cell? ⟨p, 0, none⟩ = some (.int .i64 n) := HBP.out.cell 0
  have pc3 : W.cell? ⟨p, 3, none⟩ = some (.map (some bm)) := HBP.out.cell 3
  have hlm : ∀ (k : Nat) (ty : TypeId), (Builtin.len_ #[51] ty #[.map (some bm)]).run Try.prog (W.drewN k) = .ok (.int .i64 L.length) (W.drewN k) := fun k ty => by
    have := (HMP.out.fr ((Fr.refl NoB W).drewN k) (fun h => h)).run_len Try.underlying51 ty
    rwa [HKL.out] at this
  go_wp2_with fail
  go_quiet (fail)
  have fq : Fr NoB W (W.drewN nq) := (Fr.refl NoB W).drewN nq
  have hpages := pages_any (HP.out.fr fq (fun _ _ h => h)) HG.out
  have FQ := Lib.hid fq
  clear fq
  go_wp2_with fail
  refine hpages.mono ?_
  rintro e v1 ⟨A, c, rfl, ha, hup, hf1⟩
  have fq1 : Fr NoB W v1 := FQ.out.trans hf1
  have HO1 := Lib.hid (HO.out.fr fq1 (fun _ h => h.elim))
  have HP1 := Lib.hid (HP.out.fr fq1 (fun _ _ h => h))
  have HW1 := Lib.hid (HW.out.trans fq1)
  have HBP1 := Lib.hid (HBP.out.fr fq1 (fun h => h))
  have HMP1 := Lib.hid (HMP.out.fr fq1 (fun h => h))
  have q1 : v1.cell? ⟨w.heap.size, 0, none⟩ = some (.pointer (some ⟨p, 0, none⟩)) := HO1.out.k0.cell 0
  have hidx := index_any HP1.out HG.out q1 ha.rd
  have HA := Lib.hid ha
  have hup' : ∀ k, InB A k → W.heap.size ≤ k := hup
  have HU := Lib.hid hup'
  have hWs := HO.out.lens.2.2
  clear hpages ha hup hup' hf1 fq1 HO HP HW HBP HMP hlm pc0 pc3 FQ q0
  rw [hfr] at hidx
  change Calls _ _ _ _ (fun e w' => e = .returned (.int .i64 (k : Int)) ∧ v1 = w') at hidx
  obtain ⟨b, off, hA, y0⟩ := int_cell (xs := L.map (·.page)) (by rw [List.length_map]; exact HA.out.rd) (j := k) (by rw [List.length_map]; exact hk)
  rw [List.getElem_map, hfk] at y0
  have hin : InB A b := by rw [hA]; exact rfl
  have hbn := HU.out b hin
  have y4 : v1.cell? ⟨f.blk, 4, none⟩ = some (.bool f.dirty) := (HP1.out.cells HF.out 4).1
  have p3 : v1.cell? ⟨p, 3, none⟩ = some (.map (some bm)) := HBP1.out.cell 3
  have hl13 : ∀ m, (Instr.lookup 51 (.map (some bm)) (.int .i64 f.page) false).run Try.prog (v1.drewN m) = .ok (.pointer (some ⟨f.blk, 0, none⟩)) (v1.drewN m) := fun m => by
    have := (HMP1.out.fr ((Fr.refl NoB v1).drewN m) (fun h => h)).run_look elemP Try.underlying3 Try.underlying51 none trivial (zero58 _) HOK.out
    rw [val_page HG.out.nd HF.out] at this
    exact this
  subst hA
  rw [hd] at y4
  clear hpg hfk
  go_wp2_with fail
  refine hidx.mono ?_
  rintro e w' ⟨rfl, rfl⟩
  go_wp2_with fail
  go_quiet (fail)
  go_wp2_with fail
  have q1n : ((v1.drewN nq).drew).cell? ⟨b, off + k, none⟩ = some (.int .i64 f.page) := y0
  have q4n : ((v1.drewN nq).drew).cell? ⟨f.blk, 4, none⟩ = some (.bool true) := y4
  have fq2 : Fr NoB v1 ((v1.drewN nq).drew) := ((Fr.refl NoB v1).drewN nq).drew
  have g2 : Fr (fun j => j = w.heap.size + 1 + 1) ((v1.drewN nq).drew) (((v1.drewN nq).drew).setCell ⟨w.heap.size + 1 + 1, 2, none⟩ (.int .i64 f.page)) := (Fr.refl (fun j => j = w.heap.size + 1 + 1) _).setCell (p := ⟨w.heap.size + 1 + 1, 2, none⟩) (.inl rfl) _
  have hfw := hlt _ (HP1.out.frs f HF.out).2
  have o2 := HO1.out.k2.cell 2
  have of2 := HO1.out.k2.frozen 2
  have o1 := HO1.out.k2.cell 1
  have of1 := HO1.out.k2.frozen 1
  simp at o1 o2
  refine wp_region_plan 11 (fun w' => w'.cell? ⟨b, off + k, none⟩ = some (.int .i64 f.page) ∧ w'.cell? ⟨f.blk, 4, none⟩ = some (.bool true))
    [(0, 0), (1, 0), (2, 0), (3, 1), (4, 0), (5, 0), (6, 0), (7, 1), (8, 0), (9, 2), (10, 0), (11, 2)] (by kernel_rfl) (by kernel_rfl) (fun _ _ _ _ _ h => h) ⟨q1n, q4n⟩ ?_
  refine wpPlan_free _ ?_ rfl (by rfl) (fun w' => ?_) ?_
  rotate_left
  · go_simp; with_reducible rfl
  simp only [Act.put, List.setIfInBounds_toArray, List.set_cons_zero, List.set_cons_succ]
  refine wpPlan_free _ ?_ rfl (by rfl) (fun w' => ?_) ?_
  rotate_left
  · go_simp; with_reducible rfl
  simp only [Act.put, List.setIfInBounds_toArray, List.set_cons_zero, List.set_cons_succ]
  refine wpPlan_free _ ?_ rfl (by rfl) (fun w' => ?_) ?_
  rotate_left
  · go_simp; with_reducible rfl
  simp only [Act.put, List.setIfInBounds_toArray, List.set_cons_zero, List.set_cons_succ]
  refine wpPlan_held _ ?_ rfl (by rfl) (fun w' hS => ?_) ?_
  rotate_left
  · obtain ⟨e0, e1⟩ := hS; go_simp; with_reducible rfl
  simp only [Act.put, List.setIfInBounds_toArray, List.set_cons_zero, List.set_cons_succ]
  refine wpPlan_free _ ?_ rfl (by rfl) (fun w' => ?_) ?_
  rotate_left
  · go_simp; with_reducible rfl
  simp only [Act.put, List.setIfInBounds_toArray, List.set_cons_zero, List.set_cons_succ]
  refine wpPlan_free _ ?_ rfl (by rfl) (fun w' => ?_) ?_
  rotate_left
  · go_simp; with_reducible rfl
  simp only [Act.put, List.setIfInBounds_toArray, List.set_cons_zero, List.set_cons_succ]
  refine wpPlan_free _ ?_ rfl (by rfl) (fun w' => ?_) ?_
  rotate_left
  · go_simp; with_reducible rfl
  simp only [Act.put, List.setIfInBounds_toArray, List.set_cons_zero, List.set_cons_succ]
  refine wpPlan_held _ ?_ rfl (by rfl) (fun w' hS => ?_) ?_
  rotate_left
  · obtain ⟨e0, e1⟩ := hS; go_simp; with_reducible rfl
  simp only [Act.put, List.setIfInBounds_toArray, List.set_cons_zero, List.set_cons_succ]
  refine wpPlan_free _ ?_ rfl (by rfl) (fun w' => ?_) ?_
  rotate_left
  · go_simp; with_reducible rfl
  simp only [Act.put, List.setIfInBounds_toArray, List.set_cons_zero, List.set_cons_succ]
  refine wpPlan_do _ rfl (fun K hK => ?_)
  go_simp
  refine hK _ _ (fun _ => ⟨g2.cell_some q1n (show ¬ b = w.heap.size + 1 + 1 by omega), g2.cell_some q4n (show ¬ f.blk = w.heap.size + 1 + 1 by omega)⟩) ?_
  clear hK K
  refine wpPlan_free _ ?_ rfl (by rfl) (fun w' => ?_) ?_
  rotate_left
  · go_simp; with_reducible rfl
  simp only [Act.put, List.setIfInBounds_toArray, List.set_cons_zero, List.set_cons_succ]
  refine wpPlan_do _ rfl (fun K hK => ?_)
  go_simp
  refine hK _ _ (fun h => by cases h) ?_
  clear hK K
  refine wpPlan_nil ?_
  have fq3 : Fr NoB v1 (v1.drewN (nq + 1)) := (Fr.refl NoB v1).drewN _
  obtain ⟨z1, z2⟩ := (HO1.out.fr fq3 (fun _ h => h.elim)).outw f.page true
  have HO2 := Lib.hid z1
  have HP2 := Lib.hid ((HP1.out.fr fq3 (fun _ _ h => h)).fr z2 (fun k hk e => by have := hlt k hk; omega))
  have HW2 : Hid (Fr S w (((v1.drewN (nq + 1)).setCell ⟨w.heap.size + 1 + 1, 2, none⟩ (.int .i64 f.page)).setCell ⟨w.heap.size + 1 + 1, 1, none⟩ (.bool true))) := Lib.hid (((HW1.out.trans fq3).mono (fun _ _ h => h.elim)).join z2 (fun j e _ => by omega))
  have y02 := z2.cell_some (fq3.cell_some y0 (fun h => h)) (show ¬ b = w.heap.size + 1 + 1 by omega)
  have y42 := (HP2.out.cells HF.out 4).1
  clear z1 z2 fq3 fq2 q1n q4n g2 o1 o2 of1 of2 HO1 HP1 HW1 HBP1 HMP1 hl13 p3 y0 y4 q1 hidx HA HU
  generalize ((v1.drewN (nq + 1)).setCell ⟨w.heap.size + 1 + 1, 2, none⟩ (.int .i64 f.page)).setCell ⟨w.heap.size + 1 + 1, 1, none⟩ (.bool true) = v2 at *
  simp only [fcells] at y42
  change v2.cell? _ = some (.bool f.dirty) at y42
  rw [hd] at y42
  have q2 := HO2.out.k0.cell 0
  go_wp2_with fail
  have hneed := need_any HP2.out HF.out
  unfold NeedPost at hneed
  rw [← hfl2.out, ← hnd.out] at hneed
  refine hneed.mono ?_
  rintro e v3 ⟨rfl, hP3, hf3⟩
  have HO3 := Lib.hid (HO2.out.fr hf3 (fun k hk => .inl (hlt k hk)))
  have o3 := HO3.out.k2.cell 3
  have of3 := HO3.out.k2.frozen 3
  have q3 : v3.cell? ⟨w.heap.size, 0, none⟩ = some (.pointer (some ⟨p, 0, none⟩)) := HO3.out.k0.cell 0
  have hbS' : ¬ S b := fun hb => by have := hlt _ hb; omega
  obtain ⟨z1, z2⟩ := HO3.out.nd nd
  have HO4 := Lib.hid z1
  have HP4 := Lib.hid (hP3.fr z2 (fun k hk e => by have := hlt k hk; omega))
  have HW4 : Hid (Fr S w (v3.setCell ⟨w.heap.size + 1 + 1, 3, none⟩ (.int .i64 nd))) := Lib.hid ((HW2.out.trans hf3).join z2 (fun j e _ => by omega))
  have y04 := z2.cell_some (hf3.cell_some y02 hbS') (show ¬ b = w.heap.size + 1 + 1 by omega)
  clear z1 z2 hP3 hf3 HO2 HP2 HW2 y02 y42 q2 HO3
  go_wp2_with fail
  generalize v3.setCell ⟨w.heap.size + 1 + 1, 3, none⟩ (.int .i64 nd) = v4 at *
  simp only [got0] at HO4
  rw [← hg5.out] at HO4
  have q4 := HO4.out.k0.cell 0
  obtain ⟨bm4, hbp4, hmp4, hbS4⟩ := HP4.out.ex
  have p34 := hbp4.cell 3
  have HBP4 := Lib.hid hbp4
  have HMP4 := Lib.hid hmp4
  clear hbp4 hmp4
  simp at q4 p34
  refine wp_region_plan 9 (fun w' => w'.cell? ⟨w.heap.size, 0, none⟩ = some (.pointer (some ⟨p, 0, none⟩)) ∧ w'.cell? ⟨p, 3, none⟩ = some (.map (some bm4)) ∧ w'.cell? ⟨b, off + k, none⟩ = some (.int .i64 f.page))
    [(0, 1), (1, 0), (2, 0), (3, 1), (4, 0), (5, 0), (6, 0), (7, 1), (8, 2)] (by kernel_rfl) (by kernel_rfl) (fun _ _ _ _ _ h => h) ⟨q4, p34, y04⟩ ?_
  refine wpPlan_held _ ?_ rfl (by rfl) (fun w' hS => ?_) ?_
  rotate_left
  · obtain ⟨e0, e1, e2⟩ := hS; go_simp; with_reducible rfl
  simp only [Act.put, List.setIfInBounds_toArray, List.set_cons_zero, List.set_cons_succ]
  refine wpPlan_free _ ?_ rfl (by rfl) (fun w' => ?_) ?_
  rotate_left
  · go_simp; with_reducible rfl
  simp only [Act.put, List.setIfInBounds_toArray, List.set_cons_zero, List.set_cons_succ]
  refine wpPlan_free _ ?_ rfl (by rfl) (fun w' => ?_) ?_
  rotate_left
  · go_simp; with_reducible rfl
  simp only [Act.put, List.setIfInBounds_toArray, List.set_cons_zero, List.set_cons_succ]
  refine wpPlan_held _ ?_ rfl (by rfl) (fun w' hS => ?_) ?_
  rotate_left
  · obtain ⟨e0, e1, e2⟩ := hS; go_simp; with_reducible rfl
  simp only [Act.put, List.setIfInBounds_toArray, List.set_cons_zero, List.set_cons_succ]
  refine wpPlan_free _ ?_ rfl (by rfl) (fun w' => ?_) ?_
  rotate_left
  · go_simp; with_reducible rfl
  simp only [Act.put, List.setIfInBounds_toArray, List.set_cons_zero, List.set_cons_succ]
  refine wpPlan_free _ ?_ rfl (by rfl) (fun w' => ?_) ?_
  rotate_left
  · go_simp; with_reducible rfl
  simp only [Act.put, List.setIfInBounds_toArray, List.set_cons_zero, List.set_cons_succ]
  refine wpPlan_free _ ?_ rfl (by rfl) (fun w' => ?_) ?_
  rotate_left
  · go_simp; with_reducible rfl
  simp only [Act.put, List.setIfInBounds_toArray, List.set_cons_zero, List.set_cons_succ]
  refine wpPlan_held _ ?_ rfl (by rfl) (fun w' hS => ?_) ?_
  rotate_left
  · obtain ⟨e0, e1, e2⟩ := hS; go_simp; with_reducible rfl
  simp only [Act.put, List.setIfInBounds_toArray, List.set_cons_zero, List.set_cons_succ]
  obtain ⟨v5, hrun, hm5, hf5⟩ := (HMP4.out.fr (Fr.refl NoB v4).drew (fun h => h)).drop Try.underlying3 Try.underlying51 HOK.out 0
  have e01 : w.heap.size ≠ bm4 := fun e => by have := hlt _ hbS4; omega
  have e02 : b ≠ bm4 := fun e => by have := hlt _ hbS4; omega
  have e03 : p ≠ bm4 := fun e => map_ne_bk HMP4.out HBP4.out e.symm
  have q5 := hf5.cell_some q4 e01
  have p5 := hf5.cell_some p34 e03
  have y5 := hf5.cell_some y04 e02
  refine wpPlan_do _ rfl (fun K hK => ?_)
  go_simp
  refine hK _ _ (fun _ => ⟨q5, p5, y5⟩) ?_
  clear hK K
  refine wpPlan_nil ?_
  have fq4 : Fr NoB v4 v4.drew := (Fr.refl NoB v4).drew
  obtain ⟨HP5', hf5'⟩ := PoolRaw.drop (HP4.out.fr fq4 (fun _ _ h => h)) (HBP4.out.fr fq4 (fun h => h)) hbS4 f.page hm5 hf5
  have HO5 := Lib.hid ((HO4.out.fr fq4 (fun k h => h.elim)).fr hf5' (fun k hk => .inl (hlt k hk)))
  have HW5 := Lib.hid ((HW4.out.trans (fq4.mono (fun _ _ h => h.elim))).trans hf5')
  have HP5 := Lib.hid HP5'
  have HBP5 := Lib.hid ((HBP4.out.fr fq4 (fun h => h)).fr hf5 e03)
  have hm5' : MP v5 bm4 (keysP (without L f.page)) := by rw [without_keys]; exact hm5
  have HMP5 := Lib.hid hm5'
  have hbS := hbS4
  have HNO5 : Hid (∀ g ∈ without L f.page, g.page ≠ x) := Lib.hid fun g hg => HNO.out g (mem_without.1 hg).1
  have hnd5 : Hid (((without L f.page).map (·.page)).Nodup) := Lib.hid (HG.out.less f.page).nd
  have hl5 : (without L f.page).length ≤ 64 := Nat.le_trans (List.length_filter_le _ _) hLl
  have hkl5 : (keysP (without L f.page)).length = (without L f.page).length := by simp [keysP]
  have hml : Hid ((keysP (without L f.page)).length < maxLen) := Lib.hid (by rw [hkl5]; simp only [maxLen]; omega)
  have hnk : Hid (x ∉ (keysP (without L f.page)).map (·.1)) := Lib.hid (by rw [keysP_fst]; intro hx; obtain ⟨g, hg, e⟩ := List.mem_map.1 hx; exact HNO5.out g hg e)
  have hw1 : IntKind.i64.wrap (ck + 1) = ck + 1 := by rw [IntKind.wrap_i64]; have := HG.out.c0; have := HG.out.c1; omega
  have qa0 : ∀ (o : Obj), (v5.alloc o).cell? ⟨w.heap.size, 0, none⟩ = some (.pointer (some ⟨p, 0, none⟩)) := fun o => (HO5.out.k0.fr ((Fr.refl NoB v5).alloc o) (fun h => h)).cell 0
  have pa3 : ∀ (o : Obj), (v5.alloc o).cell? ⟨p, 3, none⟩ = some (.map (some bm4)) := fun o => (HBP5.out.fr ((Fr.refl NoB v5).alloc o) (fun h => h)).cell 3
  clear HP5' hm5' hkl5 hm5 hf5 hf5' fq4 hrun HO4 HP4 HW4 HBP4 HMP4 q4 p34 y04 q5 p5 y5 e01 e02 e03
  clear hl5
  go_wp2_with (at_mapUpdate; refine wpList_store_is elemP rfl _ _ _ 51 rfl 58 Try.underlying3 Try.underlying51 rfl (HMP5.out.fr ((Fr.refl NoB _).alloc _) (fun h => h)) x (some v5.heap.size) rfl rfl (by unfold okI; omega) trivial hnk.out hml.out ?_; intro w2 hm2 hf2; obtain ⟨HO2, HP2, HF2, HG2, hb2, hnd2, hmem2, hput2⟩ := miss_new HO5.out HP5.out HNO5.out hnd5.out HBP5.out hbS hlt HW5.out ((Fr.refl NoB _).alloc _) (fb := v5.heap.size) (x := x) (Bk.new _ 57 _) (Nat.le_refl _) hm2 hf2; have HEND := Lib.hid (get_end2 HO2 HP2 hnd2 hmem2 HF2 HG2 hb2 (fb := v5.heap.size) (pv := 1) rfl rfl (.bool g5.hit) (.bool g5.write) (.int .i64 g5.out) (.int .i64 g5.need)); rw [hput2] at HEND; obtain ⟨bm2, kp, _, _⟩ := HP2.ex; have kf := (HP2.frs _ hmem2).1; have q0 : w2.cell? ⟨w.heap.size, 0, none⟩ = some (.pointer (some ⟨p, 0, none⟩)) := HO2.k0.cell 0; have o0 := HO2.k2.cell 0; have o1 := HO2.k2.cell 1; have o2 := HO2.k2.cell 2; have o3 := HO2.k2.cell 3; have r0 := HO2.k1.cell 0; have r1 := HO2.k1.cell 1; have r2 := HO2.k1.cell 2; have r3 := HO2.k1.cell 3; have rf0 := HO2.k1.frozen 0; have rf1 := HO2.k1.frozen 1; have rf2 := HO2.k1.frozen 2; have rf3 := HO2.k1.frozen 3; have pc := kp.cell 2; have pf := kp.frozen 2; have fc0 := kf.cell 0; have fc3 := kf.cell 3; have ff0 := kf.frozen 0; have ff3 := kf.frozen 3; have e01 := kp.types kf (by decide); have e02 := kp.types HO2.k0 (by decide); have e03 := kp.types HO2.k1 (by decide); have e04 := kp.types HO2.k2 (by decide); have e12 := kf.types HO2.k0 (by decide); have e13 := kf.types HO2.k1 (by decide); have e14 := kf.types HO2.k2 (by decide); have e23 := HO2.d01; have e24 := HO2.d02; have e34 := HO2.d12; have e10 := e01.symm; have e20 := e02.symm; have e30 := e03.symm; have e40 := e04.symm; have e21 := e12.symm; have e31 := e13.symm; have e41 := e14.symm; have e32 := e23.symm; have e42 := e24.symm; have e43 := e34.symm; replace HO2 := Lib.hid HO2; replace HP2 := Lib.hid HP2; replace HF2 := Lib.hid HF2; replace HG2 := Lib.hid HG2; replace hput2 := Lib.hid hput2; clear kp kf hm2 hf2 hnd2 hmem2; simp [fcells, newFrm] at o0 o1 o2 o3 r0 r1 r2 r3 pc fc0 fc3 ff0 ff3 e01 e12 e13 e14 e10 e21 e31 e41)
  refine bodyPost_ret (v := .tuple #[gotV g5, .int .i64 0]) ?_ rfl ⟨v5.heap.size, Two S v5.heap.size, rfl, HEND.out.1, HEND.out.2, HG2.out⟩
  simp [results, Try.results11, go_sem, gotV, *]

set_option maxHeartbeats 8000000 in
theorem get_shed {w : World} {S : Nat → Prop} {p n : Nat} {fl ck N : Int} {L : List Frm} {x : Int} (h : PoolRaw w S p n fl ck L) (hg : PGood n fl ck N L) (hN : N + 1 ≤ 9223372036854775807) (h1 : 1 ≤ x) (h2 : x ≤ 4096) (hno : ∀ f ∈ L, f.page ≠ x) (hl : L.length = n) {k : Nat} (hfr : freeF L = some k) {f : Frm} (hk : k < L.length) (hfk : L[k] = f) (hd : f.dirty = false) :
    Calls Try.prog 11 #[.pointer (some ⟨p, 0, none⟩), .int .i64 x] w (GetPost S p n (fun blk => (⟨false, false, f.page, 0⟩, 0, fl, ck + 1, putF ck (without L f.page) (newFrm x blk))) w) := by
  obtain ⟨fl2, hfl2⟩ : ∃ fl2, fl2 = fl := ⟨_, rfl⟩
  obtain ⟨g5, hg5⟩ : ∃ g5 : Got, g5 = ⟨false, false, f.page, 0⟩ := ⟨_, rfl⟩
  rw [← hfl2, ← hg5]
  replace hfl2 := Lib.hid hfl2
  replace hg5 := Lib.hid hg5
  have hfL : f ∈ L := by rw [← hfk]; exact List.getElem_mem hk
  have HF := Lib.hid hfL
  have hpg := hg.pg f hfL
  have HOK : Hid (okI f.page) := Lib.hid (by unfold okI; omega)
  have d1 : decide (x < 1) = false := decide_eq_false (by omega)
  have d2 : decide (4096 < x) = false := decide_eq_false (by omega)
  have hW : Fr NoB w (((w.alloc (.cells #[.pointer (some ⟨p, 0, none⟩)] 23)).alloc (.cells #[.bool false, .bool false, .int .i64 0, .int .i64 0] 34)).alloc (.cells #[.bool false, .bool false, .int .i64 0, .int .i64 0] 34)) := (((Fr.refl NoB w).alloc _).alloc _).alloc _
  have ho := own_made w p
  have hP := h.fr hW (fun _ _ h => h)
  have hat := at_none hP (x := x) (by unfold okI; omega) hno
  have HO := Lib.hid ho
  have HP := Lib.hid hP
  have HW := Lib.hid hW
  have HG := Lib.hid hg
  have HNO := Lib.hid hno
  obtain ⟨bm, hbp, hmp, hbS⟩ := hP.ex
  have HBP := Lib.hid hbp
  have HMP := Lib.hid hmp
  have hlt := h.lt
  have hlen : ((L.length : Int) == (n : Int)) = true := by rw [beq_iff_eq]; omega
  have hkl : (keysP L).length = L.length := by simp [keysP]
  have HKL := Lib.hid hkl
  have hLl : L.length ≤ 64 := by have := hg.len; have := hg.n2; omega
  have HL := Lib.hid hl
  clear ho hP hW hg hno h hbp hmp hkl hl
  go_enter Try.func11, Try.ntmps11
  go_wp2_with fail
  refine hat.mono ?_
  rintro e w' ⟨rfl, rfl⟩
  generalize ((w.alloc (.cells #[.pointer (some ⟨p, 0, none⟩)] 23)).alloc (.cells #[.bool false, .bool false, .int .i64 0, .int .i64 0] 34)).alloc (.cells #[.bool false, .bool false, .int .i64 0, .int .i64 0] 34) = W at *
  have q0 : W.cell? ⟨w.heap.size, 0, none⟩ = some (.pointer (some ⟨p, 0, none⟩)) := HO.out.k0.cell 0
  have pc0 : W.cell? ⟨p, 0, none⟩ = some (.int .i64 n) := HBP.out.cell 0
  have pc3 : W.cell? ⟨p, 3, none⟩ = some (.map (some bm)) := HBP.out.cell 3
  have hlm : ∀ (k : Nat) (ty : TypeId), (Builtin.len_ #[51] ty #[.map (some bm)]).run Try.prog (W.drewN k) = .ok (.int .i64 L.length) (W.drewN k) := fun k ty => by
    have := (HMP.out.fr ((Fr.refl NoB W).drewN k) (fun h => h)).run_len Try.underlying51 ty
    rwa [HKL.out] at this
  go_wp2_with fail
  go_quiet (fail)
  have fq : Fr NoB W (W.drewN nq) := (Fr.refl NoB W).drewN nq
  have hpages := pages_any (HP.out.fr fq (fun _ _ h => h)) HG.out
  have FQ := Lib.hid fq
  clear fq
  go_wp2_with fail
  refine hpages.mono ?_
  rintro e v1 ⟨A, c, rfl, ha, hup, hf1⟩
  have fq1 : Fr NoB W v1 := FQ.out.trans hf1
  have HO1 := Lib.hid (HO.out.fr fq1 (fun _ h => h.elim))
  have HP1 := Lib.hid (HP.out.fr fq1 (fun _ _ h => h))
  have HW1 := Lib.hid (HW.out.trans fq1)
  have HBP1 := Lib.hid (HBP.out.fr fq1 (fun h => h))
  have HMP1 := Lib.hid (HMP.out.fr fq1 (fun h => h))
  have q1 : v1.cell? ⟨w.heap.size, 0, none⟩ = some (.pointer (some ⟨p, 0, none⟩)) := HO1.out.k0.cell 0
  have hidx := index_any HP1.out HG.out q1 ha.rd
  have HA := Lib.hid ha
  have hup' : ∀ k, InB A k → W.heap.size ≤ k := hup
  have HU := Lib.hid hup'
  have hWs := HO.out.lens.2.2
  clear hpages ha hup hup' hf1 fq1 HO HP HW HBP HMP hlm pc0 pc3 FQ q0
  rw [hfr] at hidx
  change Calls _ _ _ _ (fun e w' => e = .returned (.int .i64 (k : Int)) ∧ v1 = w') at hidx
  obtain ⟨b, off, hA, y0⟩ := int_cell (xs := L.map (·.page)) (by rw [List.length_map]; exact HA.out.rd) (j := k) (by rw [List.length_map]; exact hk)
  rw [List.getElem_map, hfk] at y0
  have hin : InB A b := by rw [hA]; exact rfl
  have hbn := HU.out b hin
  have y4 : v1.cell? ⟨f.blk, 4, none⟩ = some (.bool f.dirty) := (HP1.out.cells HF.out 4).1
  have p3 : v1.cell? ⟨p, 3, none⟩ = some (.map (some bm)) := HBP1.out.cell 3
  have hl13 : ∀ m, (Instr.lookup 51 (.map (some bm)) (.int .i64 f.page) false).run Try.prog (v1.drewN m) = .ok (.pointer (some ⟨f.blk, 0, none⟩)) (v1.drewN m) := fun m => by
    have := (HMP1.out.fr ((Fr.refl NoB v1).drewN m) (fun h => h)).run_look elemP Try.underlying3 Try.underlying51 none trivial (zero58 _) HOK.out
    rw [val_page HG.out.nd HF.out] at this
    exact this
  subst hA
  rw [hd] at y4
  clear hpg hfk
  go_wp2_with fail
  refine hidx.mono ?_
  rintro e w' ⟨rfl, rfl⟩
  go_wp2_with fail
  go_quiet (fail)
  go_wp2_with fail
  have q1n : ((v1.drewN nq).drew).cell? ⟨b, off + k, none⟩ = some (.int .i64 f.page) := y0
  have q4n : ((v1.drewN nq).drew).cell? ⟨f.blk, 4, none⟩ = some (.bool false) := y4
  have fq2 : Fr NoB v1 ((v1.drewN nq).drew) := ((Fr.refl NoB v1).drewN nq).drew
  have g2 : Fr (fun j => j = w.heap.size + 1 + 1) ((v1.drewN nq).drew) (((v1.drewN nq).drew).setCell ⟨w.heap.size + 1 + 1, 2, none⟩ (.int .i64 f.page)) := (Fr.refl (fun j => j = w.heap.size + 1 + 1) _).setCell (p := ⟨w.heap.size + 1 + 1, 2, none⟩) (.inl rfl) _
  have hfw := hlt _ (HP1.out.frs f HF.out).2
  have o2 := HO1.out.k2.cell 2
  have of2 := HO1.out.k2.frozen 2
  have o1 := HO1.out.k2.cell 1
  have of1 := HO1.out.k2.frozen 1
  simp at o1 o2
  refine wp_region_plan 11 (fun w' => w'.cell? ⟨b, off + k, none⟩ = some (.int .i64 f.page) ∧ w'.cell? ⟨f.blk, 4, none⟩ = some (.bool false))
    [(0, 0), (1, 0), (2, 0), (3, 1), (4, 0), (5, 0), (6, 0), (7, 1), (8, 0), (9, 2), (10, 0), (11, 2)] (by kernel_rfl) (by kernel_rfl) (fun _ _ _ _ _ h => h) ⟨q1n, q4n⟩ ?_
  refine wpPlan_free _ ?_ rfl (by rfl) (fun w' => ?_) ?_
  rotate_left
  · go_simp; with_reducible rfl
  simp only [Act.put, List.setIfInBounds_toArray, List.set_cons_zero, List.set_cons_succ]
  refine wpPlan_free _ ?_ rfl (by rfl) (fun w' => ?_) ?_
  rotate_left
  · go_simp; with_reducible rfl
  simp only [Act.put, List.setIfInBounds_toArray, List.set_cons_zero, List.set_cons_succ]
  refine wpPlan_free _ ?_ rfl (by rfl) (fun w' => ?_) ?_
  rotate_left
  · go_simp; with_reducible rfl
  simp only [Act.put, List.setIfInBounds_toArray, List.set_cons_zero, List.set_cons_succ]
  refine wpPlan_held _ ?_ rfl (by rfl) (fun w' hS => ?_) ?_
  rotate_left
  · obtain ⟨e0, e1⟩ := hS; go_simp; with_reducible rfl
  simp only [Act.put, List.setIfInBounds_toArray, List.set_cons_zero, List.set_cons_succ]
  refine wpPlan_free _ ?_ rfl (by rfl) (fun w' => ?_) ?_
  rotate_left
  · go_simp; with_reducible rfl
  simp only [Act.put, List.setIfInBounds_toArray, List.set_cons_zero, List.set_cons_succ]
  refine wpPlan_free _ ?_ rfl (by rfl) (fun w' => ?_) ?_
  rotate_left
  · go_simp; with_reducible rfl
  simp only [Act.put, List.setIfInBounds_toArray, List.set_cons_zero, List.set_cons_succ]
  refine wpPlan_free _ ?_ rfl (by rfl) (fun w' => ?_) ?_
  rotate_left
  · go_simp; with_reducible rfl
  simp only [Act.put, List.setIfInBounds_toArray, List.set_cons_zero, List.set_cons_succ]
  refine wpPlan_held _ ?_ rfl (by rfl) (fun w' hS => ?_) ?_
  rotate_left
  · obtain ⟨e0, e1⟩ := hS; go_simp; with_reducible rfl
  simp only [Act.put, List.setIfInBounds_toArray, List.set_cons_zero, List.set_cons_succ]
  refine wpPlan_free _ ?_ rfl (by rfl) (fun w' => ?_) ?_
  rotate_left
  · go_simp; with_reducible rfl
  simp only [Act.put, List.setIfInBounds_toArray, List.set_cons_zero, List.set_cons_succ]
  refine wpPlan_do _ rfl (fun K hK => ?_)
  go_simp
  refine hK _ _ (fun _ => ⟨g2.cell_some q1n (show ¬ b = w.heap.size + 1 + 1 by omega), g2.cell_some q4n (show ¬ f.blk = w.heap.size + 1 + 1 by omega)⟩) ?_
  clear hK K
  refine wpPlan_free _ ?_ rfl (by rfl) (fun w' => ?_) ?_
  rotate_left
  · go_simp; with_reducible rfl
  simp only [Act.put, List.setIfInBounds_toArray, List.set_cons_zero, List.set_cons_succ]
  refine wpPlan_do _ rfl (fun K hK => ?_)
  go_simp
  refine hK _ _ (fun h => by cases h) ?_
  clear hK K
  refine wpPlan_nil ?_
  have fq3 : Fr NoB v1 (v1.drewN (nq + 1)) := (Fr.refl NoB v1).drewN _
  obtain ⟨z1, z2⟩ := (HO1.out.fr fq3 (fun _ h => h.elim)).outw f.page false
  have HO2 := Lib.hid z1
  have HP2 := Lib.hid ((HP1.out.fr fq3 (fun _ _ h => h)).fr z2 (fun k hk e => by have := hlt k hk; omega))
  have HW2 : Hid (Fr S w (((v1.drewN (nq + 1)).setCell ⟨w.heap.size + 1 + 1, 2, none⟩ (.int .i64 f.page)).setCell ⟨w.heap.size + 1 + 1, 1, none⟩ (.bool false))) := Lib.hid (((HW1.out.trans fq3).mono (fun _ _ h => h.elim)).join z2 (fun j e _ => by omega))
  have y02 := z2.cell_some (fq3.cell_some y0 (fun h => h)) (show ¬ b = w.heap.size + 1 + 1 by omega)
  have y42 := (HP2.out.cells HF.out 4).1
  clear z1 z2 fq3 fq2 q1n q4n g2 o1 o2 of1 of2 HO1 HP1 HW1 HBP1 HMP1 hl13 p3 y0 y4 q1 hidx HA HU
  generalize ((v1.drewN (nq + 1)).setCell ⟨w.heap.size + 1 + 1, 2, none⟩ (.int .i64 f.page)).setCell ⟨w.heap.size + 1 + 1, 1, none⟩ (.bool false) = v2 at *
  simp only [fcells] at y42
  change v2.cell? _ = some (.bool f.dirty) at y42
  rw [hd] at y42
  simp only [got0] at HO2
  rw [← hg5.out] at HO2
  go_wp2_with fail
  obtain ⟨v4, hv4⟩ : ∃ v4, v4 = v2 := ⟨_, rfl⟩
  rw [← hv4, ← hfl2.out] at HP2
  rw [← hv4] at HO2 HW2 y02 ⊢
  have HO4 := HO2
  have HP4 := HP2
  have HW4 := HW2
  have y04 := y02
  clear HO2 HP2 HW2 y02 y42 hv4
  have q4 := HO4.out.k0.cell 0
  obtain ⟨bm4, hbp4, hmp4, hbS4⟩ := HP4.out.ex
  have p34 := hbp4.cell 3
  have HBP4 := Lib.hid hbp4
  have HMP4 := Lib.hid hmp4
  clear hbp4 hmp4
  simp at q4 p34
  refine wp_region_plan 9 (fun w' => w'.cell? ⟨w.heap.size, 0, none⟩ = some (.pointer (some ⟨p, 0, none⟩)) ∧ w'.cell? ⟨p, 3, none⟩ = some (.map (some bm4)) ∧ w'.cell? ⟨b, off + k, none⟩ = some (.int .i64 f.page))
    [(0, 1), (1, 0), (2, 0), (3, 1), (4, 0), (5, 0), (6, 0), (7, 1), (8, 2)] (by kernel_rfl) (by kernel_rfl) (fun _ _ _ _ _ h => h) ⟨q4, p34, y04⟩ ?_
  refine wpPlan_held _ ?_ rfl (by rfl) (fun w' hS => ?_) ?_
  rotate_left
  · obtain ⟨e0, e1, e2⟩ := hS; go_simp; with_reducible rfl
  simp only [Act.put, List.setIfInBounds_toArray, List.set_cons_zero, List.set_cons_succ]
  refine wpPlan_free _ ?_ rfl (by rfl) (fun w' => ?_) ?_
  rotate_left
  · go_simp; with_reducible rfl
  simp only [Act.put, List.setIfInBounds_toArray, List.set_cons_zero, List.set_cons_succ]
  refine wpPlan_free _ ?_ rfl (by rfl) (fun w' => ?_) ?_
  rotate_left
  · go_simp; with_reducible rfl
  simp only [Act.put, List.setIfInBounds_toArray, List.set_cons_zero, List.set_cons_succ]
  refine wpPlan_held _ ?_ rfl (by rfl) (fun w' hS => ?_) ?_
  rotate_left
  · obtain ⟨e0, e1, e2⟩ := hS; go_simp; with_reducible rfl
  simp only [Act.put, List.setIfInBounds_toArray, List.set_cons_zero, List.set_cons_succ]
  refine wpPlan_free _ ?_ rfl (by rfl) (fun w' => ?_) ?_
  rotate_left
  · go_simp; with_reducible rfl
  simp only [Act.put, List.setIfInBounds_toArray, List.set_cons_zero, List.set_cons_succ]
  refine wpPlan_free _ ?_ rfl (by rfl) (fun w' => ?_) ?_
  rotate_left
  · go_simp; with_reducible rfl
  simp only [Act.put, List.setIfInBounds_toArray, List.set_cons_zero, List.set_cons_succ]
  refine wpPlan_free _ ?_ rfl (by rfl) (fun w' => ?_) ?_
  rotate_left
  · go_simp; with_reducible rfl
  simp only [Act.put, List.setIfInBounds_toArray, List.set_cons_zero, List.set_cons_succ]
  refine wpPlan_held _ ?_ rfl (by rfl) (fun w' hS => ?_) ?_
  rotate_left
  · obtain ⟨e0, e1, e2⟩ := hS; go_simp; with_reducible rfl
  simp only [Act.put, List.setIfInBounds_toArray, List.set_cons_zero, List.set_cons_succ]
  obtain ⟨v5, hrun, hm5, hf5⟩ := (HMP4.out.fr (Fr.refl NoB v4).drew (fun h => h)).drop Try.underlying3 Try.underlying51 HOK.out 0
  have e01 : w.heap.size ≠ bm4 := fun e => by have := hlt _ hbS4; omega
  have e02 : b ≠ bm4 := fun e => by have := hlt _ hbS4; omega
  have e03 : p ≠ bm4 := fun e => map_ne_bk HMP4.out HBP4.out e.symm
  have q5 := hf5.cell_some q4 e01
  have p5 := hf5.cell_some p34 e03
  have y5 := hf5.cell_some y04 e02
  refine wpPlan_do _ rfl (fun K hK => ?_)
  go_simp
  refine hK _ _ (fun _ => ⟨q5, p5, y5⟩) ?_
  clear hK K
  refine wpPlan_nil ?_
  have fq4 : Fr NoB v4 v4.drew := (Fr.refl NoB v4).drew
  obtain ⟨HP5', hf5'⟩ := PoolRaw.drop (HP4.out.fr fq4 (fun _ _ h => h)) (HBP4.out.fr fq4 (fun h => h)) hbS4 f.page hm5 hf5
  have HO5 := Lib.hid ((HO4.out.fr fq4 (fun k h => h.elim)).fr hf5' (fun k hk => .inl (hlt k hk)))
  have HW5 := Lib.hid ((HW4.out.trans (fq4.mono (fun _ _ h => h.elim))).trans hf5')
  have HP5 := Lib.hid HP5'
  have HBP5 := Lib.hid ((HBP4.out.fr fq4 (fun h => h)).fr hf5 e03)
  have hm5' : MP v5 bm4 (keysP (without L f.page)) := by rw [without_keys]; exact hm5
  have HMP5 := Lib.hid hm5'
  have hbS := hbS4
  have HNO5 : Hid (∀ g ∈ without L f.page, g.page ≠ x) := Lib.hid fun g hg => HNO.out g (mem_without.1 hg).1
  have hnd5 : Hid (((without L f.page).map (·.page)).Nodup) := Lib.hid (HG.out.less f.page).nd
  have hl5 : (without L f.page).length ≤ 64 := Nat.le_trans (List.length_filter_le _ _) hLl
  have hkl5 : (keysP (without L f.page)).length = (without L f.page).length := by simp [keysP]
  have hml : Hid ((keysP (without L f.page)).length < maxLen) := Lib.hid (by rw [hkl5]; simp only [maxLen]; omega)
  have hnk : Hid (x ∉ (keysP (without L f.page)).map (·.1)) := Lib.hid (by rw [keysP_fst]; intro hx; obtain ⟨g, hg, e⟩ := List.mem_map.1 hx; exact HNO5.out g hg e)
  have hw1 : IntKind.i64.wrap (ck + 1) = ck + 1 := by rw [IntKind.wrap_i64]; have := HG.out.c0; have := HG.out.c1; omega
  have qa0 : ∀ (o : Obj), (v5.alloc o).cell? ⟨w.heap.size, 0, none⟩ = some (.pointer (some ⟨p, 0, none⟩)) := fun o => (HO5.out.k0.fr ((Fr.refl NoB v5).alloc o) (fun h => h)).cell 0
  have pa3 : ∀ (o : Obj), (v5.alloc o).cell? ⟨p, 3, none⟩ = some (.map (some bm4)) := fun o => (HBP5.out.fr ((Fr.refl NoB v5).alloc o) (fun h => h)).cell 3
  clear HP5' hm5' hkl5 hm5 hf5 hf5' fq4 hrun HO4 HP4 HW4 HBP4 HMP4 q4 p34 y04 q5 p5 y5 e01 e02 e03
  clear hl5
  go_wp2_with (at_mapUpdate; refine wpList_store_is elemP rfl _ _ _ 51 rfl 58 Try.underlying3 Try.underlying51 rfl (HMP5.out.fr ((Fr.refl NoB _).alloc _) (fun h => h)) x (some v5.heap.size) rfl rfl (by unfold okI; omega) trivial hnk.out hml.out ?_; intro w2 hm2 hf2; obtain ⟨HO2, HP2, HF2, HG2, hb2, hnd2, hmem2, hput2⟩ := miss_new HO5.out HP5.out HNO5.out hnd5.out HBP5.out hbS hlt HW5.out ((Fr.refl NoB _).alloc _) (fb := v5.heap.size) (x := x) (Bk.new _ 57 _) (Nat.le_refl _) hm2 hf2; have HEND := Lib.hid (get_end2 HO2 HP2 hnd2 hmem2 HF2 HG2 hb2 (fb := v5.heap.size) (pv := 1) rfl rfl (.bool g5.hit) (.bool g5.write) (.int .i64 g5.out) (.int .i64 g5.need)); rw [hput2] at HEND; obtain ⟨bm2, kp, _, _⟩ := HP2.ex; have kf := (HP2.frs _ hmem2).1; have q0 : w2.cell? ⟨w.heap.size, 0, none⟩ = some (.pointer (some ⟨p, 0, none⟩)) := HO2.k0.cell 0; have o0 := HO2.k2.cell 0; have o1 := HO2.k2.cell 1; have o2 := HO2.k2.cell 2; have o3 := HO2.k2.cell 3; have r0 := HO2.k1.cell 0; have r1 := HO2.k1.cell 1; have r2 := HO2.k1.cell 2; have r3 := HO2.k1.cell 3; have rf0 := HO2.k1.frozen 0; have rf1 := HO2.k1.frozen 1; have rf2 := HO2.k1.frozen 2; have rf3 := HO2.k1.frozen 3; have pc := kp.cell 2; have pf := kp.frozen 2; have fc0 := kf.cell 0; have fc3 := kf.cell 3; have ff0 := kf.frozen 0; have ff3 := kf.frozen 3; have e01 := kp.types kf (by decide); have e02 := kp.types HO2.k0 (by decide); have e03 := kp.types HO2.k1 (by decide); have e04 := kp.types HO2.k2 (by decide); have e12 := kf.types HO2.k0 (by decide); have e13 := kf.types HO2.k1 (by decide); have e14 := kf.types HO2.k2 (by decide); have e23 := HO2.d01; have e24 := HO2.d02; have e34 := HO2.d12; have e10 := e01.symm; have e20 := e02.symm; have e30 := e03.symm; have e40 := e04.symm; have e21 := e12.symm; have e31 := e13.symm; have e41 := e14.symm; have e32 := e23.symm; have e42 := e24.symm; have e43 := e34.symm; replace HO2 := Lib.hid HO2; replace HP2 := Lib.hid HP2; replace HF2 := Lib.hid HF2; replace HG2 := Lib.hid HG2; replace hput2 := Lib.hid hput2; clear kp kf hm2 hf2 hnd2 hmem2; simp [fcells, newFrm] at o0 o1 o2 o3 r0 r1 r2 r3 pc fc0 fc3 ff0 ff3 e01 e12 e13 e14 e10 e21 e31 e41)
  refine bodyPost_ret (v := .tuple #[gotV g5, .int .i64 0]) ?_ rfl ⟨v5.heap.size, Two S v5.heap.size, rfl, HEND.out.1, HEND.out.2, HG2.out⟩
  simp [results, Try.results11, go_sem, gotV, *]

theorem get_any {w : World} {S : Nat → Prop} {p n : Nat} {fl ck N : Int} {L : List Frm} (x : Int) (h : PoolRaw w S p n fl ck L) (hg : PGood n fl ck N L) (hN : N + 1 ≤ 9223372036854775807) :
    Calls Try.prog 11 #[.pointer (some ⟨p, 0, none⟩), .int .i64 x] w (GetPost S p n (getF n fl ck L x) w) := by
  by_cases hx : 1 ≤ x ∧ x ≤ 4096
  · cases hfo : frameOf L x with
    | some f =>
      obtain ⟨hf, rfl⟩ := frameOf_some hfo
      have e : getF n fl ck L f.page = fun _ => (⟨true, false, 0, 0⟩, 0, fl, ck + 1, putF ck L f) := by
        funext blk
        unfold getF
        rw [if_pos hx, hfo]
      rw [e]
      exact get_hit h hg hN hf
    | none =>
      have hno := frameOf_none hfo
      by_cases hl : L.length < n
      · have e : getF n fl ck L x = fun blk => (got0, 0, fl, ck + 1, putF ck L (newFrm x blk)) := by
          funext blk
          unfold getF
          rw [if_pos hx, hfo]
          simp only []
          rw [if_pos hl]
        rw [e]
        exact get_miss h hg hN hx.1 hx.2 hno hl
      · have hl2 : L.length = n := by have := hg.len; omega
        cases hfr : freeF L with
        | none =>
          have e : getF n fl ck L x = fun _ => (got0, 5, fl, ck, L) := by
            funext blk
            unfold getF
            rw [if_pos hx, hfo]
            simp only []
            rw [if_neg hl, hfr]
            rfl
          rw [e]
          exact get_full h hg hx.1 hx.2 hno hl2 hfr
        | some k =>
          have hk : k < L.length := by
            unfold freeF at hfr
            exact (List.findIdx?_eq_some_iff_getElem.1 hfr).1
          have e : getF n fl ck L x = fun blk => (⟨false, L[k].dirty, L[k].page, if L[k].dirty = true then (needF fl L[k].lsn).1 else 0⟩, 0, if L[k].dirty = true then (needF fl L[k].lsn).2 else fl, ck + 1, putF ck (without L L[k].page) (newFrm x blk)) := by
            funext blk
            unfold getF
            rw [if_pos hx, hfo]
            simp only []
            rw [if_neg hl, hfr]
            simp [List.getElem?_eq_getElem hk]
          rw [e]
          cases hd : L[k].dirty with
          | true => exact get_wash h hg hN hx.1 hx.2 hno hl2 hfr hk rfl hd
          | false => exact get_shed h hg hN hx.1 hx.2 hno hl2 hfr hk rfl hd
  · have e : getF n fl ck L x = fun _ => (got0, 1, fl, ck, L) := by
      funext blk
      unfold getF
      rw [if_neg hx]
    rw [e]
    refine (get_bad (some ⟨p, 0, none⟩) x w (by omega)).mono ?_
    rintro e w' ⟨rfl, hf⟩
    exact ⟨0, S, rfl, h.fr hf (fun _ _ h => h), hf.mono (fun _ _ h => h.elim), fun _ h => .inl h⟩
end Go.Proofs.Ytmbabgaanpjmpaa
