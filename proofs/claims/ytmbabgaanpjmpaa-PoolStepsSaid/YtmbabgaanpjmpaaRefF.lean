/- The document's pool: Get, a page that is held; no frame is free. -/
import Derived.Test.YtmbabgaanpjmpaaRefE
import Derived.Test.YtmbabgaanpjmpaaGetD
namespace Go.Proofs.Ytmbabgaanpjmpaa
open Go.RowKit

def RGetPost (T : Nat → Prop) (p n : Nat) (r : Got × Int × Int × Int × List Frm) (w : World) (e : Ending) (w' : World) : Prop :=
  ∃ T', e = .returned (.tuple #[gotV r.1, .int .i64 r.2.1]) ∧ RP w' T' p n r.2.2.1 r.2.2.2.2 ∧ Fr T w w' ∧ Gr T T' w

theorem RP.congr {w : World} {T : Nat → Prop} {p n : Nat} {fl : Int} {L L' : List Frm} (h : RP w T p n fl L) (e : rcells L = rcells L') (hl : L.length = L'.length) : RP w T p n fl L' := by
  obtain ⟨⟨A, c, hb, ha, h1⟩, ho, hlt⟩ := h
  exact ⟨⟨A, c, by rw [← hl]; exact hb, by rw [← hl, ← e]; exact ha, h1⟩, ho, hlt⟩

/-- A new list is laid down, then the answer. -/
theorem lay_end {w w0 W : World} {T : Nat → Prop} {p n : Nat} {fl fl0 : Int} {L0 M : List Frm} {A : Option Addr} {c : Nat} {v : Value} (h : RP w T p n fl0 L0) (f0 : Fr NoB w w0) (hz : w0.heap.size = w.heap.size + 1) (hW : Fr T w0 W) (hb : Bk W p 65 #[.int .i64 n, .int .i64 fl, v])
    (ha : Arr W 72 5 A M.length c (rcells M)) (hA : ∀ k, InB A k → T k ∨ w0.heap.size ≤ k) (v0 v1 v2 v3 : Value) :
    RP (((((W.setCell ⟨p, 2, none⟩ (.slice A M.length c)).setCell ⟨w.heap.size, 0, none⟩ v0).setCell ⟨w.heap.size, 1, none⟩ v1).setCell ⟨w.heap.size, 2, none⟩ v2).setCell ⟨w.heap.size, 3, none⟩ v3) (fun k => T k ∨ InB A k) p n fl M ∧
      Fr T w (((((W.setCell ⟨p, 2, none⟩ (.slice A M.length c)).setCell ⟨w.heap.size, 0, none⟩ v0).setCell ⟨w.heap.size, 1, none⟩ v1).setCell ⟨w.heap.size, 2, none⟩ v2).setCell ⟨w.heap.size, 3, none⟩ v3) ∧ Gr T (fun k => T k ∨ InB A k) w := by
  have f2 : Fr (fun j => j = p) W (W.setCell ⟨p, 2, none⟩ (.slice A M.length c)) := Fr.setCell (S := fun j => j = p) (p := ⟨p, 2, none⟩) (Fr.refl _ W) (.inl rfl) _
  have npA : ∀ k, InB A k → ¬ k = p := fun k hk e => by
    subst e
    obtain ⟨cur, hc⟩ := ha.blk hk
    exact hb.types hc (by decide) rfl
  have hp := h.own
  have hzW := hW.size
  have hlt := h.lt
  have r1 : RP (W.setCell ⟨p, 2, none⟩ (.slice A M.length c)) (fun k => T k ∨ InB A k) p n fl M := ⟨⟨A, c, hb.set 2 _, ha.fr f2 npA, fun k hk => .inr hk⟩, .inl hp, fun k hk => by
    rcases hk with hk | hk
    · have := hlt k hk
      simp
      omega
    · have := ha.lt k hk
      simp
      omega⟩
  have g4 := fr_four w.heap.size (W.setCell ⟨p, 2, none⟩ (.slice A M.length c)) v0 v1 v2 v3
  have nb : ∀ k, (T k ∨ InB A k) → ¬ k = w.heap.size := fun k hk e => by
    rcases hk with hk | hk
    · have := hlt k hk; omega
    · rcases hA k hk with h' | h'
      · have := hlt k h'; omega
      · omega
  refine ⟨r1.fr g4 nb, ?_, fun k hk => ?_⟩
  · refine (((f0.mono (fun _ _ h => h.elim)).trans hW).trans (f2.mono (fun j _ e => by subst e; exact hp))).join g4 (fun j e _ => ?_)
    omega
  · rcases hk with hk | hk
    · exact .inl hk
    · rcases hA k hk with h' | h'
      · exact .inl h'
      · exact .inr (by omega)

theorem rget_bad {w : World} {T : Nat → Prop} {p n : Nat} {fl : Int} {L : List Frm} (x ck : Int) (h : RP w T p n fl L) (hx : x < 1 ∨ 4096 < x) :
    Calls Try.prog 30 #[.pointer (some ⟨p, 0, none⟩), .int .i64 x] w (RGetPost T p n (got0, 1, fl, ck, L) w) := by
  have H := Lib.hid h
  have HF : Hid (∀ v0 v1 v2 v3, RP (((((w.alloc (.cells #[.bool false, .bool false, .int .i64 0, .int .i64 0] 66)).setCell ⟨w.heap.size, 0, none⟩ v0).setCell ⟨w.heap.size, 1, none⟩ v1).setCell ⟨w.heap.size, 2, none⟩ v2).setCell ⟨w.heap.size, 3, none⟩ v3) T p n fl L ∧ Fr T w (((((w.alloc (.cells #[.bool false, .bool false, .int .i64 0, .int .i64 0] 66)).setCell ⟨w.heap.size, 0, none⟩ v0).setCell ⟨w.heap.size, 1, none⟩ v1).setCell ⟨w.heap.size, 2, none⟩ v2).setCell ⟨w.heap.size, 3, none⟩ v3)) := Lib.hid fun v0 v1 v2 v3 => by
    have g := fr_four w.heap.size (w.alloc (.cells #[.bool false, .bool false, .int .i64 0, .int .i64 0] 66)) v0 v1 v2 v3
    exact ⟨(h.fr ((Fr.refl NoB w).alloc _) (fun _ _ h => h)).fr g (fun k hk e => by have := h.lt k hk; omega), ((Fr.refl T w).alloc _).join g (fun j e _ => by omega)⟩
  clear h
  rcases hx with h1 | h1
  · go_enter Try.func30, Try.ntmps30
    go_wp2_with fail
    refine bodyPost_ret (v := .tuple #[gotV got0, .int .i64 1]) (by simp [results, Try.results30, go_sem, gotV, got0]) rfl ⟨T, rfl, (H.out.fr ((Fr.refl NoB w).alloc _) (fun _ _ h => h)), ((Fr.refl T w).alloc _), fun _ h => .inl h⟩
  · have h2 : ¬ x < 1 := by omega
    go_enter Try.func30, Try.ntmps30
    go_wp2_with fail
    refine bodyPost_ret (v := .tuple #[gotV got0, .int .i64 1]) (by simp [results, Try.results30, go_sem, gotV, got0]) rfl ⟨T, rfl, (H.out.fr ((Fr.refl NoB w).alloc _) (fun _ _ h => h)), ((Fr.refl T w).alloc _), fun _ h => .inl h⟩

set_option maxHeartbeats 4000000 in
theorem rget_hit {w : World} {T : Nat → Prop} {p n : Nat} {fl ck N : Int} {L : List Frm} (h : RP w T p n fl L) (hg : PGood n fl ck N L) (hN : N + 1 ≤ 9223372036854775807) {i : Nat} (hi : i < L.length) (hfi : findF L L[i].page = some i) :
    Calls Try.prog 30 #[.pointer (some ⟨p, 0, none⟩), .int .i64 L[i].page] w (RGetPost T p n (⟨true, false, 0, 0⟩, 0, fl, ck + 1, putF ck L L[i]) w) := by
  obtain ⟨i0, hi0, hz0, hz1, hz2⟩ := info_parts info72
  have hpg0 := hg.pg _ (List.getElem_mem hi)
  have d1 : decide (L[i].page < 1) = false := decide_eq_false (by omega)
  have d2 : decide (4096 < L[i].page) = false := decide_eq_false (by omega)
  have hll : L.length ≤ 64 := by have := hg.len; have := hg.n2; omega
  have hw1 : IntKind.i64.wrap (L[i].pins + 1) = L[i].pins + 1 := by rw [IntKind.wrap_i64]; have := hg.pin _ (List.getElem_mem hi); omega
  have f0 : Fr NoB w (w.alloc (.cells #[.bool false, .bool false, .int .i64 0, .int .i64 0] 66)) := (Fr.refl NoB w).alloc _
  have hf := find_any L[i].page (h.fr f0 (fun _ _ h => h))
  rw [hfi] at hf
  change Calls _ _ _ _ (fun e w' => e = .returned (.int .i64 (i : Int)) ∧ Fr NoB (w.alloc (.cells #[.bool false, .bool false, .int .i64 0, .int .i64 0] 66)) w') at hf
  have HER := Lib.hid (er_without hg.nd hi)
  have H := Lib.hid h
  have HB0 := Lib.hid (Bk.new w 66 #[.bool false, .bool false, .int .i64 0, .int .i64 0])
  have hz : Hid ((w.alloc (.cells #[.bool false, .bool false, .int .i64 0, .int .i64 0] 66)).heap.size = w.heap.size + 1) := Lib.hid (by simp)
  have HF0 := Lib.hid f0
  have hML : (L.eraseIdx i).length ≤ 64 := Nat.le_trans (List.length_eraseIdx_le _ _) hll
  clear hfi h hg f0 hpg0
  go_enter Try.func30, Try.ntmps30
  go_wp2_with fail
  refine hf.mono ?_
  rintro e w1 ⟨rfl, f1⟩
  generalize (w.alloc (.cells #[.bool false, .bool false, .int .i64 0, .int .i64 0] 66)) = w0 at *
  obtain ⟨A, c, h1⟩ := ((H.out.fr HF0.out (fun _ _ h => h)).fr f1 (fun _ _ h => h)).open
  have c2 : w1.cell? ⟨p, 2, none⟩ = some (.slice A L.length c) := h1.bk.cell 2
  have pl : p < w1.heap.size := h1.bk.lt
  have e1 : p ≠ w1.heap.size := by omega
  have e2 : w1.heap.size ≠ p := e1.symm
  have y0 : ∃ g, A = some ⟨g, 0, none⟩ := by obtain ⟨g, hA, _⟩ := rc_at h1.ar hi; exact ⟨g, hA⟩
  obtain ⟨g, rfl⟩ := y0
  obtain ⟨g', hA', hgl, hcell, hfz⟩ := rc_at h1.ar hi
  obtain rfl : g = g' := by simpa using hA'
  have y0 := hcell 0 _ rfl (by omega)
  have y1 := hcell 1 _ rfl (by omega)
  have y2 := hcell 2 _ rfl (by omega)
  have y3 := hcell 3 _ rfl (by omega)
  have y4 := hcell 4 _ rfl (by omega)
  simp only [Nat.add_zero] at y0
  obtain ⟨f', hf'⟩ : ∃ f' : Frm, f' = { L[i] with pins := L[i].pins + 1 } := ⟨_, rfl⟩
  have k0 : Fr NoB w1 (w1.alloc (.cells (rc { L[i] with pins := L[i].pins + 1 }).toArray 72)) := (Fr.refl _ _).alloc _
  have HA2 := Lib.hid (h1.fr k0 (fun _ _ h => h))
  have HW2 := Lib.hid (f1.trans k0)
  have HB7 := Lib.hid (Bk.new w1 72 (rc { L[i] with pins := L[i].pins + 1 }).toArray)
  have HB02 := Lib.hid ((HB0.out.fr f1 (fun h => h)).fr k0 (fun h => h))
  clear hcell h1 k0 f1 hA'
  have hwi := without_any HA2.out.ar hll hi
  have eM : (L.eraseIdx i ++ [({ L[i] with pins := L[i].pins + 1 } : Frm)]).length = (L.eraseIdx i).length + 1 := by simp
  have HEM := Lib.hid eM
  clear eM hf'
  go_wp2_with fail
  refine hwi.mono ?_
  rintro e w2 ⟨A2, c2', rfl, arr2, new2, f2⟩
  have HFL : Hid (FL _ A2 c2' (L.eraseIdx i) w2) := Lib.hid ⟨arr2, new2, f2⟩
  have HG := Lib.hid (HFL.out.arg { L[i] with pins := L[i].pins + 1 } w2.heap.size rfl)
  have hb7 := HB7.out.fr f2 (fun h => h)
  have z0 := hb7.cell 0
  have z1 := hb7.cell 1
  have z2 := hb7.cell 2
  have z3 := hb7.cell 3
  have z4 := hb7.cell 4
  have HKP := Lib.hid (HA2.out.bk.fr f2 (fun h => h))
  have HKB := Lib.hid (HB02.out.fr f2 (fun h => h))
  have HW3 := Lib.hid (HW2.out.trans f2)
  have hnew : Hid (∀ k, InB A2 k → w0.heap.size ≤ k ∧ p < k ∧ w.heap.size < k) := Lib.hid fun k hk => by have := new2 k hk; have := HW2.out.size; have := HA2.out.bk.lt; have := hz.out; omega
  simp [rc] at z0 z1 z2 z3 z4
  clear arr2 new2 f2 hb7 hwi HA2 HB7 HB02 HW2 y0 y1 y2 y3 y4 c2
  go_wp2_with (at_builtin; go_loud (refine wpList_append_arr _ rfl _ _ 63 rfl 72 i0 _ 5 40 Try.underlying63 hi0 hz0 hz1 hz2 rfl A2 (L.eraseIdx i).length c2' (rcells (L.eraseIdx i)) rfl HG.out.1 _ (some ⟨_, 0, none⟩) 1 1 (rc { L[i] with pins := L[i].pins + 1 }) rfl HG.out.2 (by intro u hu; simp [rc] at hu; rcases hu with rfl | rfl | rfl | rfl | rfl <;> rfl) (by simp only [maxLen]; omega) (by omega) ?_; intro A3 c3 w3 ha3 hf3 hin3 _; have kp := (HKP.out.fr ((Fr.refl NoB _).alloc (.cells (rc { L[i] with pins := L[i].pins + 1 }).toArray 72)) (fun h => h)).fr hf3 (fun hk => by have := hnew.out _ hk; omega); have kb := (HKB.out.fr ((Fr.refl NoB _).alloc (.cells (rc { L[i] with pins := L[i].pins + 1 }).toArray 72)) (fun h => h)).fr hf3 (fun hk => by have := hnew.out _ hk; omega); have pf := kp.frozen 2; have pc := kp.cell 2; have b0 := kb.cell 0; have b1 := kb.cell 1; have b2 := kb.cell 2; have b3 := kb.cell 3; have bf0 := kb.frozen 0; have bf1 := kb.frozen 1; have bf2 := kb.frozen 2; have bf3 := kb.frozen 3; have e5 := kb.types kp (by decide); have e6 := e5.symm; have HE := lay_end H.out HF0.out hz.out (HW3.out.alloc (.cells (rc { L[i] with pins := L[i].pins + 1 }).toArray 72) |>.mono (fun _ _ h => h.elim) |>.join hf3 (fun j hj e => by have := hnew.out _ e; omega)) kp (M := L.eraseIdx i ++ [({ L[i] with pins := L[i].pins + 1 } : Frm)]) (by rw [HEM.out, ← rcells_snoc]; exact ha3) (fun k hk => .inr ((hin3 k hk).elim (fun h' => by have := hnew.out _ h'; omega) (fun h' => by have := HW3.out.size; simp at h'; omega))) (.bool true) (.bool false) (.int .i64 0) (.int .i64 0); rw [HEM.out] at HE; replace HE := Lib.hid HE; clear kp kb ha3 hf3 hin3; simp at b0 b1 b2 b3 pc))
  refine bodyPost_ret (v := .tuple #[gotV ⟨true, false, 0, 0⟩, .int .i64 0]) ?_ rfl ⟨fun k => T k ∨ InB A3 k, rfl, HE.out.1.congr ?_ ?_, HE.out.2.1, HE.out.2.2⟩
  · simp [results, Try.results30, go_sem, gotV, *]
  · unfold putF
    rw [HER.out, ← rcells_snoc, ← rcells_snoc]
    rfl
  · unfold putF
    rw [HER.out]
    simp

set_option maxHeartbeats 4000000 in
theorem rget_miss {w : World} {T : Nat → Prop} {p n : Nat} {fl ck N : Int} {L : List Frm} {x : Int} (blk : Nat) (h : RP w T p n fl L) (hg : PGood n fl ck N L) (h1 : 1 ≤ x) (h2 : x ≤ 4096) (hfi : findF L x = none) (hl : L.length < n) :
    Calls Try.prog 30 #[.pointer (some ⟨p, 0, none⟩), .int .i64 x] w (RGetPost T p n (got0, 0, fl, ck + 1, putF ck L (newFrm x blk)) w) := by
  obtain ⟨i0, hi0, hz0, hz1, hz2⟩ := info_parts info72
  have d1 : decide (x < 1) = false := decide_eq_false (by omega)
  have d2 : decide (4096 < x) = false := decide_eq_false (by omega)
  have hll : L.length ≤ 64 := by have := hg.len; have := hg.n2; omega
  have d3 : decide ((n : Int) ≤ (L.length : Int)) = false := decide_eq_false (by omega)
  have f0 : Fr NoB w (w.alloc (.cells #[.bool false, .bool false, .int .i64 0, .int .i64 0] 66)) := (Fr.refl NoB w).alloc _
  have hf := find_any x (h.fr f0 (fun _ _ h => h))
  rw [hfi] at hf
  change Calls _ _ _ _ (fun e w' => e = .returned (.int .i64 (-1)) ∧ Fr NoB (w.alloc (.cells #[.bool false, .bool false, .int .i64 0, .int .i64 0] 66)) w') at hf
  have H := Lib.hid h
  have HNO := Lib.hid (frameOf_none (findF_none hfi))
  have HB0 := Lib.hid (Bk.new w 66 #[.bool false, .bool false, .int .i64 0, .int .i64 0])
  have hz : Hid ((w.alloc (.cells #[.bool false, .bool false, .int .i64 0, .int .i64 0] 66)).heap.size = w.heap.size + 1) := Lib.hid (by simp)
  have HF0 := Lib.hid f0
  clear hfi h hg f0
  go_enter Try.func30, Try.ntmps30
  go_wp2_with fail
  refine hf.mono ?_
  rintro e w1 ⟨rfl, f1⟩
  generalize (w.alloc (.cells #[.bool false, .bool false, .int .i64 0, .int .i64 0] 66)) = w0 at *
  obtain ⟨A, c, h1⟩ := ((H.out.fr HF0.out (fun _ _ h => h)).fr f1 (fun _ _ h => h)).open
  have k0 : Fr NoB w1 (w1.alloc (.cells #[.bool false, .bool false, .int .i64 0, .int .i64 0] 66)) := (Fr.refl _ _).alloc _
  have HA1 := Lib.hid (h1.fr k0 (fun _ _ h => h))
  have HB1 := Lib.hid ((HB0.out.fr f1 (fun h => h)).fr k0 (fun h => h))
  have HW1 := Lib.hid (f1.trans k0)
  have HB9 := Lib.hid (Bk.new w1 66 #[.bool false, .bool false, .int .i64 0, .int .i64 0])
  have hz9 : w.heap.size + 1 ≤ w1.heap.size := by have := f1.size; have := hz.out; omega
  clear h1 f1 k0
  go_wp2_with fail
  generalize hb9 : w1.heap.size = b9 at *
  clear hb9
  generalize w1.alloc (.cells #[.bool false, .bool false, .int .i64 0, .int .i64 0] 66) = w2 at *
  have c2 : w2.cell? ⟨p, 2, none⟩ = some (.slice A L.length c) := HA1.out.bk.cell 2
  have c0 : w2.cell? ⟨p, 0, none⟩ = some (.int .i64 n) := HA1.out.bk.cell 0
  go_quiet (fail)
  have fq : Fr NoB w2 (w2.drewN nq) := (Fr.refl NoB w2).drewN nq
  have HA2 := Lib.hid (HA1.out.fr fq (fun _ _ h => h))
  have HB2 := Lib.hid (HB1.out.fr fq (fun h => h))
  have HB92 := Lib.hid (HB9.out.fr fq (fun h => h))
  have HW2 := Lib.hid (HW1.out.trans fq)
  clear fq HA1 HB1 HB9 HW1 c0 c2
  generalize w2.drewN nq = w4 at *
  have c2 : w4.cell? ⟨p, 2, none⟩ = some (.slice A L.length c) := HA2.out.bk.cell 2
  have HG : Hid (Arr (w4.alloc (.cells (rc ⟨x, 1, 0, 0, 0, false, 0⟩).toArray 72)) 72 5 A L.length c (rcells L) ∧ Rd (w4.alloc (.cells (rc ⟨x, 1, 0, 0, 0, false, 0⟩).toArray 72)) (fun k => k = w4.heap.size) 5 (some ⟨w4.heap.size, 0, none⟩) 1 1 (rc ⟨x, 1, 0, 0, 0, false, 0⟩)) :=
    Lib.hid ⟨HA2.out.ar.fr ((Fr.refl NoB _).alloc _) (fun _ _ h => h), rd_five (Bk.new w4 72 _)⟩
  have HEM : Hid ((L ++ [(⟨x, 1, 0, 0, 0, false, 0⟩ : Frm)]).length = L.length + 1) := Lib.hid (by simp)
  have hnA : Hid (∀ k, InB A k → T k ∧ k < w.heap.size ∧ k ≠ p) := Lib.hid fun k hk => ⟨HA2.out.inT k hk, H.out.lt k (HA2.out.inT k hk), fun e => by
    subst e
    obtain ⟨cur, hc⟩ := HA2.out.ar.blk hk
    exact HA2.out.bk.types hc (by decide) rfl⟩
  go_wp2_with (at_builtin; go_loud (refine wpList_append_arr _ rfl _ _ 63 rfl 72 i0 _ 5 40 Try.underlying63 hi0 hz0 hz1 hz2 rfl A L.length c (rcells L) rfl HG.out.1 _ (some ⟨_, 0, none⟩) 1 1 (rc ⟨x, 1, 0, 0, 0, false, 0⟩) rfl HG.out.2 (by intro u hu; simp [rc] at hu; rcases hu with rfl | rfl | rfl | rfl | rfl <;> rfl) (by simp only [maxLen]; omega) (by omega) ?_; intro A3 c3 w3 ha3 hf3 hin3 _; have kp := (HA2.out.bk.fr ((Fr.refl NoB _).alloc (.cells (rc ⟨x, 1, 0, 0, 0, false, 0⟩).toArray 72)) (fun h => h)).fr hf3 (fun hk => (hnA.out _ hk).2.2 rfl); have kb := (HB2.out.fr ((Fr.refl NoB _).alloc (.cells (rc ⟨x, 1, 0, 0, 0, false, 0⟩).toArray 72)) (fun h => h)).fr hf3 (fun hk => by have := (hnA.out _ hk).2.1; omega); have k9 := (HB92.out.fr ((Fr.refl NoB _).alloc (.cells (rc ⟨x, 1, 0, 0, 0, false, 0⟩).toArray 72)) (fun h => h)).fr hf3 (fun hk => by have := (hnA.out _ hk).2.1; omega); have pf := kp.frozen 2; have pc := kp.cell 2; have b0 := kb.cell 0; have b1 := kb.cell 1; have b2 := kb.cell 2; have b3 := kb.cell 3; have bf0 := kb.frozen 0; have bf1 := kb.frozen 1; have bf2 := kb.frozen 2; have bf3 := kb.frozen 3; have q0 := k9.cell 0; have q1 := k9.cell 1; have q2 := k9.cell 2; have q3 := k9.cell 3; have e5 := kb.types kp (by decide); have e6 := e5.symm; have e7 := k9.types kp (by decide); have e8 := e7.symm; have HE := lay_end H.out HF0.out hz.out ((((HW2.out.mono (fun _ _ h => h.elim)).trans (((Fr.refl NoB _).alloc (.cells (rc ⟨x, 1, 0, 0, 0, false, 0⟩).toArray 72)).mono (fun _ _ h => h.elim)))).join hf3 (fun j _ hj => (hnA.out _ hj).1)) kp (M := L ++ [(⟨x, 1, 0, 0, 0, false, 0⟩ : Frm)]) (by rw [HEM.out, ← rcells_snoc]; exact ha3) (fun k hk => (hin3 k hk).elim (fun h' => .inl (hnA.out _ h').1) (fun h' => .inr (by have := HW2.out.size; simp at h'; omega))) (.bool false) (.bool false) (.int .i64 0) (.int .i64 0); rw [HEM.out] at HE; replace HE := Lib.hid HE; clear kp kb k9 ha3 hf3 hin3; simp at b0 b1 b2 b3 pc q0 q1 q2 q3))
  refine bodyPost_ret (v := .tuple #[gotV got0, .int .i64 0]) ?_ rfl ⟨fun k => T k ∨ InB A3 k, rfl, HE.out.1.congr ?_ ?_, HE.out.2.1, HE.out.2.2⟩
  · simp [results, Try.results30, go_sem, gotV, got0, *]
  · unfold putF
    rw [show (newFrm x blk).page = x from rfl, without_none HNO.out, ← rcells_snoc, ← rcells_snoc]
    rfl
  · unfold putF
    rw [show (newFrm x blk).page = x from rfl, without_none HNO.out]
    simp

end Go.Proofs.Ytmbabgaanpjmpaa
