/- The document's pool: Pins, need, Flush, Unpin. -/
import Derived.Test.YtmbabgaanpjmpaaRefA
namespace Go.Proofs.Ytmbabgaanpjmpaa
open Go.RowKit

/-- The same with its array named. -/
structure RPA (w : World) (T : Nat → Prop) (p n : Nat) (fl : Int) (L : List Frm) (A : Option Addr) (c : Nat) : Prop where
  bk : Bk w p 65 #[.int .i64 n, .int .i64 fl, .slice A L.length c]
  ar : Arr w 72 5 A L.length c (rcells L)
  inT : ∀ k, InB A k → T k
  own : T p
  lt : ∀ k, T k → k < w.heap.size
theorem RP.open {w : World} {T : Nat → Prop} {p n : Nat} {fl : Int} {L : List Frm} (h : RP w T p n fl L) : ∃ A c, RPA w T p n fl L A c := by
  obtain ⟨⟨A, c, hb, ha, h1⟩, ho, hlt⟩ := h
  exact ⟨A, c, hb, ha, h1, ho, hlt⟩
theorem RPA.shut {w : World} {T : Nat → Prop} {p n : Nat} {fl : Int} {L : List Frm} {A : Option Addr} {c : Nat} (h : RPA w T p n fl L A c) : RP w T p n fl L := ⟨⟨A, c, h.bk, h.ar, h.inT⟩, h.own, h.lt⟩
theorem RPA.fr {T S : Nat → Prop} {w w1 : World} {p n : Nat} {fl : Int} {L : List Frm} {A : Option Addr} {c : Nat} (h : RPA w T p n fl L A c) (hf : Fr S w w1) (hn : ∀ k, T k → ¬ S k) : RPA w1 T p n fl L A c :=
  ⟨h.bk.fr hf (hn p h.own), h.ar.fr hf (fun k hk => hn k (h.inT k hk)), h.inT, h.own, fun k hk => by have := h.lt k hk; have := hf.size; omega⟩
theorem RPA.store {T : Nat → Prop} {w : World} {p n : Nat} {fl : Int} {L : List Frm} {c g : Nat} (h : RPA w T p n fl L (some ⟨g, 0, none⟩) c) {j : Nat} (i : Nat) (v : Value) (f' : Frm) (hj : j < L.length) (hi : i < 5) (hc : rc f' = (rc L[j]).set i v) :
    RPA (w.setCell ⟨g, j * 5 + i, none⟩ v) T p n fl (L.set j f') (some ⟨g, 0, none⟩) c ∧ Fr T w (w.setCell ⟨g, j * 5 + i, none⟩ v) := by
  have hg : T g := h.inT g rfl
  have f2 : Fr (fun k => k = g) w (w.setCell ⟨g, j * 5 + i, none⟩ v) := Fr.setCell (S := fun k => k = g) (p := ⟨g, j * 5 + i, none⟩) (Fr.refl _ w) (.inl rfl) _
  have npg : p ≠ g := fun e => by
    subst e
    obtain ⟨cur, hc⟩ := h.ar.blk (k := p) rfl
    exact h.bk.types hc (by decide) rfl
  refine ⟨⟨?_, ?_, h.inT, h.own, fun k hk => by have := h.lt k hk; simpa using this⟩, f2.mono (fun k _ e => by subst e; exact hg)⟩
  · rw [List.length_set]
    exact h.bk.fr f2 npg
  · rw [List.length_set, ← rcells_set hj hi hc]
    exact h.ar.set _ v
theorem RPA.ne {w : World} {T : Nat → Prop} {p n : Nat} {fl : Int} {L : List Frm} {c g : Nat} (h : RPA w T p n fl L (some ⟨g, 0, none⟩) c) : p ≠ g := fun e => by
  subst e
  obtain ⟨cur, hc⟩ := h.ar.blk (k := p) rfl
  exact h.bk.types hc (by decide) rfl

theorem refNeed_any {w : World} {T : Nat → Prop} {p n : Nat} {fl : Int} {L : List Frm} (x : Int) (h : RP w T p n fl L) :
    Calls Try.prog 40 #[.pointer (some ⟨p, 0, none⟩), .int .i64 x] w fun e w' => e = .returned (.int .i64 (needF fl x).1) ∧ RP w' T p n (needF fl x).2 L ∧ Fr T w w' := by
  have hfl := Lib.hid (h.flush x)
  obtain ⟨A, c, h1⟩ := h.open
  have c1 : w.cell? ⟨p, 1, none⟩ = some (.int .i64 fl) := h1.bk.cell 1
  have d1 := h1.bk.frozen 1
  have H := Lib.hid h
  unfold needF
  clear h h1
  by_cases hl : x ≤ fl
  · rw [if_pos hl]
    go_enter Try.func40, Try.ntmps40
    go_wp2_with fail
    go_ret
    exact ⟨rfl, H.out, Fr.refl _ _⟩
  · rw [if_neg hl]
    have hl' : decide (x ≤ fl) = false := decide_eq_false hl
    go_enter Try.func40, Try.ntmps40
    go_wp2_with fail
    go_ret
    exact ⟨rfl, hfl.out⟩

theorem refFlush_any {w : World} {T : Nat → Prop} {p n : Nat} {fl : Int} {L : List Frm} (x : Int) (h : RP w T p n fl L) :
    Calls Try.prog 34 #[.pointer (some ⟨p, 0, none⟩), .int .i64 x] w fun e w' => e = .returned (.int .i64 (flushedF fl x).1) ∧ RP w' T p n (flushedF fl x).2 L ∧ Fr T w w' := by
  have hfl := Lib.hid (h.flush x)
  obtain ⟨A, c, h1⟩ := h.open
  have c1 : w.cell? ⟨p, 1, none⟩ = some (.int .i64 fl) := h1.bk.cell 1
  have d1 := h1.bk.frozen 1
  have H := Lib.hid h
  unfold flushedF
  clear h h1
  by_cases h1 : x < 0
  · rw [if_neg (by omega)]
    go_enter Try.func34, Try.ntmps34
    go_wp2_with fail
    go_ret
    exact ⟨rfl, H.out, Fr.refl _ _⟩
  by_cases h2 : 1099511627776 < x
  · rw [if_neg (by omega)]
    go_enter Try.func34, Try.ntmps34
    go_wp2_with fail
    go_ret
    exact ⟨rfl, H.out, Fr.refl _ _⟩
  rw [if_pos (by omega)]
  by_cases h3 : fl < x
  · have hm : Hid (max fl x = x) := Lib.hid (by omega)
    go_enter Try.func34, Try.ntmps34
    go_wp2_with fail
    go_ret
    rw [hm.out]
    exact ⟨rfl, hfl.out⟩
  · have hm : Hid (max fl x = fl) := Lib.hid (by omega)
    go_enter Try.func34, Try.ntmps34
    go_wp2_with fail
    go_ret
    rw [hm.out]
    exact ⟨rfl, H.out, Fr.refl _ _⟩

theorem refPins_any {w : World} {T : Nat → Prop} {p n : Nat} {fl ck N : Int} {L : List Frm} (x : Int) (h : RP w T p n fl L) (hg : PGood n fl ck N L) :
    Calls Try.prog 22 #[.pointer (some ⟨p, 0, none⟩), .int .i64 x] w fun e w' => e = .returned (.int .i64 (pinsF L x)) ∧ Fr NoB w w' := by
  have hf := find_any x h
  cases hfi : findF L x with
  | none =>
    have hp : pinsF L x = 0 := by unfold pinsF; rw [findF_none hfi]
    rw [hfi] at hf
    change Calls _ _ _ _ (fun e w' => e = .returned (.int .i64 (-1)) ∧ Fr NoB w w') at hf
    rw [hp]
    clear hp hfi h hg
    go_enter Try.func22, Try.ntmps22
    go_wp2_with fail
    refine hf.mono ?_
    rintro e w1 ⟨rfl, f1⟩
    go_wp2_with fail
    go_ret
    exact ⟨rfl, f1⟩
  | some i =>
    obtain ⟨hi, rfl⟩ := findF_some hfi
    have hp : pinsF L L[i].page = L[i].pins := by unfold pinsF; rw [frameOf_mem hg.nd (List.getElem_mem hi)]
    rw [hfi] at hf
    change Calls _ _ _ _ (fun e w' => e = .returned (.int .i64 (i : Int)) ∧ Fr NoB w w') at hf
    rw [hp]
    have hll : L.length ≤ 64 := by have := hg.len; have := hg.n2; omega
    have H := Lib.hid h
    clear hp hfi h hg
    generalize hpg : L[i].page = pg at *
    clear hpg
    go_enter Try.func22, Try.ntmps22
    go_wp2_with fail
    refine hf.mono ?_
    rintro e w1 ⟨rfl, f1⟩
    obtain ⟨A, c, h1⟩ := (H.out.fr f1 (fun _ _ h => h)).open
    have c2 : w1.cell? ⟨p, 2, none⟩ = some (.slice A L.length c) := h1.bk.cell 2
    obtain ⟨g, rfl, hgl, hcell, hfz⟩ := rc_at h1.ar hi
    have y1 := hcell 1 _ rfl (by omega)
    clear hcell h1
    go_wp2_with fail
    go_ret
    exact ⟨rfl, f1⟩

set_option maxHeartbeats 1000000 in
theorem refUnpin_any {w : World} {T : Nat → Prop} {p n : Nat} {fl ck N : Int} {L : List Frm} (x : Int) (h : RP w T p n fl L) (hg : PGood n fl ck N L) (hN : N ≤ 9223372036854775807) :
    Calls Try.prog 31 #[.pointer (some ⟨p, 0, none⟩), .int .i64 x] w fun e w' => e = .returned (.int .i64 (unpinF L x).1) ∧ RP w' T p n fl (unpinF L x).2 ∧ Fr T w w' := by
  have hf := find_any x h
  cases hfi : findF L x with
  | none =>
    have hp : unpinF L x = (6, L) := by unfold unpinF; rw [findF_none hfi]
    rw [hfi] at hf
    change Calls _ _ _ _ (fun e w' => e = .returned (.int .i64 (-1)) ∧ Fr NoB w w') at hf
    rw [hp]
    have H := Lib.hid h
    clear hp hfi h hg
    go_enter Try.func31, Try.ntmps31
    go_wp2_with fail
    refine hf.mono ?_
    rintro e w1 ⟨rfl, f1⟩
    go_wp2_with fail
    go_ret
    exact ⟨rfl, H.out.fr f1 (fun _ _ h => h), f1.mono (fun _ _ h => h.elim)⟩
  | some i =>
    obtain ⟨hi, rfl⟩ := findF_some hfi
    have hll : L.length ≤ 64 := by have := hg.len; have := hg.n2; omega
    have hfo := frameOf_mem hg.nd (List.getElem_mem hi)
    have hpn := hg.pin _ (List.getElem_mem hi)
    rw [hfi] at hf
    change Calls _ _ _ _ (fun e w' => e = .returned (.int .i64 (i : Int)) ∧ Fr NoB w w') at hf
    have H := Lib.hid h
    by_cases hz : L[i].pins = 0
    · have hp : unpinF L L[i].page = (7, L) := by unfold unpinF; rw [hfo]; simp only []; rw [if_pos hz]
      rw [hp]
      clear hp hfi h hg hfo hpn
      generalize hpg : L[i].page = pg at *
      clear hpg
      go_enter Try.func31, Try.ntmps31
      go_wp2_with fail
      refine hf.mono ?_
      rintro e w1 ⟨rfl, f1⟩
      obtain ⟨A, c, h1⟩ := (H.out.fr f1 (fun _ _ h => h)).open
      have c2 : w1.cell? ⟨p, 2, none⟩ = some (.slice A L.length c) := h1.bk.cell 2
      obtain ⟨g, rfl, hgl, hcell, hfz⟩ := rc_at h1.ar hi
      have y1 := hcell 1 _ rfl (by omega)
      rw [hz] at y1
      clear hcell h1 hz
      go_wp2_with fail
      go_ret
      exact ⟨rfl, H.out.fr f1 (fun _ _ h => h), f1.mono (fun _ _ h => h.elim)⟩
    · have hp : unpinF L L[i].page = (0, L.set i { L[i] with pins := L[i].pins - 1 }) := by
        unfold unpinF
        rw [hfo]
        simp only []
        rw [if_neg hz, upd_set hg.nd hi]
      rw [hp]
      have hzb : (L[i].pins == 0) = false := by simpa using hz
      have hw : IntKind.i64.wrap (L[i].pins - 1) = L[i].pins - 1 := by rw [IntKind.wrap_i64]; omega
      clear hp hfi h hg hfo hpn hz
      generalize hpg : L[i].page = pg at *
      go_enter Try.func31, Try.ntmps31
      go_wp2_with fail
      refine hf.mono ?_
      rintro e w1 ⟨rfl, f1⟩
      obtain ⟨A, c, h1⟩ := (H.out.fr f1 (fun _ _ h => h)).open
      have c2 : w1.cell? ⟨p, 2, none⟩ = some (.slice A L.length c) := h1.bk.cell 2
      obtain ⟨g, rfl, hgl, hcell, hfz⟩ := rc_at h1.ar hi
      have y1 : w1.cell? ⟨g, i * 5 + 1, none⟩ = some (.int .i64 L[i].pins) := hcell 1 _ rfl (by omega)
      have hst := h1.store (j := i) 1 (.int .i64 (L[i].pins - 1)) { L[i] with pins := L[i].pins - 1 } hi (by omega) rfl
      have HST := Lib.hid hst
      clear hcell h1 hst hpg
      go_wp2_with fail
      refine wp_region_plan 16 (fun w' => w'.cell? ⟨p, 2, none⟩ = some (.slice (some ⟨g, 0, none⟩) L.length c) ∧ w'.cell? ⟨g, i * 5 + 1, none⟩ = some (.int .i64 L[i].pins))
        [(0, 0), (1, 0), (2, 0), (3, 1), (4, 0), (5, 0), (6, 0), (7, 0), (8, 1), (9, 0), (10, 0), (11, 0), (12, 1), (13, 0), (14, 0), (15, 0), (16, 2)] (by kernel_rfl) (by kernel_rfl) (fun _ _ _ _ _ h => h) ⟨c2, y1⟩ ?_
      refine wpPlan_free _ ?_ rfl (by rfl) (fun w' => ?_) ?_
      rotate_left
      · go_simp; with_reducible rfl
      simp only [Act.put, List.setIfInBounds_toArray, List.set_cons_zero, List.set_cons_succ]
      refine wpPlan_free _ ?_ rfl (by rfl) (fun w' => ?_) ?_
      rotate_left
      · go_simp; with_reducible rfl
      simp only [Act.put, List.setIfInBounds_toArray, List.set_cons_zero, List.set_cons_succ]
      refine wpPlan_free _ ?_ rfl (by rfl) (fun w' => ?_) ?_
      rotate_left
      · go_simp; with_reducible rfl
      simp only [Act.put, List.setIfInBounds_toArray, List.set_cons_zero, List.set_cons_succ]
      refine wpPlan_held _ ?_ rfl (by rfl) (fun w' hS => ?_) ?_
      rotate_left
      · obtain ⟨e0, e1⟩ := hS; go_simp; with_reducible rfl
      simp only [Act.put, List.setIfInBounds_toArray, List.set_cons_zero, List.set_cons_succ]
      refine wpPlan_free _ ?_ rfl (by rfl) (fun w' => ?_) ?_
      rotate_left
      · go_simp; with_reducible rfl
      simp only [Act.put, List.setIfInBounds_toArray, List.set_cons_zero, List.set_cons_succ]
      refine wpPlan_free _ ?_ rfl (by rfl) (fun w' => ?_) ?_
      rotate_left
      · go_simp; with_reducible rfl
      simp only [Act.put, List.setIfInBounds_toArray, List.set_cons_zero, List.set_cons_succ]
      refine wpPlan_free _ ?_ rfl (by rfl) (fun w' => ?_) ?_
      rotate_left
      · go_simp; with_reducible rfl
      simp only [Act.put, List.setIfInBounds_toArray, List.set_cons_zero, List.set_cons_succ]
      refine wpPlan_free _ ?_ rfl (by rfl) (fun w' => ?_) ?_
      rotate_left
      · go_simp; with_reducible rfl
      simp only [Act.put, List.setIfInBounds_toArray, List.set_cons_zero, List.set_cons_succ]
      refine wpPlan_held _ ?_ rfl (by rfl) (fun w' hS => ?_) ?_
      rotate_left
      · obtain ⟨e0, e1⟩ := hS; go_simp; with_reducible rfl
      simp only [Act.put, List.setIfInBounds_toArray, List.set_cons_zero, List.set_cons_succ]
      refine wpPlan_free _ ?_ rfl (by rfl) (fun w' => ?_) ?_
      rotate_left
      · go_simp; with_reducible rfl
      simp only [Act.put, List.setIfInBounds_toArray, List.set_cons_zero, List.set_cons_succ]
      refine wpPlan_free _ ?_ rfl (by rfl) (fun w' => ?_) ?_
      rotate_left
      · go_simp; with_reducible rfl
      simp only [Act.put, List.setIfInBounds_toArray, List.set_cons_zero, List.set_cons_succ]
      refine wpPlan_free _ ?_ rfl (by rfl) (fun w' => ?_) ?_
      rotate_left
      · go_simp; with_reducible rfl
      simp only [Act.put, List.setIfInBounds_toArray, List.set_cons_zero, List.set_cons_succ]
      refine wpPlan_held _ ?_ rfl (by rfl) (fun w' hS => ?_) ?_
      rotate_left
      · obtain ⟨e0, e1⟩ := hS; go_simp; with_reducible rfl
      simp only [Act.put, List.setIfInBounds_toArray, List.set_cons_zero, List.set_cons_succ]
      refine wpPlan_free _ ?_ rfl (by rfl) (fun w' => ?_) ?_
      rotate_left
      · go_simp; with_reducible rfl
      simp only [Act.put, List.setIfInBounds_toArray, List.set_cons_zero, List.set_cons_succ]
      refine wpPlan_free _ ?_ rfl (by rfl) (fun w' => ?_) ?_
      rotate_left
      · go_simp; with_reducible rfl
      simp only [Act.put, List.setIfInBounds_toArray, List.set_cons_zero, List.set_cons_succ]
      refine wpPlan_free _ ?_ rfl (by rfl) (fun w' => ?_) ?_
      rotate_left
      · go_simp; with_reducible rfl
      simp only [Act.put, List.setIfInBounds_toArray, List.set_cons_zero, List.set_cons_succ]
      refine wpPlan_do _ rfl (fun K hK => ?_)
      go_simp
      refine hK _ _ (fun h => by cases h) ?_
      clear hK K
      refine wpPlan_nil ?_
      go_wp2_with fail
      go_ret
      exact ⟨rfl, (HST.out.1.fr (Fr.refl NoB _).drew (fun _ _ h => h)).shut, ((f1.mono (fun _ _ h => h.elim)).trans HST.out.2).drew⟩
end Go.Proofs.Ytmbabgaanpjmpaa
