/- The contract of Write. -/
import Derived.Test.YtghddmdehbacaaaDisk
namespace Go.Proofs.Ytghddmdehbacaaa
open Go.RowKit

def full (b : List UInt8) : List UInt8 := b ++ List.replicate (256 - b.length) 0
theorem full_len {b : List UInt8} (h : b.length ≤ 256) : (full b).length = 256 := by simp [full]; omega

def writeF (m : Nat) (q : List (Nat × List UInt8)) (i : Int) (b : List UInt8) : Int × List (Nat × List UInt8) :=
  if hasB m i = true then if 256 < b.length then (2, q) else (0, q ++ [(i.toNat, full b)]) else (6, q)

def WritePost (S : Nat → Prop) (d : Nat) (las : List (List UInt8)) (r : Int × List (Nat × List UInt8)) (w : World) (e : Ending) (w' : World) : Prop :=
  ∃ S', e = .returned (.int .i64 r.1) ∧ DiskAt w' S' d las r.2 ∧ Fr S w w' ∧ Gr S S' w

theorem zcells_size : zcells.size = 256 := Array.size_replicate
theorem bv_append (a b : List UInt8) : bv (a ++ b) = bv a ++ bv b := List.map_append
theorem bv_drop (a : List UInt8) (n : Nat) : (bv a).drop n = bv (a.drop n) := (List.map_drop ..).symm
theorem bv_take (a : List UInt8) (n : Nat) : (bv a).take n = bv (a.take n) := (List.map_take ..).symm

theorem new_copied (w : World) (e : TypeId) (b : List UInt8) (hb : b.length ≤ 256) :
    ((w.alloc (.cells zcells e)).setCells w.heap.size 0 (bv b)).rangeAt w.heap.size 0 (bv (full b)) ∧ (w.alloc (.cells zcells e)).there w.heap.size 0 256 ∧ Fr NoB w ((w.alloc (.cells zcells e)).setCells w.heap.size 0 (bv b)) := by
  have hbk := Bk.new w e zcells
  have ht : (w.alloc (.cells zcells e)).there w.heap.size 0 256 := hbk.there (by rw [zcells_size]; exact Nat.le_refl _)
  refine ⟨?_, ht, Fr.setCells (.inr (Nat.le_refl _)) _ _ ((Fr.refl _ _).alloc _)⟩
  have e1 : bv (full b) = bv b ++ zcells.toList.drop b.length := by
    rw [zcells_bv, bv_drop, List.drop_replicate]
    exact bv_append _ _
  rw [e1]
  refine rangeAt_append (World.rangeAt_setCells_same _ _ _ _ (by rw [bv_len]; exact there_sub ht (Nat.le_refl _) (by omega))) ?_
  refine World.rangeAt_setCells_apart ?_ _ _ _ (.inr (.inr (Nat.le_refl _)))
  have := hbk.rangeAt b.length (256 - b.length)
  rw [List.take_of_length_le (by rw [List.length_drop, Array.length_toList, zcells_size]; exact Nat.le_refl _)] at this
  rw [bv_len, Nat.zero_add]
  exact this

theorem write_none {S : Nat → Prop} {d : Nat} {las : List (List UInt8)} {q : List (Nat × List UInt8)} (i : Int) (A : Option Addr) (n c : Nat) (w : World) (h : DiskAt w S d las q) (hi : hasB las.length i = false) :
    Calls Try.prog 9 #[.pointer (some ⟨d, 0, none⟩), .int .i64 i, .slice A n c] w fun e w' => e = .returned (.int .i64 6) ∧ w = w' := by
  have hh := has_any i w h
  clear h
  go_enter Try.func9, Try.ntmps9
  go_wp2_with fail
  refine hh.mono ?_
  rintro e w' ⟨rfl, rfl⟩
  rw [hi]
  go_wp2_with fail
  go_ret
  exact ⟨rfl, rfl⟩

theorem write_long {S : Nat → Prop} {d : Nat} {las : List (List UInt8)} {q : List (Nat × List UInt8)} (i : Int) (A : Option Addr) (n c : Nat) (w : World) (h : DiskAt w S d las q) (hi : hasB las.length i = true) (hn : 256 < n) :
    Calls Try.prog 9 #[.pointer (some ⟨d, 0, none⟩), .int .i64 i, .slice A n c] w fun e w' => e = .returned (.int .i64 2) ∧ w = w' := by
  have hh := has_any i w h
  have hn' : decide (256 < (n : Int)) = true := decide_eq_true (by omega)
  clear h
  go_enter Try.func9, Try.ntmps9
  go_wp2_with fail
  refine hh.mono ?_
  rintro e w' ⟨rfl, rfl⟩
  rw [hi]
  go_wp2_with fail
  go_ret
  exact ⟨rfl, rfl⟩

theorem info59 : (Try.prog.info? 59).map (fun i => (i.zero, i.size, i.bytes)) = some (some zw, 257, 264) := by kernel_rfl
theorem zw_size : zw.cells.size = 257 := by
  show (#[Value.int .i64 0] ++ zcells).size = 257
  rw [Array.size_append, zcells_size]
  rfl

theorem write_ok {S T : Nat → Prop} {d : Nat} {las : List (List UInt8)} {q : List (Nat × List UInt8)} (k : Nat) (A : Option Addr) (c : Nat) (b : List UInt8) (w : World) (h : DiskAt w S d las q) (hR : Rd w T 1 A b.length c (bv b))
    (hk : k < las.length) (hb : b.length ≤ 256) (hql : q.length ≤ 16777215) :
    Calls Try.prog 9 #[.pointer (some ⟨d, 0, none⟩), .int .i64 k, .slice A b.length c] w (WritePost S d las (0, q ++ [(k, full b)]) w) := by
  obtain ⟨i0, hi0, hz0, hz1, hz2⟩ := info_parts info59
  have hh := has_any k w h
  rw [hasB_nat hk] at hh
  have hn' : decide (256 < (b.length : Int)) = false := decide_eq_false (by omega)
  obtain ⟨⟨gl, gs, Aq, cq, hbk, hrl, hrs, hrq, hne, hSl, hSs, hSq⟩, hS, hlt, hll, hqo, hpos, hfew⟩ := h
  have hdl := hbk.lt
  have hgl := hlt _ hSs
  have c1 : w.cell? ⟨d, 1, none⟩ = some (.slice (some ⟨gs, 0, none⟩) las.length las.length) := hbk.cell 1
  have HBK := Lib.hid hbk
  clear hbk
  obtain ⟨hcp, hth, hcf⟩ := new_copied w 57 b hb
  have HTH := Lib.hid hth
  have hRA := Lib.hid (hR.alloc (.cells zcells 57))
  clear hth
  go_enter Try.func9, Try.ntmps9
  go_wp2_with fail
  refine hh.mono ?_
  rintro e w' ⟨rfl, rfl⟩
  have hmin : Nat.min b.length 256 = b.length := Nat.min_eq_left hb
  have htk : (bv b).take 256 = bv b := List.take_of_length_le (by rw [bv_len]; exact hb)
  have HMIN := Lib.hid hmin
  have HTK := Lib.hid htk
  have HB := Lib.hid hb
  clear hmin htk hb
  go_wp2_with (first
    | (refine wpList_alloc_z rfl 57 _ rfl zero57 ?_)
    | (refine wpList_copy_rd rfl rfl 5 Try.underlying27 size5 w.heap.size 0 256 256 rfl rfl hRA.out (by rw [HMIN.out]; exact there_sub HTH.out (Nat.le_refl _) (by have := HB.out; omega)) (bv_one b) ?_; rw [HTK.out, HMIN.out])
    | fail)
  generalize hW : (w.alloc (.cells zcells 57)).setCells w.heap.size 0 (bv b) = W at *
  have hWz : W.heap.size = w.heap.size + 1 := by rw [← hW, size_setCells]; simp
  clear hW
  obtain ⟨x, hX⟩ : ∃ x, x = w.heap.size := ⟨_, rfl⟩
  rw [← hX] at hcp ⊢
  have HX := Lib.hid hX
  have HWZ := Lib.hid hWz
  clear hX hWz
  have d1 := hcf.cell_some c1 (fun h => h)
  have rowS := hrs.fr hcf (fun h => h)
  have hfl : (full b).length = 256 := full_len HB.out
  have hsz : (Try.prog.info? 57).map (·.size) = some (bv (full b)).length := by rw [size57, bv_len, hfl]
  have hsz' : (Try.prog.info? 57).map (·.size) = some (bv (full b)).toArray.size := by rw [hsz]; simp
  have hk0 : (0 : Int) ≤ (k : Int) := by omega
  have hk1 : (k : Int) < (las.length : Int) := by omega
  refine wp_region_plan 7 (fun w' => w'.cell? ⟨d, 1, none⟩ = some (.slice (some ⟨gs, 0, none⟩) las.length las.length) ∧ w'.rangeAt x 0 (bv (full b)))
    [(0, 0), (1, 0), (2, 0), (3, 1), (4, 0), (5, 1), (6, 0), (7, 2)] (by kernel_rfl) (by kernel_rfl) (fun _ _ _ _ _ h => h) ⟨d1, (World.rangeAt_drew _ _ _ _).2 hcp⟩ ?_
  refine wpPlan_free _ ?_ rfl (by rfl) (fun w' => ?_) ?_
  rotate_left
  · go_simp; with_reducible rfl
  simp only [Act.put, List.setIfInBounds_toArray, List.set_cons_zero, List.set_cons_succ]
  refine wpPlan_free _ ?_ rfl (by rfl) (fun w' => ?_) ?_
  rotate_left
  · go_simp; with_reducible rfl
  simp only [Act.put, List.setIfInBounds_toArray, List.set_cons_zero, List.set_cons_succ]
  refine wpPlan_free _ ?_ rfl (by rfl) (fun w' => ?_) ?_
  rotate_left
  · go_simp; with_reducible rfl
  simp only [Act.put, List.setIfInBounds_toArray, List.set_cons_zero, List.set_cons_succ]
  refine wpPlan_held _ ?_ rfl (by rfl) (fun w' hS => ?_) ?_
  rotate_left
  · obtain ⟨e0, e1⟩ := hS; go_simp; with_reducible rfl
  simp only [Act.put, List.setIfInBounds_toArray, List.set_cons_zero, List.set_cons_succ]
  refine wpPlan_free _ ?_ rfl (by rfl) (fun w' => ?_) ?_
  rotate_left
  · go_simp; with_reducible rfl
  simp only [Act.put, List.setIfInBounds_toArray, List.set_cons_zero, List.set_cons_succ]
  refine wpPlan_held _ ?_ rfl (by rfl) (fun w' hS => ?_) ?_
  rotate_left
  · refine exec_load_mid 57 (.tmp 7) ?_ x 0 ?_ (bv (full b)) _ hS.2 Try.underlying57 rfl hsz <;> rfl
  simp only [Act.put, List.setIfInBounds_toArray, List.set_cons_zero, List.set_cons_succ]
  refine wpPlan_free _ ?_ rfl (by rfl) (fun w' => ?_) ?_
  rotate_left
  · go_simp; with_reducible rfl
  simp only [Act.put, List.setIfInBounds_toArray, List.set_cons_zero, List.set_cons_succ]
  have ht : W.drew.there gs (k * 256) (bv (full b)).toArray.size := by
    have := rowS.spot (i := k) (by rw [List.length_map, apply_len]; exact hk)
    simpa [bv_len, hfl] using this
  refine wpPlan_do _ rfl (fun K hK => ?_)
  refine step_wp rfl (wp_store_mid 57 (.tmp 24) (.tmp 23) rfl gs (k * 256) (bv (full b)).toArray (by rfl) (by rfl) ht hsz' (bv_all _) ?_)
  refine hK _ _ (fun h => by cases h) ?_
  clear hK K
  refine wpPlan_nil ?_
  have rowS2 := (rowS.fr ((Fr.refl NoB W).drew) (fun h => h)).store (i := k) (by rw [List.length_map, apply_len]; exact hk) (bv (full b)) (by rw [bv_len, hfl])
  have fS : Fr (fun j => j = gs) W ((W.drew).setCells gs (k * 256) (bv (full b))) := Fr.setCells (S := fun j => j = gs) (.inl rfl) _ _ ((Fr.refl _ W).drew)
  have hxs : x ≠ gs := by have := HX.out; omega
  have rx := World.rangeAt_setCells_apart ((World.rangeAt_drew W x 0 (bv (full b))).2 hcp) gs (k * 256) (bv (full b)) (.inl hxs)
  have nds : d ≠ gs := by
    obtain ⟨cur, hb'⟩ := hrs.blk
    exact HBK.out.types hb' (by decide)
  have bkW := (HBK.out.fr hcf (fun h => h)).fr fS nds
  simp only [] at rowS2 fS rx bkW ⊢
  generalize (W.drew).setCells gs (k * 256) (bv (full b)) = W2 at *
  have e2 : W2.cell? ⟨d, 2, none⟩ = some (.slice Aq q.length cq) := bkW.cell 2
  have fl5 : (full b).length = (bv (full b)).toArray.size := by simp [bv_len]
  have hszA : (Try.prog.info? 57).map (·.size) = some (bv (full b)).toArray.size := hsz'
  obtain ⟨V, hV⟩ : ∃ V : Value, V = .agg (#[.int .i64 k] ++ (bv (full b)).toArray) := ⟨_, rfl⟩
  have hVc : V.cells.toList = wcell (k, full b) := by
    rw [hV]
    show ((#[Value.int .i64 k] ++ (bv (full b)).toArray)).toList = _
    rw [Array.toList_append]
    rfl
  have hVs : V.cells.size = 257 := by
    rw [← Array.length_toList, hVc]
    simp [wcell, bv_len, hfl]
  go_wp2_with fail
  refine wp_region_plan 12 (fun w' => w'.cell? ⟨d, 2, none⟩ = some (.slice Aq q.length cq) ∧ w'.rangeAt x 0 (bv (full b)))
    [(0, 0), (1, 0), (2, 0), (3, 0), (4, 1), (5, 0), (6, 1), (7, 0), (8, 2), (9, 2), (10, 0), (11, 0), (12, 2)] (by kernel_rfl) (by kernel_rfl) (fun _ _ _ _ _ h => h) ⟨e2, (World.rangeAt_drew _ _ _ _).2 rx⟩ ?_
  refine wpPlan_free _ ?_ rfl (by rfl) (fun w' => ?_) ?_
  rotate_left
  · go_simp; with_reducible rfl
  simp only [Act.put, List.setIfInBounds_toArray, List.set_cons_zero, List.set_cons_succ]
  refine wpPlan_free _ ?_ rfl (by rfl) (fun w' => ?_) ?_
  rotate_left
  · go_simp; with_reducible rfl
  simp only [Act.put, List.setIfInBounds_toArray, List.set_cons_zero, List.set_cons_succ]
  refine wpPlan_free _ ?_ rfl (by rfl) (fun w' => ?_) ?_
  rotate_left
  · go_simp; with_reducible rfl
  simp only [Act.put, List.setIfInBounds_toArray, List.set_cons_zero, List.set_cons_succ]
  refine wpPlan_free _ ?_ rfl (by rfl) (fun w' => ?_) ?_
  rotate_left
  · go_simp; with_reducible rfl
  simp only [Act.put, List.setIfInBounds_toArray, List.set_cons_zero, List.set_cons_succ]
  refine wpPlan_held _ ?_ rfl (by rfl) (fun w' hS => ?_) ?_
  rotate_left
  · obtain ⟨e0, e1⟩ := hS; go_simp; with_reducible rfl
  simp only [Act.put, List.setIfInBounds_toArray, List.set_cons_zero, List.set_cons_succ]
  refine wpPlan_free _ ?_ rfl (by rfl) (fun w' => ?_) ?_
  rotate_left
  · go_simp; with_reducible rfl
  simp only [Act.put, List.setIfInBounds_toArray, List.set_cons_zero, List.set_cons_succ]
  refine wpPlan_held _ ?_ rfl (by rfl) (fun w' hS => ?_) ?_
  rotate_left
  · refine exec_load_mid 57 (.tmp 7) ?_ x 0 ?_ (bv (full b)) _ hS.2 Try.underlying57 rfl hsz <;> rfl
  simp only [Act.put, List.setIfInBounds_toArray, List.set_cons_zero, List.set_cons_succ]
  refine wpPlan_free _ ?_ rfl (by rfl) (fun w' => ?_) ?_
  rotate_left
  · refine exec_build_two 59 (.tmp 30) (.tmp 31) ?_ (.int .i64 k) (bv (full b)).toArray ?_ rfl ?_ _ _ Try.underlying59 rfl rfl size3 hszA zw zero59 (by rw [zw_size, ← fl5, hfl]) w' <;> rfl
  rw [← hV]
  simp only [Act.put, List.setIfInBounds_toArray, List.set_cons_zero, List.set_cons_succ]
  refine wpPlan_do _ rfl (fun K hK => ?_)
  refine step_wp rfl (wp_buildSlice_one 52 59 (.tmp 32) rfl V (by rfl) Try.underlying52 zw zero59 (by rw [size59, hVs]) (by omega) (by omega) ?_)
  have g0 : Fr NoB W2 (W2.drew.alloc (.cells V.cells 59)) := ((Fr.refl NoB W2).drew).alloc _
  refine hK _ _ (fun _ => ⟨g0.cell_some e2 (fun h => h), rangeAt_fr rx g0 (fun h => h)⟩) ?_
  clear hK K
  simp only [Act.put, List.setIfInBounds_toArray, List.set_cons_zero, List.set_cons_succ]
  have hf0 : Fr (fun j => j = gs) w (W2.drew.alloc (.cells V.cells 59)) := ((hcf.mono (fun _ _ h => h.elim)).trans fS).join g0 (fun _ _ h => h.elim)
  have nqs : ∀ j, InB Aq j → j ≠ gs := fun j hj e => by
    subst e
    obtain ⟨cur, hb'⟩ := hrs.blk
    rcases hrq.2 with ⟨rfl, _⟩ | ⟨g', cur', rfl, hbq, _⟩
    · exact InB.none_ _ hj
    · rw [InB.some_] at hj
      simp only [] at hj
      exact hbq.types hb' (by decide) hj
  have harr2 := hrq.fr hf0 nqs
  have hsrc : Rd (W2.drew.alloc (.cells V.cells 59)) (fun _ => True) 257 (some ⟨W2.heap.size, 0, none⟩) 1 1 (wcell (k, full b)) := by
    have h1 := (Arr.made (e := 59) (size := 257) W2.drew V.cells 1 1 (Nat.le_refl _) (by simp [maxLen]) (by rw [hVs]; exact Nat.le_refl _)).rd.mono (T := fun _ => True) (fun _ _ => trivial)
    rw [hVc] at h1
    have h2 : (wcell (k, full b)).take (1 * 257) = wcell (k, full b) := List.take_of_length_le (by simp [wcell, bv_len, hfl])
    rw [h2] at h1
    exact h1
  have hone : ∀ u ∈ wcell (k, full b), u.oneCell' = true := by
    intro u hu
    rcases List.mem_cons.1 hu with rfl | h'
    · rfl
    · exact bv_one _ u h'
  refine wpPlan_do _ rfl (fun K hK => ?_)
  refine step_append_arr _ rfl (.tmp 29) (.tmp 33) 52 rfl 59 i0 zw 257 264 Try.underlying52 hi0 hz0 hz1 hz2 zw_size Aq q.length cq (qcells q) (by rfl) harr2 (fun _ => True) _ 1 1 _ (by rfl) hsrc hone ?_ ?_ ?_
  · simp only [maxLen]; omega
  · omega
  intro A3 c3 w3 harr3 hfr3 hin3 _
  have ndq : ¬ InB Aq d := fun hj => by
    rcases hrq.2 with ⟨rfl, _⟩ | ⟨g', cur', rfl, hbq, _⟩
    · exact InB.none_ _ hj
    · rw [InB.some_] at hj
      simp only [] at hj
      exact hbq.types HBK.out (by decide) hj
  have nxq : ¬ InB Aq x := fun hj => by
    have := hlt _ (hSq _ hj)
    have := HX.out
    omega
  have bk3 := (bkW.fr g0 (fun h => h)).fr hfr3 ndq
  have f1 : w3.cell? ⟨d, 2, none⟩ = some (.slice Aq q.length cq) := bk3.cell 2
  have f2 := bk3.frozen 2
  refine hK _ _ (fun _ => ⟨f1, rangeAt_fr (rangeAt_fr rx g0 (fun h => h)) hfr3 nxq⟩) ?_
  clear hK K
  simp only [Act.put, List.setIfInBounds_toArray, List.set_cons_zero, List.set_cons_succ]
  refine wpPlan_free _ ?_ rfl (by rfl) (fun w' => ?_) ?_
  rotate_left
  · go_simp; with_reducible rfl
  simp only [Act.put, List.setIfInBounds_toArray, List.set_cons_zero, List.set_cons_succ]
  refine wpPlan_free _ ?_ rfl (by rfl) (fun w' => ?_) ?_
  rotate_left
  · go_simp; with_reducible rfl
  simp only [Act.put, List.setIfInBounds_toArray, List.set_cons_zero, List.set_cons_succ]
  refine wpPlan_do _ rfl (fun K hK => ?_)
  go_simp
  refine hK _ _ (fun h => by cases h) ?_
  clear hK K
  refine wpPlan_nil ?_
  have f4 : Fr (fun j => j = d) w3 (w3.setCell ⟨d, 2, none⟩ (.slice A3 (q.length + 1) c3)) := Fr.setCell (S := fun j => j = d) (p := ⟨d, 2, none⟩) (Fr.refl _ w3) (.inl rfl) _
  have bk4 := bk3.set 2 (.slice A3 (q.length + 1) c3)
  have hz0' := hf0.size
  have hz3 := hfr3.size
  have hz4 := f4.size
  have hx := HX.out
  have hwz := HWZ.out
  have ndl : gl ≠ d := by
    obtain ⟨cur, hb'⟩ := hrl.blk
    exact hb'.types HBK.out (by decide)
  have nlq : ¬ InB Aq gl := fun hj => by
    obtain ⟨cur, hb'⟩ := hrl.blk
    rcases hrq.2 with ⟨rfl, _⟩ | ⟨g', cur', rfl, hbq, _⟩
    · exact InB.none_ _ hj
    · rw [InB.some_] at hj
      simp only [] at hj
      exact hbq.types hb' (by decide) hj
  have nsq : ¬ InB Aq gs := fun hj => nqs _ hj rfl
  have nd3 : ∀ j, InB A3 j → j ≠ d := fun j hj e => by
    rcases hin3 j hj with h' | h'
    · exact ndq (e ▸ h')
    · omega
  have rowL4 := ((hrl.fr hf0 hne).fr hfr3 nlq).fr f4 ndl
  have rowS4 := ((rowS2.fr g0 (fun h => h)).fr hfr3 nsq).fr f4 (Ne.symm nds)
  have arr4 := harr3.fr f4 nd3
  have fall : Fr S w (w3.setCell ⟨d, 2, none⟩ (.slice A3 (q.length + 1) c3)) :=
    ((hf0.mono (fun j _ e => by subst e; exact hSs)).join hfr3 (fun j _ h => hSq j h)).join f4 (fun j _ e => by subst e; exact hS)
  go_wp2
  go_ret
  refine ⟨fun j => S j ∨ (w.heap.size ≤ j ∧ j < w3.heap.size), rfl, ⟨⟨gl, gs, A3, c3, ?_, rowL4, ?_, ?_, hne, .inl hSl, .inl hSs, ?_⟩, .inl hS, ?_, hll, ?_, hpos, hfew⟩, fall, ?_⟩
  · simpa using bk4
  · rw [apply_snoc, List.map_set]
    exact rowS4
  · have e1 : qcells (q ++ [(k, full b)]) = qcells q ++ wcell (k, full b) := by simp [qcells]
    rw [e1]
    simpa using arr4
  · intro j hj
    rcases hin3 j hj with h' | h'
    · exact .inl (hSq j h')
    · exact .inr ⟨by omega, harr3.lt j hj⟩
  · intro j hj
    rcases hj with h' | h'
    · have := hlt j h'
      omega
    · omega
  · intro p hp
    rcases List.mem_append.1 hp with h' | h'
    · exact hqo p h'
    · simp only [List.mem_singleton] at h'
      subst h'
      exact ⟨hk, hfl⟩
  · intro j hj
    rcases hj with h' | h'
    · exact .inl h'
    · exact .inr h'.1

/-- Write, whatever comes. -/
theorem write_any {S T : Nat → Prop} {d : Nat} {las : List (List UInt8)} {q : List (Nat × List UInt8)} (i : Int) (A : Option Addr) (c : Nat) (b : List UInt8) (w : World) (h : DiskAt w S d las q) (hR : Rd w T 1 A b.length c (bv b)) (hql : q.length ≤ 16777215) :
    Calls Try.prog 9 #[.pointer (some ⟨d, 0, none⟩), .int .i64 i, .slice A b.length c] w (WritePost S d las (writeF las.length q i b) w) := by
  unfold writeF
  by_cases h1 : hasB las.length i = true
  · rw [if_pos h1]
    by_cases h2 : 256 < b.length
    · rw [if_pos h2]
      refine (write_long i A b.length c w h h1 h2).mono ?_
      rintro e w' ⟨rfl, rfl⟩
      exact ⟨S, rfl, h, Fr.refl _ _, fun _ h => .inl h⟩
    · rw [if_neg h2]
      have h3 := of_decide_eq_true h1
      obtain ⟨k, rfl⟩ := Int.eq_ofNat_of_zero_le h3.1
      exact write_ok k A c b w h hR (by omega) (by omega) hql
  · rw [if_neg h1]
    refine (write_none i A b.length c w h (by simpa using h1)).mono ?_
    rintro e w' ⟨rfl, rfl⟩
    exact ⟨S, rfl, h, Fr.refl _ _, fun _ h => .inl h⟩
end Go.Proofs.Ytghddmdehbacaaa
