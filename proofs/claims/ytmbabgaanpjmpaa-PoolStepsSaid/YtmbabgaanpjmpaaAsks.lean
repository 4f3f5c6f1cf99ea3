/- asks. -/
import Derived.Test.YtmbabgaanpjmpaaRefG
namespace Go.Proofs.Ytmbabgaanpjmpaa
open Go.RowKit
set_option linter.unusedVariables false

/-- Both pools; the document's may lag behind. -/
structure PQ (B : Nat → Prop) (W0 : World) (w : World) (p q n : Nat) (S T : Nat → Prop) (fl ck : Int) (L : List Frm) (N : Int) (fl2 : Int) (L2 : List Frm) (W : World) : Prop where
  pn : PN w p n S fl ck L N W
  rp : RP W T q n fl2 L2
  dis : ∀ k, S k → ¬ T k
  upT : Up w.heap.size T
  ff : Fr B W0 W
  bS : ∀ k, S k → B k ∨ W0.heap.size ≤ k
  bT : ∀ k, T k → B k ∨ W0.heap.size ≤ k
section
variable {B : Nat → Prop} {W0 w W W' : World} {p q n : Nat} {S S' T T' : Nat → Prop} {fl ck fl' ck' N N' fl2 fl2' : Int} {L L' L2 L2' : List Frm}
theorem PQ.keep (h : PQ B W0 w p q n S T fl ck L N fl2 L2 W) (hf : Fr NoB W W') : PQ B W0 w p q n S T fl ck L N fl2 L2 W' := ⟨h.pn.keep hf, h.rp.fr hf (fun _ _ h => h), h.dis, h.upT, h.ff.trans (hf.mono (fun _ _ h => h.elim)), h.bS, h.bT⟩
theorem PQ.left (h : PQ B W0 w p q n S T fl ck L N fl2 L2 W) (hr : PoolRaw W' S' p n fl' ck' L') (hg : PGood n fl' ck' N' L') (hf : Fr S W W') (hS : Gr S S' W) : PQ B W0 w p q n S' T fl' ck' L' N' fl2 L2 W' :=
  ⟨h.pn.turn hr hg hf hS, h.rp.fr hf (fun k hk hs => h.dis k hs hk), fun k hk ht => by
    rcases hS k hk with h' | h'
    · exact h.dis k h' ht
    · have := h.rp.lt k ht; omega, h.upT, h.ff.join hf (fun j hj hs => (h.bS j hs).resolve_right (by omega)), fun k hk => (hS k hk).elim (h.bS k) (fun h' => .inr (by have := h.ff.size; omega)), h.bT⟩
theorem PQ.right (h : PQ B W0 w p q n S T fl ck L N fl2 L2 W) (hr : RP W' T' q n fl2' L2') (hf : Fr T W W') (hS : Gr T T' W) : PQ B W0 w p q n S T' fl ck L N fl2' L2' W' :=
  ⟨⟨h.pn.raw.fr hf h.dis, h.pn.good, h.pn.up, h.pn.fr.up hf h.upT⟩, hr, fun k hk ht => by
    rcases hS k ht with h' | h'
    · exact h.dis k hk h'
    · have := h.pn.raw.lt k hk; omega, hS.up h.upT h.pn.fr.size, h.ff.join hf (fun j hj hs => (h.bT j hs).resolve_right (by omega)), h.bS, fun k hk => (hS k hk).elim (h.bT k) (fun h' => .inr (by have := h.ff.size; omega))⟩
theorem PQ.more (h : PQ B W0 w p q n S T fl ck L N fl2 L2 W) (hN : N ≤ N') : PQ B W0 w p q n S T fl ck L N' fl2 L2 W := ⟨⟨h.pn.raw, h.pn.good.mono hN, h.pn.up, h.pn.fr⟩, h.rp, h.dis, h.upT, h.ff, h.bS, h.bT⟩
theorem PQ.base (h : PQ B W0 w p q n S T fl ck L N fl2 L2 W) : PQ (fun k => S k ∨ T k) W w p q n S T fl ck L N fl2 L2 W := ⟨h.pn, h.rp, h.dis, h.upT, Fr.refl _ _, fun _ h => .inl (.inl h), fun _ h => .inl (.inr h)⟩
end

def AskPost (B : Nat → Prop) (W0 w : World) (p q n : Nat) (N : Int) (e : Ending) (w' : World) : Prop := e = .returned (.bool true) ∧ ∃ S T fl ck L, PQ B W0 w p q n S T fl ck L N fl L w'

set_option maxHeartbeats 4000000 in
theorem asks_get {B : Nat → Prop} {W0 w W : World} {p q n : Nat} {S T : Nat → Prop} {fl ck N : Int} {L : List Frm} (kd ka kb : Int) (hk : kd = 0 ∨ kd = 1) (h : PQ B W0 w p q n S T fl ck L N fl L W) (hN : N + 1 ≤ 9223372036854775807) :
    Calls Try.prog 18 #[.pointer (some ⟨p, 0, none⟩), .pointer (some ⟨q, 0, none⟩), .agg #[.int .i64 kd, .int .i64 ka, .int .i64 kb]] W (AskPost B W0 w p q n (N + 1)) := by
  have HW := Lib.hid (h.keep ((Fr.refl NoB W).alloc (.cells #[.int .i64 kd, .int .i64 ka, .int .i64 kb] 29)))
  have HB := Lib.hid (Bk.new W 29 #[.int .i64 kd, .int .i64 ka, .int .i64 kb])
  have hnK : Hid (¬ S W.heap.size) := Lib.hid fun hs => by have := h.pn.raw.lt _ hs; omega
  clear h
  have x0 : True := trivial
  have x1 : True := trivial
  have x2 : True := trivial
  rcases hk with rfl | rfl
  · go_enter Try.func18, Try.ntmps18
    go_wp2_with fail
    refine (get_step ka HW.out.pn.raw HW.out.pn.good hN).mono ?_
    rintro e w5 ⟨blk, S5, hi, wrt, o, nd, er, fl5, ck5, L5, hgf, rfl, raw5, good5, f5, gr5⟩
    have h5 := HW.out.left raw5 good5 f5 gr5
    have f6 : Fr NoB w5 (w5.alloc (.cells #[.bool hi, .bool wrt, .int .i64 o, .int .i64 nd] 34)) := (Fr.refl _ _).alloc _
    have H6 := Lib.hid (h5.keep f6)
    have hrg := rget_any ka blk H6.out.rp HW.out.pn.good hN
    rw [hgf] at hrg
    have kb := (HB.out.fr f5 hnK.out).fr f6 (fun h => h)
    have z1 : (w5.alloc (.cells #[.bool hi, .bool wrt, .int .i64 o, .int .i64 nd] 34)).cell? ⟨W.heap.size, 1, none⟩ = some (.int .i64 ka) := kb.cell 1
    have HG := Lib.hid (Bk.new w5 34 #[.bool hi, .bool wrt, .int .i64 o, .int .i64 nd])
    have hng : Hid (¬ T w5.heap.size) := Lib.hid fun hs => by have := h5.rp.lt _ hs; omega
    clear hgf raw5 good5 f5 gr5 h5 f6 kb HW HB hnK x0 x1 x2
    go_wp2_with fail
    refine hrg.mono ?_
    rintro e w7 ⟨T7, rfl, rp7, f7, gr7⟩
    have H7 := Lib.hid ((H6.out.right rp7 f7 gr7).keep ((Fr.refl NoB w7).alloc (.cells #[.bool hi, .bool wrt, .int .i64 o, .int .i64 nd] 66)))
    have g := (HG.out.fr f7 hng.out).fr ((Fr.refl NoB w7).alloc (.cells #[.bool hi, .bool wrt, .int .i64 o, .int .i64 nd] 66)) (fun h => h)
    have o0 := g.cell 0
    have o1 := g.cell 1
    have o2 := g.cell 2
    have o3 := g.cell 3
    simp at o0 o1 o2 o3
    clear rp7 f7 gr7 g hrg H6 HG
    simp only [gotV]
    go_wp2_with fail
    go_ret
    exact ⟨rfl, _, _, _, _, _, H7.out⟩
  · go_enter Try.func18, Try.ntmps18
    go_wp2_with fail
    refine (get_step ka HW.out.pn.raw HW.out.pn.good hN).mono ?_
    rintro e w5 ⟨blk, S5, hi, wrt, o, nd, er, fl5, ck5, L5, hgf, rfl, raw5, good5, f5, gr5⟩
    have h5 := HW.out.left raw5 good5 f5 gr5
    have f6 : Fr NoB w5 (w5.alloc (.cells #[.bool hi, .bool wrt, .int .i64 o, .int .i64 nd] 34)) := (Fr.refl _ _).alloc _
    have H6 := Lib.hid (h5.keep f6)
    have hrg := rget_any ka blk H6.out.rp HW.out.pn.good hN
    rw [hgf] at hrg
    have kb := (HB.out.fr f5 hnK.out).fr f6 (fun h => h)
    have z1 : (w5.alloc (.cells #[.bool hi, .bool wrt, .int .i64 o, .int .i64 nd] 34)).cell? ⟨W.heap.size, 1, none⟩ = some (.int .i64 ka) := kb.cell 1
    have HG := Lib.hid (Bk.new w5 34 #[.bool hi, .bool wrt, .int .i64 o, .int .i64 nd])
    have hng : Hid (¬ T w5.heap.size) := Lib.hid fun hs => by have := h5.rp.lt _ hs; omega
    clear hgf raw5 good5 f5 gr5 h5 f6 kb HW HB hnK x0 x1 x2
    go_wp2_with fail
    refine hrg.mono ?_
    rintro e w7 ⟨T7, rfl, rp7, f7, gr7⟩
    have H7 := Lib.hid ((H6.out.right rp7 f7 gr7).keep ((Fr.refl NoB w7).alloc (.cells #[.bool hi, .bool wrt, .int .i64 o, .int .i64 nd] 66)))
    have g := (HG.out.fr f7 hng.out).fr ((Fr.refl NoB w7).alloc (.cells #[.bool hi, .bool wrt, .int .i64 o, .int .i64 nd] 66)) (fun h => h)
    have o0 := g.cell 0
    have o1 := g.cell 1
    have o2 := g.cell 2
    have o3 := g.cell 3
    simp at o0 o1 o2 o3
    clear rp7 f7 gr7 g hrg H6 HG
    simp only [gotV]
    go_wp2_with fail
    go_ret
    exact ⟨rfl, _, _, _, _, _, H7.out⟩

set_option maxHeartbeats 4000000 in
theorem asks_unpin {B : Nat → Prop} {W0 w W : World} {p q n : Nat} {S T : Nat → Prop} {fl ck N : Int} {L : List Frm} (kd ka kb : Int) (hk : kd = 2 ∨ kd = 3) (o2 : okI ka) (h : PQ B W0 w p q n S T fl ck L N fl L W) (hN : N + 1 ≤ 9223372036854775807) :
    Calls Try.prog 18 #[.pointer (some ⟨p, 0, none⟩), .pointer (some ⟨q, 0, none⟩), .agg #[.int .i64 kd, .int .i64 ka, .int .i64 kb]] W (AskPost B W0 w p q n (N + 1)) := by
  have HW := Lib.hid (h.keep ((Fr.refl NoB W).alloc (.cells #[.int .i64 kd, .int .i64 ka, .int .i64 kb] 29)))
  have HB := Lib.hid (Bk.new W 29 #[.int .i64 kd, .int .i64 ka, .int .i64 kb])
  have hnK : Hid (¬ S W.heap.size) := Lib.hid fun hs => by have := h.pn.raw.lt _ hs; omega
  have hnT : Hid (¬ T W.heap.size) := Lib.hid fun hs => by have := h.rp.lt _ hs; omega
  have c1 : (W.alloc (.cells #[.int .i64 kd, .int .i64 ka, .int .i64 kb] 29)).drew.cell? ⟨W.heap.size, 1, none⟩ = some (.int .i64 ka) := HB.out.cell 1
  have c2 : (W.alloc (.cells #[.int .i64 kd, .int .i64 ka, .int .i64 kb] 29)).drew.cell? ⟨W.heap.size, 2, none⟩ = some (.int .i64 kb) := HB.out.cell 2
  clear h
  rcases hk with rfl | rfl
  · go_enter Try.func18, Try.ntmps18
    have HD := Lib.hid (HW.out.keep (Fr.refl NoB _).drew)
    have hu := unpin_any ka HD.out.pn.raw HD.out.pn.good (by omega) o2
    have hr := fun u (hh : RP u T q n fl L) => refUnpin_any ka hh HD.out.pn.good (by omega)
    have hgd := unpin_good HD.out.pn.good ka
    obtain ⟨er, L5, hd⟩ : ∃ er L5, unpinF L ka = (er, L5) := ⟨_, _, rfl⟩
    rw [hd] at hu hgd
    simp only [hd] at hr
    unfold UnpinPost at hu
    simp only [] at hu hgd
    clear hd
    go_wp2_with fail
    refine wp_region_plan 10 (fun w' => w'.cell? ⟨W.heap.size, 1, none⟩ = some (.int .i64 ka)) [(0, 0), (1, 0), (2, 1), (4, 0), (5, 0), (6, 1), (3, 2), (7, 2), (8, 0), (9, 0)] (by kernel_rfl) (by kernel_rfl) (fun _ _ _ _ _ h => h) c1 ?_
    refine wpPlan_free _ ?_ rfl (by rfl) (fun w' => ?_) ?_
    rotate_left
    · go_simp; with_reducible rfl
    simp only [Act.put, List.setIfInBounds_toArray, List.set_cons_zero, List.set_cons_succ]
    refine wpPlan_free _ ?_ rfl (by rfl) (fun w' => ?_) ?_
    rotate_left
    · go_simp; with_reducible rfl
    simp only [Act.put, List.setIfInBounds_toArray, List.set_cons_zero, List.set_cons_succ]
    refine wpPlan_held _ ?_ rfl (by rfl) (fun w' hS => ?_) ?_
    rotate_left
    · have e0 := hS; go_simp; with_reducible rfl
    simp only [Act.put, List.setIfInBounds_toArray, List.set_cons_zero, List.set_cons_succ]
    refine wpPlan_free _ ?_ rfl (by rfl) (fun w' => ?_) ?_
    rotate_left
    · go_simp; with_reducible rfl
    simp only [Act.put, List.setIfInBounds_toArray, List.set_cons_zero, List.set_cons_succ]
    refine wpPlan_free _ ?_ rfl (by rfl) (fun w' => ?_) ?_
    rotate_left
    · go_simp; with_reducible rfl
    simp only [Act.put, List.setIfInBounds_toArray, List.set_cons_zero, List.set_cons_succ]
    refine wpPlan_held _ ?_ rfl (by rfl) (fun w' hS => ?_) ?_
    rotate_left
    · have e0 := hS; go_simp; with_reducible rfl
    simp only [Act.put, List.setIfInBounds_toArray, List.set_cons_zero, List.set_cons_succ]
    refine wpPlan_do _ rfl (fun K hK => ?_)
    go_simp
    refine hu.mono ?_
    rintro e w5 ⟨rfl, raw5, f5⟩
    have h5 := HD.out.left raw5 hgd f5 (Gr.refl' _ _)
    have z5 := f5.cell_some c1 hnK.out
    refine hK _ _ (fun _ => z5) ?_
    clear hK K
    refine wpPlan_do _ rfl (fun K hK => ?_)
    go_simp
    refine (hr _ h5.rp).mono ?_
    rintro e w6 ⟨rfl, rp6, f6⟩
    have H6 := Lib.hid ((h5.right rp6 f6 (Gr.refl' _ _)).more (by omega : N ≤ N + 1))
    refine hK _ _ (fun _ => f6.cell_some z5 hnT.out) ?_
    clear hK K
    refine wpPlan_free _ ?_ rfl (by rfl) (fun w' => ?_) ?_
    rotate_left
    · go_simp; with_reducible rfl
    simp only [Act.put, List.setIfInBounds_toArray, List.set_cons_zero, List.set_cons_succ]
    refine wpPlan_free _ ?_ rfl (by rfl) (fun w' => ?_) ?_
    rotate_left
    · go_simp; with_reducible rfl
    simp only [Act.put, List.setIfInBounds_toArray, List.set_cons_zero, List.set_cons_succ]
    refine wpPlan_nil ?_
    go_wp2_with fail
    go_ret
    exact ⟨rfl, _, _, _, _, _, H6.out⟩

  · go_enter Try.func18, Try.ntmps18
    have HD := Lib.hid (HW.out.keep (Fr.refl NoB _).drew)
    have hu := unpin_any ka HD.out.pn.raw HD.out.pn.good (by omega) o2
    have hr := fun u (hh : RP u T q n fl L) => refUnpin_any ka hh HD.out.pn.good (by omega)
    have hgd := unpin_good HD.out.pn.good ka
    obtain ⟨er, L5, hd⟩ : ∃ er L5, unpinF L ka = (er, L5) := ⟨_, _, rfl⟩
    rw [hd] at hu hgd
    simp only [hd] at hr
    unfold UnpinPost at hu
    simp only [] at hu hgd
    clear hd
    go_wp2_with fail
    refine wp_region_plan 10 (fun w' => w'.cell? ⟨W.heap.size, 1, none⟩ = some (.int .i64 ka)) [(0, 0), (1, 0), (2, 1), (4, 0), (5, 0), (6, 1), (3, 2), (7, 2), (8, 0), (9, 0)] (by kernel_rfl) (by kernel_rfl) (fun _ _ _ _ _ h => h) c1 ?_
    refine wpPlan_free _ ?_ rfl (by rfl) (fun w' => ?_) ?_
    rotate_left
    · go_simp; with_reducible rfl
    simp only [Act.put, List.setIfInBounds_toArray, List.set_cons_zero, List.set_cons_succ]
    refine wpPlan_free _ ?_ rfl (by rfl) (fun w' => ?_) ?_
    rotate_left
    · go_simp; with_reducible rfl
    simp only [Act.put, List.setIfInBounds_toArray, List.set_cons_zero, List.set_cons_succ]
    refine wpPlan_held _ ?_ rfl (by rfl) (fun w' hS => ?_) ?_
    rotate_left
    · have e0 := hS; go_simp; with_reducible rfl
    simp only [Act.put, List.setIfInBounds_toArray, List.set_cons_zero, List.set_cons_succ]
    refine wpPlan_free _ ?_ rfl (by rfl) (fun w' => ?_) ?_
    rotate_left
    · go_simp; with_reducible rfl
    simp only [Act.put, List.setIfInBounds_toArray, List.set_cons_zero, List.set_cons_succ]
    refine wpPlan_free _ ?_ rfl (by rfl) (fun w' => ?_) ?_
    rotate_left
    · go_simp; with_reducible rfl
    simp only [Act.put, List.setIfInBounds_toArray, List.set_cons_zero, List.set_cons_succ]
    refine wpPlan_held _ ?_ rfl (by rfl) (fun w' hS => ?_) ?_
    rotate_left
    · have e0 := hS; go_simp; with_reducible rfl
    simp only [Act.put, List.setIfInBounds_toArray, List.set_cons_zero, List.set_cons_succ]
    refine wpPlan_do _ rfl (fun K hK => ?_)
    go_simp
    refine hu.mono ?_
    rintro e w5 ⟨rfl, raw5, f5⟩
    have h5 := HD.out.left raw5 hgd f5 (Gr.refl' _ _)
    have z5 := f5.cell_some c1 hnK.out
    refine hK _ _ (fun _ => z5) ?_
    clear hK K
    refine wpPlan_do _ rfl (fun K hK => ?_)
    go_simp
    refine (hr _ h5.rp).mono ?_
    rintro e w6 ⟨rfl, rp6, f6⟩
    have H6 := Lib.hid ((h5.right rp6 f6 (Gr.refl' _ _)).more (by omega : N ≤ N + 1))
    refine hK _ _ (fun _ => f6.cell_some z5 hnT.out) ?_
    clear hK K
    refine wpPlan_free _ ?_ rfl (by rfl) (fun w' => ?_) ?_
    rotate_left
    · go_simp; with_reducible rfl
    simp only [Act.put, List.setIfInBounds_toArray, List.set_cons_zero, List.set_cons_succ]
    refine wpPlan_free _ ?_ rfl (by rfl) (fun w' => ?_) ?_
    rotate_left
    · go_simp; with_reducible rfl
    simp only [Act.put, List.setIfInBounds_toArray, List.set_cons_zero, List.set_cons_succ]
    refine wpPlan_nil ?_
    go_wp2_with fail
    go_ret
    exact ⟨rfl, _, _, _, _, _, H6.out⟩

set_option maxHeartbeats 4000000 in
theorem asks_dirty {B : Nat → Prop} {W0 w W : World} {p q n : Nat} {S T : Nat → Prop} {fl ck N : Int} {L : List Frm} (kd ka kb : Int) (hk : kd = 4) (o2 : okI ka) (h : PQ B W0 w p q n S T fl ck L N fl L W) (hN : N + 1 ≤ 9223372036854775807) :
    Calls Try.prog 18 #[.pointer (some ⟨p, 0, none⟩), .pointer (some ⟨q, 0, none⟩), .agg #[.int .i64 kd, .int .i64 ka, .int .i64 kb]] W (AskPost B W0 w p q n (N + 1)) := by
  have HW := Lib.hid (h.keep ((Fr.refl NoB W).alloc (.cells #[.int .i64 kd, .int .i64 ka, .int .i64 kb] 29)))
  have HB := Lib.hid (Bk.new W 29 #[.int .i64 kd, .int .i64 ka, .int .i64 kb])
  have hnK : Hid (¬ S W.heap.size) := Lib.hid fun hs => by have := h.pn.raw.lt _ hs; omega
  have hnT : Hid (¬ T W.heap.size) := Lib.hid fun hs => by have := h.rp.lt _ hs; omega
  have c1 : (W.alloc (.cells #[.int .i64 kd, .int .i64 ka, .int .i64 kb] 29)).drew.cell? ⟨W.heap.size, 1, none⟩ = some (.int .i64 ka) := HB.out.cell 1
  have c2 : (W.alloc (.cells #[.int .i64 kd, .int .i64 ka, .int .i64 kb] 29)).drew.cell? ⟨W.heap.size, 2, none⟩ = some (.int .i64 kb) := HB.out.cell 2
  clear h
  subst hk
  go_enter Try.func18, Try.ntmps18
  have HD := Lib.hid (HW.out.keep (Fr.refl NoB _).drew)
  have hu := dirty_any ka kb HD.out.pn.raw HD.out.pn.good o2
  have hr := fun u (hh : RP u T q n fl L) => refSoil_any ka kb hh HD.out.pn.good
  have hgd := dirty_good HD.out.pn.good ka kb
  obtain ⟨er, L5, hd⟩ : ∃ er L5, dirtyF L ka kb = (er, L5) := ⟨_, _, rfl⟩
  rw [hd] at hu hgd
  simp only [hd] at hr
  unfold UnpinPost at hu
  simp only [] at hu hgd
  clear hd
  go_wp2_with fail
  refine wp_region_plan 14 (fun w' => w'.cell? ⟨W.heap.size, 1, none⟩ = some (.int .i64 ka) ∧ w'.cell? ⟨W.heap.size, 2, none⟩ = some (.int .i64 kb)) [(0, 0), (1, 0), (2, 1), (3, 0), (4, 1), (6, 0), (7, 0), (8, 1), (9, 0), (10, 1), (5, 2), (11, 2), (12, 0), (13, 0)] (by kernel_rfl) (by kernel_rfl) (fun _ _ _ _ _ h => h) ⟨c1, c2⟩ ?_
  refine wpPlan_free _ ?_ rfl (by rfl) (fun w' => ?_) ?_
  rotate_left
  · go_simp; with_reducible rfl
  simp only [Act.put, List.setIfInBounds_toArray, List.set_cons_zero, List.set_cons_succ]
  refine wpPlan_free _ ?_ rfl (by rfl) (fun w' => ?_) ?_
  rotate_left
  · go_simp; with_reducible rfl
  simp only [Act.put, List.setIfInBounds_toArray, List.set_cons_zero, List.set_cons_succ]
  refine wpPlan_held _ ?_ rfl (by rfl) (fun w' hS => ?_) ?_
  rotate_left
  · obtain ⟨e0, e1⟩ := hS; go_simp; with_reducible rfl
  simp only [Act.put, List.setIfInBounds_toArray, List.set_cons_zero, List.set_cons_succ]
  refine wpPlan_free _ ?_ rfl (by rfl) (fun w' => ?_) ?_
  rotate_left
  · go_simp; with_reducible rfl
  simp only [Act.put, List.setIfInBounds_toArray, List.set_cons_zero, List.set_cons_succ]
  refine wpPlan_held _ ?_ rfl (by rfl) (fun w' hS => ?_) ?_
  rotate_left
  · obtain ⟨e0, e1⟩ := hS; go_simp; with_reducible rfl
  simp only [Act.put, List.setIfInBounds_toArray, List.set_cons_zero, List.set_cons_succ]
  refine wpPlan_free _ ?_ rfl (by rfl) (fun w' => ?_) ?_
  rotate_left
  · go_simp; with_reducible rfl
  simp only [Act.put, List.setIfInBounds_toArray, List.set_cons_zero, List.set_cons_succ]
  refine wpPlan_free _ ?_ rfl (by rfl) (fun w' => ?_) ?_
  rotate_left
  · go_simp; with_reducible rfl
  simp only [Act.put, List.setIfInBounds_toArray, List.set_cons_zero, List.set_cons_succ]
  refine wpPlan_held _ ?_ rfl (by rfl) (fun w' hS => ?_) ?_
  rotate_left
  · obtain ⟨e0, e1⟩ := hS; go_simp; with_reducible rfl
  simp only [Act.put, List.setIfInBounds_toArray, List.set_cons_zero, List.set_cons_succ]
  refine wpPlan_free _ ?_ rfl (by rfl) (fun w' => ?_) ?_
  rotate_left
  · go_simp; with_reducible rfl
  simp only [Act.put, List.setIfInBounds_toArray, List.set_cons_zero, List.set_cons_succ]
  refine wpPlan_held _ ?_ rfl (by rfl) (fun w' hS => ?_) ?_
  rotate_left
  · obtain ⟨e0, e1⟩ := hS; go_simp; with_reducible rfl
  simp only [Act.put, List.setIfInBounds_toArray, List.set_cons_zero, List.set_cons_succ]
  refine wpPlan_do _ rfl (fun K hK => ?_)
  go_simp
  refine hu.mono ?_
  rintro e w5 ⟨rfl, raw5, f5⟩
  have h5 := HD.out.left raw5 hgd f5 (Gr.refl' _ _)
  have z5 := f5.cell_some c1 hnK.out
  have z6 := f5.cell_some c2 hnK.out
  refine hK _ _ (fun _ => ⟨z5, z6⟩) ?_
  clear hK K
  refine wpPlan_do _ rfl (fun K hK => ?_)
  go_simp
  refine (hr _ h5.rp).mono ?_
  rintro e w6 ⟨rfl, rp6, f6⟩
  have H6 := Lib.hid ((h5.right rp6 f6 (Gr.refl' _ _)).more (by omega : N ≤ N + 1))
  refine hK _ _ (fun _ => ⟨f6.cell_some z5 hnT.out, f6.cell_some z6 hnT.out⟩) ?_
  clear hK K
  refine wpPlan_free _ ?_ rfl (by rfl) (fun w' => ?_) ?_
  rotate_left
  · go_simp; with_reducible rfl
  simp only [Act.put, List.setIfInBounds_toArray, List.set_cons_zero, List.set_cons_succ]
  refine wpPlan_free _ ?_ rfl (by rfl) (fun w' => ?_) ?_
  rotate_left
  · go_simp; with_reducible rfl
  simp only [Act.put, List.setIfInBounds_toArray, List.set_cons_zero, List.set_cons_succ]
  refine wpPlan_nil ?_
  go_wp2_with fail
  go_ret
  exact ⟨rfl, _, _, _, _, _, H6.out⟩

set_option maxHeartbeats 4000000 in
theorem asks_clean {B : Nat → Prop} {W0 w W : World} {p q n : Nat} {S T : Nat → Prop} {fl ck N : Int} {L : List Frm} (kd ka kb : Int) (hk : kd = 5) (o2 : okI ka) (h : PQ B W0 w p q n S T fl ck L N fl L W) (hN : N + 1 ≤ 9223372036854775807) :
    Calls Try.prog 18 #[.pointer (some ⟨p, 0, none⟩), .pointer (some ⟨q, 0, none⟩), .agg #[.int .i64 kd, .int .i64 ka, .int .i64 kb]] W (AskPost B W0 w p q n (N + 1)) := by
  have HW := Lib.hid (h.keep ((Fr.refl NoB W).alloc (.cells #[.int .i64 kd, .int .i64 ka, .int .i64 kb] 29)))
  have HB := Lib.hid (Bk.new W 29 #[.int .i64 kd, .int .i64 ka, .int .i64 kb])
  have hnK : Hid (¬ S W.heap.size) := Lib.hid fun hs => by have := h.pn.raw.lt _ hs; omega
  have hnT : Hid (¬ T W.heap.size) := Lib.hid fun hs => by have := h.rp.lt _ hs; omega
  have c1 : (W.alloc (.cells #[.int .i64 kd, .int .i64 ka, .int .i64 kb] 29)).drew.cell? ⟨W.heap.size, 1, none⟩ = some (.int .i64 ka) := HB.out.cell 1
  have c2 : (W.alloc (.cells #[.int .i64 kd, .int .i64 ka, .int .i64 kb] 29)).drew.cell? ⟨W.heap.size, 2, none⟩ = some (.int .i64 kb) := HB.out.cell 2
  clear h
  subst hk
  go_enter Try.func18, Try.ntmps18
  have hu := clean_any ka HW.out.pn.raw HW.out.pn.good o2
  have hr := fun u (hh : RP u T q n fl L) => refClean_any ka hh HW.out.pn.good
  have hgd := clean_good HW.out.pn.good ka
  obtain ⟨nd, er, fl5, L5, hd⟩ : ∃ nd er fl5 L5, cleanF fl L ka = (nd, er, fl5, L5) := ⟨_, _, _, _, rfl⟩
  rw [hd] at hu hgd
  simp only [hd] at hr
  unfold CleanPost at hu
  simp only [] at hu hgd
  clear hd
  go_wp2_with fail
  refine hu.mono ?_
  rintro e w5 ⟨rfl, raw5, f5⟩
  have h5 := HW.out.left raw5 hgd f5 (Gr.refl' _ _)
  have z5' := (HB.out.fr f5 hnK.out).cell 1
  have z5 : w5.cell? ⟨W.heap.size, 1, none⟩ = some (.int .i64 ka) := z5'
  have H5 := Lib.hid h5
  have hr5 := hr _ h5.rp
  clear h5 raw5 f5 hu hgd z5' hr
  go_wp2_with fail
  refine hr5.mono ?_
  rintro e w6 ⟨rfl, rp6, f6⟩
  have H6 := Lib.hid ((H5.out.right rp6 f6 (Gr.refl' _ _)).more (by omega : N ≤ N + 1))
  clear rp6 f6
  go_wp2_with fail
  go_ret
  exact ⟨rfl, _, _, _, _, _, H6.out⟩

set_option maxHeartbeats 4000000 in
theorem asks_flush {B : Nat → Prop} {W0 w W : World} {p q n : Nat} {S T : Nat → Prop} {fl ck N : Int} {L : List Frm} (kd ka kb : Int) (hk : kd ≠ 0 ∧ kd ≠ 1 ∧ kd ≠ 2 ∧ kd ≠ 3 ∧ kd ≠ 4 ∧ kd ≠ 5) (o2 : okI ka) (h : PQ B W0 w p q n S T fl ck L N fl L W) (hN : N + 1 ≤ 9223372036854775807) :
    Calls Try.prog 18 #[.pointer (some ⟨p, 0, none⟩), .pointer (some ⟨q, 0, none⟩), .agg #[.int .i64 kd, .int .i64 ka, .int .i64 kb]] W (AskPost B W0 w p q n (N + 1)) := by
  have HW := Lib.hid (h.keep ((Fr.refl NoB W).alloc (.cells #[.int .i64 kd, .int .i64 ka, .int .i64 kb] 29)))
  have HB := Lib.hid (Bk.new W 29 #[.int .i64 kd, .int .i64 ka, .int .i64 kb])
  have hnK : Hid (¬ S W.heap.size) := Lib.hid fun hs => by have := h.pn.raw.lt _ hs; omega
  have hnT : Hid (¬ T W.heap.size) := Lib.hid fun hs => by have := h.rp.lt _ hs; omega
  have c1 : (W.alloc (.cells #[.int .i64 kd, .int .i64 ka, .int .i64 kb] 29)).drew.cell? ⟨W.heap.size, 1, none⟩ = some (.int .i64 ka) := HB.out.cell 1
  have c2 : (W.alloc (.cells #[.int .i64 kd, .int .i64 ka, .int .i64 kb] 29)).drew.cell? ⟨W.heap.size, 2, none⟩ = some (.int .i64 kb) := HB.out.cell 2
  clear h
  have q0 : (kd == 0) = false := by simpa using hk.1
  have q1 : (kd == 1) = false := by simpa using hk.2.1
  have q2 : (kd == 2) = false := by simpa using hk.2.2.1
  have q3 : (kd == 3) = false := by simpa using hk.2.2.2.1
  have q4 : (kd == 4) = false := by simpa using hk.2.2.2.2.1
  have q5 : (kd == 5) = false := by simpa using hk.2.2.2.2.2
  clear hk
  go_enter Try.func18, Try.ntmps18
  have HD := Lib.hid (HW.out.keep (Fr.refl NoB _).drew)
  have hu := flushed_any kb HD.out.pn.raw
  have hr := fun u (hh : RP u T q n fl L) => refFlush_any kb hh
  have hgd := flushed_good HD.out.pn.good kb
  obtain ⟨er, fl5, hd⟩ : ∃ er fl5, flushedF fl kb = (er, fl5) := ⟨_, _, rfl⟩
  rw [hd] at hu hgd
  simp only [hd] at hr
  unfold FlushedPost at hu
  simp only [] at hu hgd
  clear hd
  go_wp2_with fail
  refine wp_region_plan 10 (fun w' => w'.cell? ⟨W.heap.size, 2, none⟩ = some (.int .i64 kb)) [(0, 0), (1, 0), (2, 1), (4, 0), (5, 0), (6, 1), (3, 2), (7, 2), (8, 0), (9, 0)] (by kernel_rfl) (by kernel_rfl) (fun _ _ _ _ _ h => h) c2 ?_
  refine wpPlan_free _ ?_ rfl (by rfl) (fun w' => ?_) ?_
  rotate_left
  · go_simp; with_reducible rfl
  simp only [Act.put, List.setIfInBounds_toArray, List.set_cons_zero, List.set_cons_succ]
  refine wpPlan_free _ ?_ rfl (by rfl) (fun w' => ?_) ?_
  rotate_left
  · go_simp; with_reducible rfl
  simp only [Act.put, List.setIfInBounds_toArray, List.set_cons_zero, List.set_cons_succ]
  refine wpPlan_held _ ?_ rfl (by rfl) (fun w' hS => ?_) ?_
  rotate_left
  · have e0 := hS; go_simp; with_reducible rfl
  simp only [Act.put, List.setIfInBounds_toArray, List.set_cons_zero, List.set_cons_succ]
  refine wpPlan_free _ ?_ rfl (by rfl) (fun w' => ?_) ?_
  rotate_left
  · go_simp; with_reducible rfl
  simp only [Act.put, List.setIfInBounds_toArray, List.set_cons_zero, List.set_cons_succ]
  refine wpPlan_free _ ?_ rfl (by rfl) (fun w' => ?_) ?_
  rotate_left
  · go_simp; with_reducible rfl
  simp only [Act.put, List.setIfInBounds_toArray, List.set_cons_zero, List.set_cons_succ]
  refine wpPlan_held _ ?_ rfl (by rfl) (fun w' hS => ?_) ?_
  rotate_left
  · have e0 := hS; go_simp; with_reducible rfl
  simp only [Act.put, List.setIfInBounds_toArray, List.set_cons_zero, List.set_cons_succ]
  refine wpPlan_do _ rfl (fun K hK => ?_)
  go_simp
  refine hu.mono ?_
  rintro e w5 ⟨rfl, raw5, f5⟩
  have h5 := HD.out.left raw5 hgd f5 (Gr.refl' _ _)
  have z5 := f5.cell_some c2 hnK.out
  refine hK _ _ (fun _ => z5) ?_
  clear hK K
  refine wpPlan_do _ rfl (fun K hK => ?_)
  go_simp
  refine (hr _ h5.rp).mono ?_
  rintro e w6 ⟨rfl, rp6, f6⟩
  have H6 := Lib.hid ((h5.right rp6 f6 (Gr.refl' _ _)).more (by omega : N ≤ N + 1))
  refine hK _ _ (fun _ => f6.cell_some z5 hnT.out) ?_
  clear hK K
  refine wpPlan_free _ ?_ rfl (by rfl) (fun w' => ?_) ?_
  rotate_left
  · go_simp; with_reducible rfl
  simp only [Act.put, List.setIfInBounds_toArray, List.set_cons_zero, List.set_cons_succ]
  refine wpPlan_free _ ?_ rfl (by rfl) (fun w' => ?_) ?_
  rotate_left
  · go_simp; with_reducible rfl
  simp only [Act.put, List.setIfInBounds_toArray, List.set_cons_zero, List.set_cons_succ]
  refine wpPlan_nil ?_
  go_wp2_with fail
  go_ret
  exact ⟨rfl, _, _, _, _, _, H6.out⟩

theorem asks_any {B : Nat → Prop} {W0 w W : World} {p q n : Nat} {S T : Nat → Prop} {fl ck N : Int} {L : List Frm} (kd ka kb : Int) (o2 : okI ka) (h : PQ B W0 w p q n S T fl ck L N fl L W) (hN : N + 1 ≤ 9223372036854775807) :
    Calls Try.prog 18 #[.pointer (some ⟨p, 0, none⟩), .pointer (some ⟨q, 0, none⟩), .agg #[.int .i64 kd, .int .i64 ka, .int .i64 kb]] W (AskPost B W0 w p q n (N + 1)) := by
  by_cases h1 : kd = 0 ∨ kd = 1
  · exact asks_get kd ka kb h1 h hN
  by_cases h2 : kd = 2 ∨ kd = 3
  · exact asks_unpin kd ka kb h2 o2 h hN
  by_cases h4 : kd = 4
  · exact asks_dirty kd ka kb h4 o2 h hN
  by_cases h5 : kd = 5
  · exact asks_clean kd ka kb h5 o2 h hN
  · exact asks_flush kd ka kb (by omega) o2 h hN

end Go.Proofs.Ytmbabgaanpjmpaa
