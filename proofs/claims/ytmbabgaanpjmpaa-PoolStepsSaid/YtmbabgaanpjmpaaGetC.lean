/- Get: the walk. -/
import Derived.Test.YtmbabgaanpjmpaaGetB
namespace Go.Proofs.Ytmbabgaanpjmpaa
open Go.RowKit

def GetPost (S : Nat → Prop) (p n : Nat) (r : Nat → Got × Int × Int × Int × List Frm) (w : World) (e : Ending) (w' : World) : Prop :=
  ∃ blk S', e = .returned (.tuple #[gotV (r blk).1, .int .i64 (r blk).2.1]) ∧ PoolRaw w' S' p n (r blk).2.2.1 (r blk).2.2.2.1 (r blk).2.2.2.2 ∧ Fr S w w' ∧ Gr S S' w

/-- The three blocks of the call's own. -/
structure Own (w : World) (p b0 b1 b2 : Nat) (o : Got) (W : World) : Prop where
  k0 : Bk W b0 23 #[.pointer (some ⟨p, 0, none⟩)]
  k1 : Bk W b1 34 #[.bool false, .bool false, .int .i64 0, .int .i64 0]
  k2 : Bk W b2 34 #[.bool o.hit, .bool o.write, .int .i64 o.out, .int .i64 o.need]
  n0 : w.heap.size ≤ b0
  n1 : w.heap.size ≤ b1
  n2 : w.heap.size ≤ b2
  d01 : b0 ≠ b1
  d02 : b0 ≠ b2
  d12 : b1 ≠ b2
theorem Own.fr {w W W' : World} {T : Nat → Prop} {p b0 b1 b2 : Nat} {o : Got} (h : Own w p b0 b1 b2 o W) (hf : Fr T W W') (hn : ∀ k, T k → k < w.heap.size ∨ W.heap.size ≤ k) : Own w p b0 b1 b2 o W' := by
  have x0 := h.k0.lt
  have x1 := h.k1.lt
  have x2 := h.k2.lt
  have := h.n0
  have := h.n1
  have := h.n2
  exact ⟨h.k0.fr hf (fun e => by have := hn _ e; omega), h.k1.fr hf (fun e => by have := hn _ e; omega), h.k2.fr hf (fun e => by have := hn _ e; omega), h.n0, h.n1, h.n2, h.d01, h.d02, h.d12⟩
theorem own_made (w : World) (p : Nat) :
    Own w p w.heap.size (w.heap.size + 1) (w.heap.size + 1 + 1) got0 (((w.alloc (.cells #[.pointer (some ⟨p, 0, none⟩)] 23)).alloc (.cells #[.bool false, .bool false, .int .i64 0, .int .i64 0] 34)).alloc (.cells #[.bool false, .bool false, .int .i64 0, .int .i64 0] 34)) := by
  have e1 : (w.alloc (.cells #[.pointer (some ⟨p, 0, none⟩)] 23)).heap.size = w.heap.size + 1 := by simp
  have e2 : ((w.alloc (.cells #[.pointer (some ⟨p, 0, none⟩)] 23)).alloc (.cells #[.bool false, .bool false, .int .i64 0, .int .i64 0] 34)).heap.size = w.heap.size + 1 + 1 := by simp
  have b0 := Bk.new w 23 #[.pointer (some ⟨p, 0, none⟩)]
  have b1 := Bk.new (w.alloc (.cells #[.pointer (some ⟨p, 0, none⟩)] 23)) 34 #[.bool false, .bool false, .int .i64 0, .int .i64 0]
  have b2 := Bk.new ((w.alloc (.cells #[.pointer (some ⟨p, 0, none⟩)] 23)).alloc (.cells #[.bool false, .bool false, .int .i64 0, .int .i64 0] 34)) 34 #[.bool false, .bool false, .int .i64 0, .int .i64 0]
  rw [e1] at b1
  rw [e2] at b2
  exact ⟨(b0.alloc _).alloc _, b1.alloc _, b2, by omega, by omega, by omega, by omega, by omega, by omega⟩

theorem Own.hit {w W : World} {p b0 b1 b2 : Nat} {o : Got} (h : Own w p b0 b1 b2 o W) : Own w p b0 b1 b2 { o with hit := true } (W.setCell ⟨b2, 0, none⟩ (.bool true)) ∧ Fr (fun j => j = b2) W (W.setCell ⟨b2, 0, none⟩ (.bool true)) := by
  have f2 : Fr (fun j => j = b2) W (W.setCell ⟨b2, 0, none⟩ (.bool true)) := Fr.setCell (S := fun j => j = b2) (p := ⟨b2, 0, none⟩) (Fr.refl _ W) (.inl rfl) _
  exact ⟨⟨h.k0.fr f2 h.d02, h.k1.fr f2 h.d12, h.k2.set 0 _, h.n0, h.n1, h.n2, h.d01, h.d02, h.d12⟩, f2⟩

/-- From the counting on. -/
theorem get_end {w W : World} {S S' : Nat → Prop} {p n b0 b1 b2 : Nat} {g : Got} {fl ck : Int} {L : List Frm} (HO : Own w p b0 b1 b2 g W) (h : PoolRaw W S' p n fl ck L) (hn : (L.map (·.page)).Nodup) {f : Frm} (hf : f ∈ L) (hW : Fr S w W) (hS : Gr S S' w) (hb1 : ¬ S' b1) (v0 v1 v2 v3 : Value) :
    PoolRaw (((((((W.setCell ⟨p, 2, none⟩ (.int .i64 (ck + 1))).setCell ⟨f.blk, 3, none⟩ (.int .i64 (ck + 1))).setCell ⟨f.blk, 0, none⟩ (.int .i64 (f.pins + 1))).setCell ⟨b1, 0, none⟩ v0).setCell ⟨b1, 1, none⟩ v1).setCell ⟨b1, 2, none⟩ v2).setCell ⟨b1, 3, none⟩ v3) S' p n fl (ck + 1) (putF ck L f) ∧
      Fr S w (((((((W.setCell ⟨p, 2, none⟩ (.int .i64 (ck + 1))).setCell ⟨f.blk, 3, none⟩ (.int .i64 (ck + 1))).setCell ⟨f.blk, 0, none⟩ (.int .i64 (f.pins + 1))).setCell ⟨b1, 0, none⟩ v0).setCell ⟨b1, 1, none⟩ v1).setCell ⟨b1, 2, none⟩ v2).setCell ⟨b1, 3, none⟩ v3) := by
  obtain ⟨t1, t2⟩ := h.touch hn hf
  have nS : ∀ k, S' k → ¬ k = b1 := fun k hk e => hb1 (e ▸ hk)
  have n1 := HO.n1
  have fB : ∀ (V : World), Fr (fun j => j = b1) V ((((V.setCell ⟨b1, 0, none⟩ v0).setCell ⟨b1, 1, none⟩ v1).setCell ⟨b1, 2, none⟩ v2).setCell ⟨b1, 3, none⟩ v3) := fun V =>
    ((((Fr.refl (fun j => j = b1) V).setCell (p := ⟨b1, 0, none⟩) (.inl rfl) v0).setCell (p := ⟨b1, 1, none⟩) (.inl rfl) v1).setCell (p := ⟨b1, 2, none⟩) (.inl rfl) v2).setCell (p := ⟨b1, 3, none⟩) (.inl rfl) v3
  refine ⟨t1.fr (fB _) nS, (hW.join t2 (fun j hj hs => ?_)).join (fB _) (fun j hj e => by omega)⟩
  rcases hS j hs with h' | h'
  · exact h'
  · omega

set_option maxHeartbeats 2000000 in
theorem get_hit {w : World} {S : Nat → Prop} {p n : Nat} {fl ck N : Int} {L : List Frm} (h : PoolRaw w S p n fl ck L) (hg : PGood n fl ck N L) (hN : N + 1 ≤ 9223372036854775807) {f : Frm} (hf : f ∈ L) :
    Calls Try.prog 11 #[.pointer (some ⟨p, 0, none⟩), .int .i64 f.page] w (GetPost S p n (fun _ => (⟨true, false, 0, 0⟩, 0, fl, ck + 1, putF ck L f)) w) := by
  have hpg := hg.pg f hf
  have d1 : decide (f.page < 1) = false := decide_eq_false (by omega)
  have d2 : decide (4096 < f.page) = false := decide_eq_false (by omega)
  have hW : Fr NoB w (((w.alloc (.cells #[.pointer (some ⟨p, 0, none⟩)] 23)).alloc (.cells #[.bool false, .bool false, .int .i64 0, .int .i64 0] 34)).alloc (.cells #[.bool false, .bool false, .int .i64 0, .int .i64 0] 34)) := (((Fr.refl NoB w).alloc _).alloc _).alloc _
  have ho := own_made w p
  have hP := h.fr hW (fun _ _ h => h)
  have hat := at_some hP hg hf
  have HO := Lib.hid ho
  have HP := Lib.hid hP
  have HW := Lib.hid hW
  have HG := Lib.hid hg
  obtain ⟨bm, hbp, _, hbS⟩ := hP.ex
  have HBP := Lib.hid hbp
  clear hbp
  have HF := Lib.hid hf
  have hlt := h.lt
  have hpp := h.own
  have hfb := (h.frs f hf).2
  clear ho hP hW hpg hg hf h
  go_enter Try.func11, Try.ntmps11
  go_wp2_with fail
  refine hat.mono ?_
  rintro e w' ⟨rfl, rfl⟩
  generalize ((w.alloc (.cells #[.pointer (some ⟨p, 0, none⟩)] 23)).alloc (.cells #[.bool false, .bool false, .int .i64 0, .int .i64 0] 34)).alloc (.cells #[.bool false, .bool false, .int .i64 0, .int .i64 0] 34) = W at *
  have kp := HBP.out
  have kf := (HP.out.frs _ HF.out).1
  have q0 : W.cell? ⟨w.heap.size, 0, none⟩ = some (.pointer (some ⟨p, 0, none⟩)) := HO.out.k0.cell 0
  have o0 := HO.out.k2.cell 0
  have o1 := HO.out.k2.cell 1
  have o2 := HO.out.k2.cell 2
  have o3 := HO.out.k2.cell 3
  have of0 := HO.out.k2.frozen 0
  have r0 := HO.out.k1.cell 0
  have r1 := HO.out.k1.cell 1
  have r2 := HO.out.k1.cell 2
  have r3 := HO.out.k1.cell 3
  have rf0 := HO.out.k1.frozen 0
  have rf1 := HO.out.k1.frozen 1
  have rf2 := HO.out.k1.frozen 2
  have rf3 := HO.out.k1.frozen 3
  have pc := kp.cell 2
  have pf := kp.frozen 2
  have fc0 := kf.cell 0
  have fc3 := kf.cell 3
  have ff0 := kf.frozen 0
  have ff3 := kf.frozen 3
  have e01 := kp.types kf (by decide)
  have e02 := kp.types HO.out.k0 (by decide)
  have e03 := kp.types HO.out.k1 (by decide)
  have e04 := kp.types HO.out.k2 (by decide)
  have e12 := kf.types HO.out.k0 (by decide)
  have e13 := kf.types HO.out.k1 (by decide)
  have e14 := kf.types HO.out.k2 (by decide)
  have e23 := HO.out.d01
  have e24 := HO.out.d02
  have e34 := HO.out.d12
  have e10 := e01.symm
  have e20 := e02.symm
  have e30 := e03.symm
  have e40 := e04.symm
  have e21 := e12.symm
  have e31 := e13.symm
  have e41 := e14.symm
  have e32 := e23.symm
  have e42 := e24.symm
  have e43 := e34.symm
  clear kp kf
  simp [fcells] at o0 o1 o2 o3 r0 r1 r2 r3 pc fc0 fc3
  have hw1 : IntKind.i64.wrap (ck + 1) = ck + 1 := by rw [IntKind.wrap_i64]; have := HG.out.c0; have := HG.out.c1; omega
  have hw2 : IntKind.i64.wrap (f.pins + 1) = f.pins + 1 := by rw [IntKind.wrap_i64]; have := HG.out.pin f HF.out; omega
  obtain ⟨z1, z2⟩ := HO.out.hit
  have hend := get_end z1 (HP.out.fr z2 (fun k hk e => by have := hlt k hk; have := HO.out.n2; omega)) HG.out.nd HF.out ((HW.out.mono (fun _ _ h => h.elim)).join z2 (fun j hj e => by have := HO.out.n2; omega)) (S := S) (fun _ hk => .inl hk) (fun hb => by have := hlt _ hb; have := HO.out.n1; omega) (.bool true) (.bool got0.write) (.int .i64 got0.out) (.int .i64 got0.need)
  have HE := Lib.hid hend
  clear hend z1 z2
  go_wp2_with fail
  refine bodyPost_ret (v := .tuple #[gotV ⟨true, false, 0, 0⟩, .int .i64 0]) ?_ rfl ⟨0, S, rfl, HE.out.1, HE.out.2, fun k hk => .inl hk⟩
  simp [results, Try.results11, go_sem, gotV, got0, *]

theorem Own.lens {w W : World} {p b0 b1 b2 : Nat} {o : Got} (h : Own w p b0 b1 b2 o W) : b0 < W.heap.size ∧ b1 < W.heap.size ∧ b2 < W.heap.size := ⟨h.k0.lt, h.k1.lt, h.k2.lt⟩
def Two (S : Nat → Prop) (fb : Nat) : Nat → Prop := fun k => S k ∨ k = fb

/-- A new frame is laid: what the walk wants of it. -/
theorem miss_new {w W W2 w2 : World} {S : Nat → Prop} {p n b0 b1 b2 : Nat} {g : Got} {fl ck : Int} {L : List Frm} {bm fb : Nat} {x : Int} (HO : Own w p b0 b1 b2 g W) (h : PoolRaw W S p n fl ck L) (hno : ∀ f ∈ L, f.page ≠ x) (hnd : (L.map (·.page)).Nodup)
    (hb : Bk W p 53 #[.int .i64 n, .int .i64 fl, .int .i64 ck, .map (some bm)]) (hS : S bm) (hlt : ∀ k, S k → k < w.heap.size) (hW0 : Fr S w W) (hW : Fr NoB W W2) (hfb : Bk W2 fb 57 (fcells (newFrm x fb))) (hnew : W.heap.size ≤ fb)
    (hm : MP w2 bm ((x, some fb) :: keysP L)) (hf : Fr (fun j => j = bm) W2 w2) :
    Own w p b0 b1 b2 g w2 ∧ PoolRaw w2 (Two S fb) p n fl ck (L ++ [newFrm x fb]) ∧ Fr S w w2 ∧ Gr S (Two S fb) w ∧ ¬ Two S fb b1 ∧ ((L ++ [newFrm x fb]).map (·.page)).Nodup ∧ newFrm x fb ∈ L ++ [newFrm x fb] ∧ putF ck (L ++ [newFrm x fb]) (newFrm x fb) = putF ck L (newFrm x fb) := by
  obtain ⟨q1, q2⟩ := h.newFrame hb hS hW hfb hnew hm hf
  obtain ⟨l0, l1, l2⟩ := HO.lens
  have z0 := hW0.size
  have z1 := hW.size
  have n1 := HO.n1
  have hbl := hlt _ hS
  refine ⟨(HO.fr hW (fun k hk => hk.elim)).fr hf (fun k e => .inl (by omega)), q1, hW0.trans q2, fun k hk => ?_, fun hk => ?_, ?_, List.mem_append_right _ (List.mem_singleton.2 rfl), ?_⟩
  · rcases hk with hk | hk
    · exact .inl hk
    · exact .inr (by omega)
  · rcases hk with hk | hk
    · have := hlt _ hk; omega
    · omega
  · rw [List.map_append, List.nodup_append]
    refine ⟨hnd, by simp, fun a ha b hb' => ?_⟩
    obtain ⟨g, hg, rfl⟩ := List.mem_map.1 ha
    simp only [List.map_cons, List.map_nil, List.mem_singleton] at hb'
    rw [hb']
    exact hno g hg
  · unfold putF
    congr 1
    unfold without
    rw [List.filter_append]
    simp [newFrm]

theorem get_end2 {w W : World} {S S' : Nat → Prop} {p n b0 b1 b2 fb : Nat} {g : Got} {fl ck pv : Int} {L : List Frm} (HO : Own w p b0 b1 b2 g W) (h : PoolRaw W S' p n fl ck L) (hn : (L.map (·.page)).Nodup) {f : Frm} (hf : f ∈ L) (hW : Fr S w W) (hS : Gr S S' w) (hb1 : ¬ S' b1) (hfb : fb = f.blk) (hpv : pv = f.pins + 1) (v0 v1 v2 v3 : Value) :
    PoolRaw (((((((W.setCell ⟨p, 2, none⟩ (.int .i64 (ck + 1))).setCell ⟨fb, 3, none⟩ (.int .i64 (ck + 1))).setCell ⟨fb, 0, none⟩ (.int .i64 pv)).setCell ⟨b1, 0, none⟩ v0).setCell ⟨b1, 1, none⟩ v1).setCell ⟨b1, 2, none⟩ v2).setCell ⟨b1, 3, none⟩ v3) S' p n fl (ck + 1) (putF ck L f) ∧
      Fr S w (((((((W.setCell ⟨p, 2, none⟩ (.int .i64 (ck + 1))).setCell ⟨fb, 3, none⟩ (.int .i64 (ck + 1))).setCell ⟨fb, 0, none⟩ (.int .i64 pv)).setCell ⟨b1, 0, none⟩ v0).setCell ⟨b1, 1, none⟩ v1).setCell ⟨b1, 2, none⟩ v2).setCell ⟨b1, 3, none⟩ v3) := by
  subst hfb hpv
  exact get_end HO h hn hf hW hS hb1 v0 v1 v2 v3

set_option maxHeartbeats 4000000 in
theorem get_miss {w : World} {S : Nat → Prop} {p n : Nat} {fl ck N : Int} {L : List Frm} {x : Int} (h : PoolRaw w S p n fl ck L) (hg : PGood n fl ck N L) (hN : N + 1 ≤ 9223372036854775807) (h1 : 1 ≤ x) (h2 : x ≤ 4096) (hno : ∀ f ∈ L, f.page ≠ x) (hl : L.length < n) :
    Calls Try.prog 11 #[.pointer (some ⟨p, 0, none⟩), .int .i64 x] w (GetPost S p n (fun blk => (got0, 0, fl, ck + 1, putF ck L (newFrm x blk))) w) := by
  have d1 : decide (x < 1) = false := decide_eq_false (by omega)
  have d2 : decide (4096 < x) = false := decide_eq_false (by omega)
  have hW : Fr NoB w (((w.alloc (.cells #[.pointer (some ⟨p, 0, none⟩)] 23)).alloc (.cells #[.bool false, .bool false, .int .i64 0, .int .i64 0] 34)).alloc (.cells #[.bool false, .bool false, .int .i64 0, .int .i64 0] 34)) := (((Fr.refl NoB w).alloc _).alloc _).alloc _
  have ho := own_made w p
  have hP := h.fr hW (fun _ _ h => h)
  have hat := at_none hP (x := x) (by unfold okI; omega) hno
  have HO := Lib.hid ho
  have HP := Lib.hid hP
  have HW := Lib.hid hW
  have HG := Lib.hid hg
  have HNO := Lib.hid hno
  obtain ⟨bm, hbp, hmp, hbS⟩ := hP.ex
  have HBP := Lib.hid hbp
  have HMP := Lib.hid hmp
  have hlt := h.lt
  have hlen : ((L.length : Int) == (n : Int)) = false := by rw [beq_eq_false_iff_ne]; omega
  have hkl : (keysP L).length = L.length := by simp [keysP]
  have HKL := Lib.hid hkl
  have hLl : L.length ≤ 64 := by have := hg.n2; omega
  clear ho hP hW hg hno h hbp hmp hkl
  go_enter Try.func11, Try.ntmps11
  go_wp2_with fail
  refine hat.mono ?_
  rintro e w' ⟨rfl, rfl⟩
  generalize ((w.alloc (.cells #[.pointer (some ⟨p, 0, none⟩)] 23)).alloc (.cells #[.bool false, .bool false, .int .i64 0, .int .i64 0] 34)).alloc (.cells #[.bool false, .bool false, .int .i64 0, .int .i64 0] 34) = W at *
  have q0 : W.cell? ⟨w.heap.size, 0, none⟩ = some (.pointer (some ⟨p, 0, none⟩)) := HO.out.k0.cell 0
  have pc0 : W.cell? ⟨p, 0, none⟩ = some (.int .i64 n) := HBP.out.cell 0
  have pc3 : W.cell? ⟨p, 3, none⟩ = some (.map (some bm)) := HBP.out.cell 3
  have hlm : ∀ (k : Nat) (ty : TypeId), (Builtin.len_ #[51] ty #[.map (some bm)]).run Try.prog (W.drewN k) = .ok (.int .i64 L.length) (W.drewN k) := fun k ty => by
    have := (HMP.out.fr ((Fr.refl NoB W).drewN k) (fun h => h)).run_len Try.underlying51 ty
    rwa [HKL.out] at this
  go_wp2_with fail
  go_quiet (fail)
  have hw1 : IntKind.i64.wrap (ck + 1) = ck + 1 := by rw [IntKind.wrap_i64]; have := HG.out.c0; have := HG.out.c1; omega
  have qa0 : ∀ (k : Nat) (o : Obj), ((W.drewN k).alloc o).cell? ⟨w.heap.size, 0, none⟩ = some (.pointer (some ⟨p, 0, none⟩)) := fun k o => (HO.out.k0.fr (((Fr.refl NoB W).drewN k).alloc o) (fun h => h)).cell 0
  have pa3 : ∀ (k : Nat) (o : Obj), ((W.drewN k).alloc o).cell? ⟨p, 3, none⟩ = some (.map (some bm)) := fun k o => (HBP.out.fr (((Fr.refl NoB W).drewN k).alloc o) (fun h => h)).cell 3
  have hnk : Hid (x ∉ (keysP L).map (·.1)) := Lib.hid (by rw [keysP_fst]; intro hx; obtain ⟨f, hf, e⟩ := List.mem_map.1 hx; exact HNO.out f hf e)
  have hml : Hid ((keysP L).length < maxLen) := Lib.hid (by rw [HKL.out]; simp only [maxLen]; omega)
  go_wp2_with (at_mapUpdate; refine wpList_store_is elemP rfl _ _ _ 51 rfl 58 Try.underlying3 Try.underlying51 rfl (HMP.out.fr (((Fr.refl NoB W).drewN _).alloc _) (fun h => h)) x (some W.heap.size) rfl rfl (by unfold okI; omega) trivial hnk.out hml.out ?_; intro w2 hm2 hf2; obtain ⟨HO2, HP2, HF2, HG2, hb2, hnd2, hmem2, hput2⟩ := miss_new (HO.out.fr ((Fr.refl NoB W).drewN _) (fun k hk => hk.elim)) (HP.out.fr ((Fr.refl NoB W).drewN _) (fun _ _ h => h)) HNO.out HG.out.nd (HBP.out.fr ((Fr.refl NoB W).drewN _) (fun h => h)) hbS hlt ((HW.out.mono (fun _ _ h => h.elim)).drewN _) ((Fr.refl NoB _).alloc _) (fb := W.heap.size) (x := x) (Bk.new _ 57 _) (Nat.le_refl _) hm2 hf2; have HEND := Lib.hid (get_end2 HO2 HP2 hnd2 hmem2 HF2 HG2 hb2 (fb := W.heap.size) (pv := 1) rfl rfl (.bool got0.hit) (.bool got0.write) (.int .i64 got0.out) (.int .i64 got0.need)); rw [hput2] at HEND; obtain ⟨bm2, kp, _, _⟩ := HP2.ex; have kf := (HP2.frs _ hmem2).1; have q0 : w2.cell? ⟨w.heap.size, 0, none⟩ = some (.pointer (some ⟨p, 0, none⟩)) := HO2.k0.cell 0; have o0 := HO2.k2.cell 0; have o1 := HO2.k2.cell 1; have o2 := HO2.k2.cell 2; have o3 := HO2.k2.cell 3; have r0 := HO2.k1.cell 0; have r1 := HO2.k1.cell 1; have r2 := HO2.k1.cell 2; have r3 := HO2.k1.cell 3; have rf0 := HO2.k1.frozen 0; have rf1 := HO2.k1.frozen 1; have rf2 := HO2.k1.frozen 2; have rf3 := HO2.k1.frozen 3; have pc := kp.cell 2; have pf := kp.frozen 2; have fc0 := kf.cell 0; have fc3 := kf.cell 3; have ff0 := kf.frozen 0; have ff3 := kf.frozen 3; have e01 := kp.types kf (by decide); have e02 := kp.types HO2.k0 (by decide); have e03 := kp.types HO2.k1 (by decide); have e04 := kp.types HO2.k2 (by decide); have e12 := kf.types HO2.k0 (by decide); have e13 := kf.types HO2.k1 (by decide); have e14 := kf.types HO2.k2 (by decide); have e23 := HO2.d01; have e24 := HO2.d02; have e34 := HO2.d12; have e10 := e01.symm; have e20 := e02.symm; have e30 := e03.symm; have e40 := e04.symm; have e21 := e12.symm; have e31 := e13.symm; have e41 := e14.symm; have e32 := e23.symm; have e42 := e24.symm; have e43 := e34.symm; replace HO2 := Lib.hid HO2; replace HP2 := Lib.hid HP2; replace HF2 := Lib.hid HF2; replace HG2 := Lib.hid HG2; replace hput2 := Lib.hid hput2; clear kp kf hm2 hf2 hnd2 hmem2; simp [fcells, newFrm] at o0 o1 o2 o3 r0 r1 r2 r3 pc fc0 fc3 ff0 ff3 e01 e12 e13 e14 e10 e21 e31 e41)
  refine bodyPost_ret (v := .tuple #[gotV got0, .int .i64 0]) ?_ rfl ⟨W.heap.size, Two S W.heap.size, rfl, HEND.out.1, HEND.out.2, HG2.out⟩
  simp [results, Try.results11, go_sem, gotV, got0, *]
end Go.Proofs.Ytmbabgaanpjmpaa
