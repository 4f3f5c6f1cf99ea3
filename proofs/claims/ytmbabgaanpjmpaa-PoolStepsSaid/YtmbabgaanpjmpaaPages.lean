/- Contract of Pages. -/
import Derived.Test.YtmbabgaanpjmpaaOps
import Derived.Laws.OwnMore
namespace Go.Proofs.Ytmbabgaanpjmpaa
open Go.RowKit

theorem info3 : (Try.prog.info? 3).map (fun i => (i.zero, i.size, i.bytes)) = some (some (.int .i64 0), 1, 8) := by kernel_rfl
theorem rd_one {w : World} {g : Nat} {T : TypeId} {u : Value} (h : Bk w g T #[u]) : Rd w (fun k => k = g) 1 (some ⟨g, 0, none⟩) 1 1 [u] :=
  ⟨rfl, Nat.le_refl _, by simp [maxLen], (fun h => by cases h), fun a ha _ => by cases ha; exact ⟨rfl, h.lt, At.of_bk (o := 0) (n := 1) h rfl⟩⟩
theorem compare_any (x y : Int) (w : World) : Calls Try.prog 25 #[.int .i64 x, .int .i64 y] w fun e w' => e = .returned (.int .i64 (Lib.compareInt x y)) ∧ w = w' := by
  have h := AnyG.cmp_Compare_int Try.cmpL x y w
  change Calls Try.prog 25 _ _ _ at h
  exact h.mono fun e w' ⟨a, b⟩ => ⟨a, b.symm⟩

def usedOf (L : List Frm) (x : Int) : Int := match frameOf L x with
  | none => 0
  | some f => f.used
theorem usedOf_mem {L : List Frm} (hn : (L.map (·.page)).Nodup) {f : Frm} (hf : f ∈ L) : usedOf L f.page = f.used := by
  unfold usedOf
  rw [frameOf_mem hn hf]
def cmpU (L : List Frm) (x y : Int) : Int := Lib.compareInt (usedOf L x) (usedOf L y)
def ltU (L : List Frm) (x y : Int) : Bool := decide (usedOf L x < usedOf L y)
theorem cmp_lt (L : List Frm) (x y : Int) : decide (cmpU L x y < 0) = ltU L x y := by
  unfold cmpU ltU Lib.compareInt
  by_cases h1 : usedOf L x < usedOf L y
  · simp [h1]
  · by_cases h2 : usedOf L y < usedOf L x <;> simp [h1, h2]

set_option maxHeartbeats 2000000 in
theorem cmp_any {bx : Nat} {W : World} {S : Nat → Prop} {p n : Nat} {fl ck N : Int} {L : List Frm} (h : PoolRaw W S p n fl ck L) (hg : PGood n fl ck N L) {f g : Frm} (hf : f ∈ L) (hgL : g ∈ L) (h0 : W.cell? ⟨bx, 0, none⟩ = some (.pointer (some ⟨p, 0, none⟩))) :
    Calls Try.prog 24 #[.int .i64 f.page, .int .i64 g.page, .pointer (some ⟨bx, 0, none⟩)] W fun e w' => e = .returned (.int .i64 (Lib.compareInt f.used g.used)) ∧ ∃ k os, w' = Sort.grow (W.drewN k) os := by
  have c3 := (h.cells hf 3).1
  have d3 := (h.cells hgL 3).1
  obtain ⟨⟨bm, hb, hm, _⟩, _⟩ := h
  have p1 := hg.pg f hf
  have p2 := hg.pg g hgL
  have h1 : W.cell? ⟨p, 3, none⟩ = some (.map (some bm)) := hb.cell 3
  have hS : ∀ W', Fr NoB W W' → W'.cell? ⟨bx, 0, none⟩ = some (.pointer (some ⟨p, 0, none⟩)) ∧ W'.cell? ⟨p, 3, none⟩ = some (.map (some bm)) ∧ (Instr.lookup 51 (.map (some bm)) (.int .i64 f.page) false).run Try.prog W' = .ok (.pointer (some ⟨f.blk, 0, none⟩)) W' ∧ (Instr.lookup 51 (.map (some bm)) (.int .i64 g.page) false).run Try.prog W' = .ok (.pointer (some ⟨g.blk, 0, none⟩)) W' ∧ W'.cell? ⟨f.blk, 3, none⟩ = some (.int .i64 f.used) ∧ W'.cell? ⟨g.blk, 3, none⟩ = some (.int .i64 g.used) := fun W' hfr => by
    have l1 := (hm.fr hfr (fun h => h)).run_look elemP Try.underlying3 Try.underlying51 none trivial (zero58 _) (x := f.page) (by unfold okI; omega)
    have l2 := (hm.fr hfr (fun h => h)).run_look elemP Try.underlying3 Try.underlying51 none trivial (zero58 _) (x := g.page) (by unfold okI; omega)
    rw [val_page hg.nd hf] at l1
    rw [val_page hg.nd hgL] at l2
    exact ⟨hfr.cell_some h0 (fun h => h), hfr.cell_some h1 (fun h => h), l1, l2, hfr.cell_some c3 (fun h => h), hfr.cell_some d3 (fun h => h)⟩
  have k1 := fun u => compare_any f.used g.used u
  have HS := Lib.hid hS
  clear hb hm hg hf hgL c3 d3 h0 h1 p1 p2 hS
  generalize f.page = x at *
  generalize g.page = y at *
  generalize f.blk = fb at *
  generalize g.blk = gb at *
  generalize f.used = fu at *
  generalize g.used = gu at *
  generalize Lib.compareInt fu gu = a at *
  go_enter Try.func24, Try.ntmps24
  go_wp2_with fail
  refine wp_region_plan 20 (fun W' => W'.cell? ⟨bx, 0, none⟩ = some (.pointer (some ⟨p, 0, none⟩)) ∧ W'.cell? ⟨p, 3, none⟩ = some (.map (some bm)) ∧ (Instr.lookup 51 (.map (some bm)) (.int .i64 x) false).run Try.prog W' = .ok (.pointer (some ⟨fb, 0, none⟩)) W' ∧ (Instr.lookup 51 (.map (some bm)) (.int .i64 y) false).run Try.prog W' = .ok (.pointer (some ⟨gb, 0, none⟩)) W' ∧ W'.cell? ⟨fb, 3, none⟩ = some (.int .i64 fu) ∧ W'.cell? ⟨gb, 3, none⟩ = some (.int .i64 gu))
    [(0, 1), (1, 0), (2, 0), (3, 1), (4, 0), (5, 1), (6, 0), (7, 0), (8, 1), (9, 1), (10, 0), (11, 0), (12, 1), (13, 0), (14, 1), (15, 0), (16, 0), (17, 1), (18, 2), (19, 0)] (by kernel_rfl) (by kernel_rfl) (fun _ _ _ _ _ h => h) (HS.out _ (Fr.refl NoB _).drew) ?_
  refine wpPlan_held _ ?_ rfl (by rfl) (fun w' hS => ?_) ?_
  rotate_left
  · obtain ⟨e0, e1, e2, e3, e4, e5⟩ := hS; go_simp; with_reducible rfl
  simp only [Act.put, List.setIfInBounds_toArray, List.set_cons_zero, List.set_cons_succ]
  refine wpPlan_free _ ?_ rfl (by rfl) (fun w' => ?_) ?_
  rotate_left
  · go_simp; with_reducible rfl
  simp only [Act.put, List.setIfInBounds_toArray, List.set_cons_zero, List.set_cons_succ]
  refine wpPlan_free _ ?_ rfl (by rfl) (fun w' => ?_) ?_
  rotate_left
  · go_simp; with_reducible rfl
  simp only [Act.put, List.setIfInBounds_toArray, List.set_cons_zero, List.set_cons_succ]
  refine wpPlan_held _ ?_ rfl (by rfl) (fun w' hS => ?_) ?_
  rotate_left
  · obtain ⟨e0, e1, e2, e3, e4, e5⟩ := hS; go_simp; with_reducible rfl
  simp only [Act.put, List.setIfInBounds_toArray, List.set_cons_zero, List.set_cons_succ]
  refine wpPlan_free _ ?_ rfl (by rfl) (fun w' => ?_) ?_
  rotate_left
  · go_simp; with_reducible rfl
  simp only [Act.put, List.setIfInBounds_toArray, List.set_cons_zero, List.set_cons_succ]
  refine wpPlan_held _ ?_ rfl (by rfl) (fun w' hS => ?_) ?_
  rotate_left
  · obtain ⟨e0, e1, e2, e3, e4, e5⟩ := hS; go_simp; with_reducible rfl
  simp only [Act.put, List.setIfInBounds_toArray, List.set_cons_zero, List.set_cons_succ]
  refine wpPlan_free _ ?_ rfl (by rfl) (fun w' => ?_) ?_
  rotate_left
  · go_simp; with_reducible rfl
  simp only [Act.put, List.setIfInBounds_toArray, List.set_cons_zero, List.set_cons_succ]
  refine wpPlan_free _ ?_ rfl (by rfl) (fun w' => ?_) ?_
  rotate_left
  · go_simp; with_reducible rfl
  simp only [Act.put, List.setIfInBounds_toArray, List.set_cons_zero, List.set_cons_succ]
  refine wpPlan_held _ ?_ rfl (by rfl) (fun w' hS => ?_) ?_
  rotate_left
  · obtain ⟨e0, e1, e2, e3, e4, e5⟩ := hS; go_simp; with_reducible rfl
  simp only [Act.put, List.setIfInBounds_toArray, List.set_cons_zero, List.set_cons_succ]
  refine wpPlan_held _ ?_ rfl (by rfl) (fun w' hS => ?_) ?_
  rotate_left
  · obtain ⟨e0, e1, e2, e3, e4, e5⟩ := hS; go_simp; with_reducible rfl
  simp only [Act.put, List.setIfInBounds_toArray, List.set_cons_zero, List.set_cons_succ]
  refine wpPlan_free _ ?_ rfl (by rfl) (fun w' => ?_) ?_
  rotate_left
  · go_simp; with_reducible rfl
  simp only [Act.put, List.setIfInBounds_toArray, List.set_cons_zero, List.set_cons_succ]
  refine wpPlan_free _ ?_ rfl (by rfl) (fun w' => ?_) ?_
  rotate_left
  · go_simp; with_reducible rfl
  simp only [Act.put, List.setIfInBounds_toArray, List.set_cons_zero, List.set_cons_succ]
  refine wpPlan_held _ ?_ rfl (by rfl) (fun w' hS => ?_) ?_
  rotate_left
  · obtain ⟨e0, e1, e2, e3, e4, e5⟩ := hS; go_simp; with_reducible rfl
  simp only [Act.put, List.setIfInBounds_toArray, List.set_cons_zero, List.set_cons_succ]
  refine wpPlan_free _ ?_ rfl (by rfl) (fun w' => ?_) ?_
  rotate_left
  · go_simp; with_reducible rfl
  simp only [Act.put, List.setIfInBounds_toArray, List.set_cons_zero, List.set_cons_succ]
  refine wpPlan_held _ ?_ rfl (by rfl) (fun w' hS => ?_) ?_
  rotate_left
  · obtain ⟨e0, e1, e2, e3, e4, e5⟩ := hS; go_simp; with_reducible rfl
  simp only [Act.put, List.setIfInBounds_toArray, List.set_cons_zero, List.set_cons_succ]
  refine wpPlan_free _ ?_ rfl (by rfl) (fun w' => ?_) ?_
  rotate_left
  · go_simp; with_reducible rfl
  simp only [Act.put, List.setIfInBounds_toArray, List.set_cons_zero, List.set_cons_succ]
  refine wpPlan_free _ ?_ rfl (by rfl) (fun w' => ?_) ?_
  rotate_left
  · go_simp; with_reducible rfl
  simp only [Act.put, List.setIfInBounds_toArray, List.set_cons_zero, List.set_cons_succ]
  refine wpPlan_held _ ?_ rfl (by rfl) (fun w' hS => ?_) ?_
  rotate_left
  · obtain ⟨e0, e1, e2, e3, e4, e5⟩ := hS; go_simp; with_reducible rfl
  simp only [Act.put, List.setIfInBounds_toArray, List.set_cons_zero, List.set_cons_succ]
  refine wpPlan_do _ rfl (fun K hK => ?_)
  go_simp
  refine (k1 _).mono ?_
  rintro e w1 ⟨rfl, rfl⟩
  refine hK _ _ (fun _ => HS.out _ (Fr.refl NoB _).drew) ?_
  clear hK K
  refine wpPlan_free _ ?_ rfl (by rfl) (fun w' => ?_) ?_
  rotate_left
  · go_simp; with_reducible rfl
  simp only [Act.put, List.setIfInBounds_toArray, List.set_cons_zero, List.set_cons_succ]
  refine wpPlan_nil ?_
  go_wp2_with fail
  go_ret
  exact ⟨rfl, 1, #[], by rw [Sort.grow_empty]; rfl⟩

/-- The state of the collecting loop. -/
structure PgL (w : World) (p bm B : Nat) (q left : List (Int × Option Nat)) (xs : List Int) (A : Option Addr) (c : Nat) (wr : World) : Prop where
  un : Under Try.prog 3 ptrElem dvP wr bm (B + 1) q left
  arr : Arr wr 3 1 A xs.length c (ints xs)
  hi : ∀ k, InB A k → B + 1 < k
  box : Bk wr B 23 #[.pointer (some ⟨p, 0, none⟩)]
  fr : Fr NoB w wr
  pm : (xs ++ left.map (·.1)).Perm (q.map (·.1))
def PgR (w : World) (p bm B : Nat) (q : List (Int × Option Nat)) (g : Nat) (v3 : Value) (wr : World) : Prop :=
  ∃ left xs A c, g = left.length ∧ v3 = .slice A xs.length c ∧ PgL w p bm B q left xs A c wr
theorem PgL.more {w W w1 w2 : World} {p bm : Nat} {q left left' : List (Int × Option Nat)} {xs : List Int} {A A' : Option Addr} {c c' : Nat} {x : Int} {v : Option Nat} (h : PgL w p bm w.heap.size q left xs A c W)
    (hp : left.Perm ((x, v) :: left')) (hu : Under Try.prog 3 ptrElem dvP w1 bm (w.heap.size + 1) q left') (hf : Fr (fun j => j = w.heap.size + 1) W w1) (hbw : bm < w.heap.size)
    (o : Obj) (ha : Arr w2 3 1 A' (xs.length + 1) c' (ints xs ++ [.int .i64 x])) (hf2 : Fr (InB A) (w1.alloc o) w2) (hin : ∀ k, InB A' k → InB A k ∨ (w1.alloc o).heap.size ≤ k) :
    PgL w p bm w.heap.size q left' (xs ++ [x]) A' c' w2 := by
  have z0 := hf.size
  have z1 := hu.lt
  have hf12 : Fr (InB A) w1 w2 := (((Fr.refl (InB A) w1).alloc o)).trans hf2
  refine ⟨hu.fr hf12 (fun hk => by have := h.hi _ hk; omega) (fun hk => by have := h.hi _ hk; omega), ?_, fun k hk => ?_, (h.box.fr hf (by omega)).fr hf12 (fun hk => by have := h.hi _ hk; omega),
    (h.fr.join hf (fun j hj e => by omega)).join hf12 (fun j hj hk => by have := h.hi _ hk; omega), ?_⟩
  · rw [List.length_append]
    simpa [ints] using ha
  · rcases hin k hk with h' | h'
    · exact h.hi k h'
    · simp at h'
      omega
  · have e := (hp.map (·.1)).symm
    rw [List.append_assoc]
    exact (e.append_left xs).trans h.pm

theorem pages_eq {L : List Frm} {n : Nat} {fl ck N : Int} (hg : PGood n fl ck N L) {ys : List Int} (hp : ys.Perm (L.map (·.page))) (hy : ys.Pairwise (fun a b => ltU L a b = true ∨ a = b)) : ys = L.map (·.page) := by
  refine List.Perm.eq_of_pairwise (fun a b _ _ h1 h2 => ?_) hy ?_ hp
  · rcases h1 with h1 | h1
    · rcases h2 with h2 | h2
      · have := of_decide_eq_true h1
        have := of_decide_eq_true h2
        omega
      · exact h2.symm
    · exact h1
  · rw [List.pairwise_map]
    refine hg.srt.imp_of_mem ?_
    intro a b ha hb hab
    refine .inl (decide_eq_true ?_)
    rw [usedOf_mem hg.nd ha, usedOf_mem hg.nd hb]
    exact hab

def PagesPost (L : List Frm) (w : World) (e : Ending) (w' : World) : Prop :=
  ∃ A c, e = .returned (.slice A L.length c) ∧ Arr w' 3 1 A L.length c (ints (L.map (·.page))) ∧ (∀ k, InB A k → w.heap.size ≤ k) ∧ Fr NoB w w'

set_option maxHeartbeats 4000000 in
theorem pages_any {w : World} {S : Nat → Prop} {p n : Nat} {fl ck N : Int} {L : List Frm} (h : PoolRaw w S p n fl ck L) (hg : PGood n fl ck N L) :
    Calls Try.prog 9 #[.pointer (some ⟨p, 0, none⟩)] w (PagesPost L w) := by
  obtain ⟨i0, hi0, hz0, hz1, hz2⟩ := info_parts info3
  have H := Lib.hid h
  have HG := Lib.hid hg
  obtain ⟨⟨bm, hb, hm, _⟩, _⟩ := h
  have hLl : L.length ≤ 64 := by have := hg.len; have := hg.n2; omega
  have hkl : (keysP L).length = L.length := by simp [keysP]
  have c3 : w.cell? ⟨p, 3, none⟩ = some (.map (some bm)) := hb.cell 3
  have hpl := hb.lt
  have hml := hm.lt
  have hm1 := hm.fr ((Fr.refl NoB w).alloc (.cells #[.pointer (some ⟨p, 0, none⟩)] 23)) (fun h => h)
  have HBX := Lib.hid (Bk.new w 23 #[.pointer (some ⟨p, 0, none⟩)])
  have HKL := Lib.hid hkl
  clear hb hm hg hkl
  go_enter Try.func9, Try.ntmps9
  go_wp2_with (at_range; refine wpList_range_is rfl _ 51 rfl 58 Try.underlying3 Try.underlying51 rfl hm1 ?_; intro w0 hun hf0 hs0)
  have e1 : (w.alloc (.cells #[.pointer (some ⟨p, 0, none⟩)] 23)).heap.size = w.heap.size + 1 := by simp
  rw [e1] at hun hs0 ⊢
  have HN : Hid (PgR w p bm w.heap.size (keysP L) (keysP L).length (.slice none 0 0) w0) :=
    ⟨keysP L, [], none, 0, rfl, rfl, hun, Arr.none_ _ _ _, fun k hk => (InB.none_ k hk).elim, HBX.out.fr hf0 (fun h => h), ((Fr.refl NoB w).alloc _).trans hf0, List.Perm.refl _⟩
  clear hun hf0 hs0
  go_frame
  go_loopg [3] (keysP L).length (fun g v3 wr => PgR w p bm w.heap.size (keysP L) g v3 wr)
  case atStart => exact HN.out
  case round =>
    obtain ⟨left, xs, A, c, rfl, rfl, hU⟩ := hrel
    have hUn := hU.un
    have HU := Lib.hid hU
    clear hU
    go_wp2_with (at_next; refine wpList_next_is elemP rfl _ rfl Try.underlying3 (w.heap.size + 1) left rfl hUn ?_ ?_)
    · intro hl
      subst hl
      have HP : Hid (xs.Perm (L.map (·.page))) := Lib.hid (by have := HU.out.pm; simpa [keysP_fst] using this)
      have hxl : xs.length = L.length := by have := HP.out.length_eq; simpa using this
      have HA := Lib.hid HU.out.arr
      have hsort := sort_any (fun x => x ∈ L.map (·.page)) (ltU L) (cmpU L) (cmp_lt L) (fun x => decide_eq_false (by omega)) (fun x y z h1 h2 => decide_eq_true (by have := of_decide_eq_true h1; have := of_decide_eq_true h2; omega))
        (fun x y hx hy h1 h2 => by
          obtain ⟨f, hf, rfl⟩ := List.mem_map.1 hx
          obtain ⟨g, hg, rfl⟩ := List.mem_map.1 hy
          have a1 := of_decide_eq_false h1
          have a2 := of_decide_eq_false h2
          rw [usedOf_mem HG.out.nd hf, usedOf_mem HG.out.nd hg] at a1 a2
          by_cases e : f = g
          · rw [e]
          · exfalso
            have : ∀ {l : List Frm}, l.Pairwise (fun a b => a.used < b.used) → f ∈ l → g ∈ l → f.used < g.used ∨ g.used < f.used ∨ f = g := by
              intro l
              induction l with
              | nil => intro _ h; simp at h
              | cons a r ih =>
                intro hp h1 h2
                obtain ⟨q1, q2⟩ := List.pairwise_cons.1 hp
                rcases List.mem_cons.1 h1 with e1 | h1'
                · rcases List.mem_cons.1 h2 with e2 | h2'
                  · exact .inr (.inr (e1.trans e2.symm))
                  · rw [e1]; exact .inl (q1 g h2')
                · rcases List.mem_cons.1 h2 with e2 | h2'
                  · rw [e2]; exact .inr (.inl (q1 f h1'))
                  · exact ih q2 h1' h2'
            rcases this HG.out.srt hf hg with h | h | h
            · omega
            · omega
            · exact e h) 24 #[.pointer (some ⟨w.heap.size, 0, none⟩)] (enters_of Try.func24 (by kernel_rfl) rfl) A xs.length c xs wr HA.out (fun x hx => HP.out.mem_iff.1 hx)
        (fun W hf x y hx hy => by
          obtain ⟨f, hf', rfl⟩ := List.mem_map.1 hx
          obtain ⟨g, hg', rfl⟩ := List.mem_map.1 hy
          have hR := (H.out.fr HU.out.fr (fun _ _ h => h)).fr hf (fun k hk ha => by have := HU.out.hi _ ha; have := H.out.lt k hk; omega)
          have := cmp_any hR HG.out hf' hg' ((HU.out.box.fr hf (fun hk => by have := HU.out.hi _ hk; omega)).cell 0)
          have e : cmpU L f.page g.page = Lib.compareInt f.used g.used := by
            unfold cmpU
            rw [usedOf_mem HG.out.nd hf', usedOf_mem HG.out.nd hg']
          rw [e]
          exact this) (by omega)
      have HS := Lib.hid hsort
      have HXL := Lib.hid hxl
      clear hsort hUn hxl
      go_wp2_with fail
      refine HS.out.mono ?_
      rintro e w2 ⟨rfl, ys, hperm, hpw, harr2, hf2⟩
      obtain rfl : ys = L.map (·.page) := pages_eq HG.out (hperm.trans HP.out) hpw
      rw [HXL.out] at harr2 ⊢
      have HA2 := Lib.hid harr2
      have HF2 := Lib.hid (HU.out.fr.join hf2 (fun j hj hk => by have := HU.out.hi _ hk; omega))
      have HHI := Lib.hid HU.out.hi
      clear hperm hpw harr2 hf2 HXL HS HP HA HU
      go_wp2_with fail
      go_ret
      exact ⟨A, c, rfl, HA2.out, fun k hk => by have := HHI.out k hk; omega, HF2.out⟩
    · intro x v left' w1 hmem hperm hun1 hf1 hsz hen
      have HP := Lib.hid hperm
      have HUN := Lib.hid hun1
      have HF1 := Lib.hid hf1
      have hll : left.length = left'.length + 1 := by simpa using hperm.length_eq
      clear hperm hun1 hf1 hmem hUn hsz
      obtain ⟨ev, hev⟩ : ∃ ev, ev = evP v := ⟨_, rfl⟩
      rw [← hev] at hen ⊢
      clear hev
      have HA := Lib.hid ((HU.out.arr.fr HF1.out (fun k hk e => by have := HU.out.hi k hk; omega)))
      have hB := Bk.new w1 3 #[.int .i64 x]
      have hsrc := rd_one hB
      have harr := HA.out.fr ((Fr.refl NoB w1).alloc (.cells #[.int .i64 x] 3)) (fun _ _ h => h)
      have hxl : xs.length ≤ 1024 := by
        have := HU.out.pm.length_eq
        have := HKL.out
        simp only [List.length_append, List.length_map] at *
        omega
      have HR := Lib.hid hsrc
      have HARR := Lib.hid harr
      clear hB hsrc harr
      go_wp2_with (at_builtin; refine wpList_append_arr _ rfl _ _ 30 rfl 3 i0 _ 1 8 Try.underlying30 hi0 hz0 hz1 hz2 rfl A xs.length c (ints xs) rfl HARR.out _ (some ⟨w1.heap.size, 0, none⟩) 1 1 [.int .i64 x] rfl HR.out (by intro u hu; simp at hu; subst hu; rfl) (by simp only [maxLen]; omega) (by omega) ?_; intro A1 c1 w2 harr1 hfr1 hin1 _)
      have HN1 := Lib.hid (HU.out.more HP.out HUN.out HF1.out hml (.cells #[.int .i64 x] 3) harr1 hfr1 hin1)
      clear harr1 hfr1 hin1
      go_wp2_with fail
      go_roundg left'.length
      case measure => omega
      case rel => exact ⟨left', xs ++ [x], A1, c1, rfl, by rw [List.length_append]; rfl, HN1.out⟩
theorem pages_nil (w : World) : Calls Try.prog 9 #[.pointer none] w fun e w' => e = .returned (.slice none 0 0) ∧ Fr NoB w w' := by
  go_enter Try.func9, Try.ntmps9
  go_wp2_with fail
  go_ret
  exact ⟨rfl, (Fr.refl _ _).alloc _⟩
end Go.Proofs.Ytmbabgaanpjmpaa
