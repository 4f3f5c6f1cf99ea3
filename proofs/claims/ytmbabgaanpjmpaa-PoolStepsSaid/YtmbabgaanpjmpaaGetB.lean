/- Get: what becomes of the list; plain law and memory. -/
import Derived.Test.YtmbabgaanpjmpaaGetA
namespace Go.Proofs.Ytmbabgaanpjmpaa
open Go.RowKit

def without (L : List Frm) (x : Int) : List Frm := L.filter fun f => f.page != x
theorem mem_without {L : List Frm} {x : Int} {g : Frm} : g ∈ without L x ↔ g ∈ L ∧ g.page ≠ x := by simp [without]
theorem without_none {L : List Frm} {x : Int} (h : ∀ f ∈ L, f.page ≠ x) : without L x = L := List.filter_eq_self.2 fun f hf => by simpa using h f hf
theorem without_perm : ∀ {L : List Frm} {f : Frm}, (L.map (·.page)).Nodup → f ∈ L → L.Perm (f :: without L f.page)
  | [], f, _, h => by simp at h
  | a :: r, f, hn, h => by
    rw [List.map_cons, List.nodup_cons] at hn
    rcases List.mem_cons.1 h with e | h1
    · subst e
      have : without (f :: r) f.page = r := by
        unfold without
        rw [List.filter_cons_of_neg (by simp)]
        exact without_none (fun g hg e => hn.1 (by rw [← e]; exact List.mem_map.2 ⟨g, hg, rfl⟩))
      rw [this]
    · have hne : a.page ≠ f.page := fun e => hn.1 (by rw [e]; exact List.mem_map.2 ⟨f, h1, rfl⟩)
      have : without (a :: r) f.page = a :: without r f.page := by
        unfold without
        rw [List.filter_cons_of_pos (by simpa using hne)]
      rw [this]
      exact (List.Perm.cons _ (without_perm hn.2 h1)).trans (List.Perm.swap _ _ _)
theorem without_len {L : List Frm} {f : Frm} (hn : (L.map (·.page)).Nodup) (h : f ∈ L) : (without L f.page).length + 1 = L.length := by
  have := (without_perm hn h).length_eq
  simpa using this.symm
theorem without_keys {L : List Frm} (x : Int) : keysP (without L x) = (keysP L).filter fun p => p.1 != x := by
  unfold keysP without
  rw [List.filter_map]
  rfl

def putF (ck : Int) (L : List Frm) (f : Frm) : List Frm := without L f.page ++ [{ f with pins := f.pins + 1, used := ck + 1 }]
def newFrm (x : Int) (blk : Nat) : Frm := ⟨x, 0, 0, 0, 0, false, blk⟩

theorem PGood.put {n : Nat} {fl ck N : Int} {L : List Frm} {f : Frm} (h : PGood n fl ck N L) (hl : (without L f.page).length < n) (hp : 1 ≤ f.page ∧ f.page ≤ 4096) (h1 : 0 ≤ f.pins ∧ f.pins ≤ N) (h2 : 0 ≤ f.lsn ∧ f.lsn ≤ 1099511627776) (h3 : 0 ≤ f.first ∧ f.first ≤ 1099511627776) :
    PGood n fl (ck + 1) (N + 1) (putF ck L f) := by
  have key : ∀ {P : Frm → Prop}, (∀ a ∈ L, P a) → P { f with pins := f.pins + 1, used := ck + 1 } → ∀ a ∈ putF ck L f, P a := fun hP hf a ha => by
    unfold putF at ha
    rcases List.mem_append.1 ha with ha | ha
    · exact hP a (mem_without.1 ha).1
    · rw [List.mem_singleton] at ha
      rw [ha]
      exact hf
  have c0 := h.c0
  have c1 := h.c1
  refine ⟨h.n1, h.n2, by unfold putF; rw [List.length_append]; simp; omega, key h.pg hp, key (fun a ha => ⟨(h.pin a ha).1, by have := (h.pin a ha).2; omega⟩) ⟨by simp only []; omega, by simp only []; omega⟩, key h.ls h2, key h.fs h3,
    key (fun a ha => ⟨(h.us a ha).1, by have := (h.us a ha).2; omega⟩) ⟨by simp only []; omega, Int.le_refl _⟩, ?_, ?_, h.f0, h.f1, by omega, by omega⟩
  · unfold putF
    rw [List.pairwise_append]
    refine ⟨List.Pairwise.filter _ h.srt, List.pairwise_singleton _ _, fun a ha b hb => ?_⟩
    rw [List.mem_singleton] at hb
    rw [hb]
    have := (h.us a (mem_without.1 ha).1).2
    simp only []
    omega
  · unfold putF
    rw [List.map_append, List.nodup_append]
    refine ⟨(List.Sublist.map _ List.filter_sublist).nodup h.nd, by simp, fun a ha b hb => ?_⟩
    obtain ⟨g, hg, rfl⟩ := List.mem_map.1 ha
    simp only [List.map_cons, List.map_nil, List.mem_singleton] at hb
    rw [hb]
    exact (mem_without.1 hg).2
theorem PGood.less {n : Nat} {fl ck N : Int} {L : List Frm} (h : PGood n fl ck N L) (x : Int) : PGood n fl ck N (without L x) :=
  ⟨h.n1, h.n2, Nat.le_trans (List.length_filter_le _ _) h.len, fun f hf => h.pg f (mem_without.1 hf).1, fun f hf => h.pin f (mem_without.1 hf).1, fun f hf => h.ls f (mem_without.1 hf).1, fun f hf => h.fs f (mem_without.1 hf).1, fun f hf => h.us f (mem_without.1 hf).1,
    List.Pairwise.filter _ h.srt, (List.Sublist.map _ List.filter_sublist).nodup h.nd, h.f0, h.f1, h.c0, h.c1⟩
theorem PGood.need {n : Nat} {fl ck N : Int} {L : List Frm} (h : PGood n fl ck N L) {x : Int} (hx : 0 ≤ x ∧ x ≤ 1099511627776) : PGood n (needF fl x).2 ck N L := by
  have h0 := h.f0
  have h1 := h.f1
  refine ⟨h.n1, h.n2, h.len, h.pg, h.pin, h.ls, h.fs, h.us, h.srt, h.nd, ?_, ?_, h.c0, h.c1⟩
  · unfold needF; split <;> simp only [] <;> omega
  · unfold needF; split <;> simp only [] <;> omega

def getF (n : Nat) (fl ck : Int) (L : List Frm) (x : Int) (blk : Nat) : Got × Int × Int × Int × List Frm :=
  if 1 ≤ x ∧ x ≤ 4096 then
    match frameOf L x with
    | some f => (⟨true, false, 0, 0⟩, 0, fl, ck + 1, putF ck L f)
    | none => if L.length < n then (got0, 0, fl, ck + 1, putF ck L (newFrm x blk)) else match (freeF L).bind fun k => L[k]? with
      | none => (got0, 5, fl, ck, L)
      | some f => (⟨false, f.dirty, f.page, if f.dirty = true then (needF fl f.lsn).1 else 0⟩, 0, if f.dirty = true then (needF fl f.lsn).2 else fl, ck + 1, putF ck (without L f.page) (newFrm x blk))
  else (got0, 1, fl, ck, L)

theorem getF_good {n : Nat} {fl ck N : Int} {L : List Frm} (h : PGood n fl ck N L) (x : Int) (blk : Nat) : PGood n (getF n fl ck L x blk).2.2.1 (getF n fl ck L x blk).2.2.2.1 (N + 1) (getF n fl ck L x blk).2.2.2.2 := by
  have c1 := h.c1
  have c0 := h.c0
  unfold getF
  split
  · rename_i hx
    cases hfo : frameOf L x with
    | some f =>
      obtain ⟨hf, hfx⟩ := frameOf_some hfo
      have := without_len h.nd hf
      have := h.len
      exact h.put (by omega) (h.pg f hf) (h.pin f hf) (h.ls f hf) (h.fs f hf)
    | none =>
      have hno := frameOf_none hfo
      simp only []
      split
      · exact h.put (f := newFrm x blk) (by rw [show (newFrm x blk).page = x from rfl, without_none hno]; assumption) hx ⟨Int.le_refl _, by simp only [newFrm]; omega⟩ ⟨Int.le_refl _, by simp only [newFrm]; omega⟩ ⟨Int.le_refl _, by simp only [newFrm]; omega⟩
      · cases hfr : (freeF L).bind fun k => L[k]? with
        | none => exact h.mono (by omega)
        | some f =>
          obtain ⟨k, hk, hf⟩ := Option.bind_eq_some_iff.1 hfr
          have hmem := List.mem_of_getElem? hf
          have hl := without_len h.nd hmem
          have hlen := h.len
          have g1 : PGood n (if f.dirty = true then (needF fl f.lsn).2 else fl) ck N (without L f.page) := by
            split
            · exact (h.less _).need (h.ls f hmem)
            · exact h.less _
          have h2 : ∀ a ∈ without L f.page, a.page ≠ x := fun a ha => hno a (mem_without.1 ha).1
          exact g1.put (f := newFrm x blk) (by rw [show (newFrm x blk).page = x from rfl, without_none h2]; omega) hx ⟨Int.le_refl _, by simp only [newFrm]; omega⟩ ⟨Int.le_refl _, by simp only [newFrm]; omega⟩ ⟨Int.le_refl _, by simp only [newFrm]; omega⟩
  · exact h.mono (by omega)

section
variable {w : World} {S : Nat → Prop} {p n : Nat} {fl ck : Int} {L : List Frm}
/-- The last three stores. -/
theorem PoolRaw.touch (h : PoolRaw w S p n fl ck L) (hn : (L.map (·.page)).Nodup) {f : Frm} (hf : f ∈ L) :
    PoolRaw (((w.setCell ⟨p, 2, none⟩ (.int .i64 (ck + 1))).setCell ⟨f.blk, 3, none⟩ (.int .i64 (ck + 1))).setCell ⟨f.blk, 0, none⟩ (.int .i64 (f.pins + 1))) S p n fl (ck + 1) (putF ck L f) ∧
      Fr S w (((w.setCell ⟨p, 2, none⟩ (.int .i64 (ck + 1))).setCell ⟨f.blk, 3, none⟩ (.int .i64 (ck + 1))).setCell ⟨f.blk, 0, none⟩ (.int .i64 (f.pins + 1))) := by
  obtain ⟨a1, a2⟩ := h.tick (ck + 1)
  have hk : ∀ f' : Frm, f'.page = f.page → f'.blk = f.blk → (keysP L).Perm (keysP (without L f.page ++ [f'])) := fun f' e1 e2 => by
    have hp := (without_perm hn hf).map fun g => (g.page, some g.blk)
    refine hp.trans ?_
    unfold keysP
    rw [List.map_append, List.map_cons]
    refine (List.perm_append_comm (l₁ := [(f.page, some f.blk)])).trans ?_
    simp [e1, e2]
  obtain ⟨b1, b2⟩ := a1.write (L' := without L f.page ++ [{ f with used := ck + 1 }]) (f' := { f with used := ck + 1 }) hf 3 (.int .i64 (ck + 1)) rfl rfl (fun g hg => by
    rcases List.mem_append.1 hg with hg | hg
    · obtain ⟨q1, q2⟩ := mem_without.1 hg
      exact .inr ⟨q1, fun e => q2 (by rw [e])⟩
    · exact .inl (List.mem_singleton.1 hg)) (hk _ rfl rfl)
  have hm : ({ f with used := ck + 1 } : Frm) ∈ without L f.page ++ [{ f with used := ck + 1 }] := List.mem_append_right _ (List.mem_singleton.2 rfl)
  obtain ⟨c1, c2⟩ := b1.write (L' := putF ck L f) (f' := { f with pins := f.pins + 1, used := ck + 1 }) hm 0 (.int .i64 (f.pins + 1)) rfl rfl (fun g hg => by
    unfold putF at hg
    rcases List.mem_append.1 hg with hg | hg
    · exact .inr ⟨List.mem_append_left _ hg, fun e => (mem_without.1 hg).2 (by rw [e])⟩
    · exact .inl (List.mem_singleton.1 hg)) (by unfold putF keysP; rw [List.map_append, List.map_append]; exact List.Perm.refl _)
  exact ⟨c1, (a2.trans b2).trans c2⟩
/-- A new frame. -/
theorem PoolRaw.newFrame {W w2 : World} (h : PoolRaw w S p n fl ck L) {bm : Nat} (hb : Bk w p 53 #[.int .i64 n, .int .i64 fl, .int .i64 ck, .map (some bm)]) (hS : S bm) {x : Int} {fb : Nat} (hW : Fr NoB w W) (hfb : Bk W fb 57 (fcells (newFrm x fb))) (hnew : w.heap.size ≤ fb)
    (hm : MP w2 bm ((x, some fb) :: keysP L)) (hf : Fr (fun j => j = bm) W w2) : PoolRaw w2 (fun k => S k ∨ k = fb) p n fl ck (L ++ [newFrm x fb]) ∧ Fr S w w2 := by
  have hbm : bm ≠ p := fun e => by
    obtain ⟨⟨D, ⟨es, clock, g1, _⟩, _⟩, _⟩ := hm
    have := (hb.fr hW (fun h => h))
    obtain ⟨⟨bm', hb', hm', _⟩, _⟩ := h
    have e2 : bm' = bm := by
      unfold Bk at hb hb'
      rw [hb] at hb'
      simpa using hb'.symm
    subst e2
    exact map_ne_bk hm' hb' e
  have hlt := h.lt
  refine ⟨⟨⟨bm, (hb.fr hW (fun h => h)).fr hf (fun e => hbm e.symm), hm.perm ?_, .inl hS⟩, fun f hf' => ?_, ?_, .inl h.own, fun k hk => ?_⟩, (hW.mono (fun _ _ h => h.elim)).trans (hf.mono (fun j _ e => by subst e; exact hS))⟩
  · unfold keysP
    rw [List.map_append]
    exact (List.perm_append_comm (l₁ := [(x, some fb)])).trans (List.Perm.refl _)
  · rcases List.mem_append.1 hf' with hf' | hf'
    · obtain ⟨q1, q2⟩ := h.frs f hf'
      refine ⟨(q1.fr hW (fun h => h)).fr hf (fun e => ?_), .inl q2⟩
      obtain ⟨⟨bm', hb', hm', _⟩, _⟩ := h
      have e2 : bm' = bm := by
        unfold Bk at hb hb'
        rw [hb] at hb'
        simpa using hb'.symm
      subst e2
      exact map_ne_bk hm' q1 e.symm
    · rw [List.mem_singleton.1 hf']
      refine ⟨hfb.fr hf (fun e => ?_), .inr rfl⟩
      have := hlt bm hS
      have e' : fb = bm := e
      omega
  · rw [List.map_append, List.nodup_append]
    refine ⟨h.bn, by simp, fun a ha b hb' => ?_⟩
    obtain ⟨g, hg, rfl⟩ := List.mem_map.1 ha
    simp only [List.map_cons, List.map_nil, List.mem_singleton] at hb'
    rw [hb']
    have := hlt _ (h.frs g hg).2
    intro e
    simp only [newFrm] at e
    omega
  · have z1 := hW.size
    have z2 := hf.size
    rcases hk with hk | hk
    · have := hlt k hk; omega
    · have := hfb.lt; omega
/-- A frame is let go. -/
theorem PoolRaw.drop {w2 : World} (h : PoolRaw w S p n fl ck L) {bm : Nat} (hb : Bk w p 53 #[.int .i64 n, .int .i64 fl, .int .i64 ck, .map (some bm)]) (hS : S bm) (x : Int) (hm : MP w2 bm ((keysP L).filter fun p => p.1 != x)) (hf : Fr (fun j => j = bm) w w2) :
    PoolRaw w2 S p n fl ck (without L x) ∧ Fr S w w2 := by
  obtain ⟨⟨bm', hb', hm', _⟩, hfr, hbn, ho, hlt⟩ := h
  have e2 : bm' = bm := by
    unfold Bk at hb hb'
    rw [hb] at hb'
    simpa using hb'.symm
  subst e2
  refine ⟨⟨⟨bm', hb'.fr hf (fun e => map_ne_bk hm' hb' e.symm), by rw [without_keys]; exact hm, hS⟩, fun f hf' => ?_, (List.Sublist.map _ List.filter_sublist).nodup hbn, ho, fun k hk => by have := hlt k hk; have := hf.size; omega⟩, hf.mono (fun j _ e => by subst e; exact hS)⟩
  obtain ⟨q1, q2⟩ := hfr f (mem_without.1 hf').1
  exact ⟨q1.fr hf (fun e => map_ne_bk hm' q1 e.symm), q2⟩
end
end Go.Proofs.Ytmbabgaanpjmpaa
