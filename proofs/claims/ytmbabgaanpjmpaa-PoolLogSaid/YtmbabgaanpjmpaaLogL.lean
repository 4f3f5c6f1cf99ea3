/- PoolLog: the plain law. -/
import Derived.Test.YtmbabgaanpjmpaaPins
namespace Go.Proofs.Ytmbabgaanpjmpaa
open Go.RowKit

def setM (m : Int → Int) (x v : Int) : Int → Int := fun i => if i = x then v else m i
def Inv (m : Int → Int) (L : List Frm) : Prop := (∀ f ∈ L, m f.page ≤ if f.dirty = true then f.lsn else 0) ∧ ∀ i, (∀ f ∈ L, f.page ≠ i) → m i ≤ 0

theorem Inv.put {m : Int → Int} {L : List Frm} (h : Inv m L) {f : Frm} (ck : Int) (hb : m f.page ≤ if f.dirty = true then f.lsn else 0) : Inv m (putF ck L f) := by
  refine ⟨fun a ha => ?_, fun i hi => ?_⟩
  · unfold putF at ha
    rcases List.mem_append.1 ha with ha | ha
    · exact h.1 a (mem_without.1 ha).1
    · rw [List.mem_singleton.1 ha]
      exact hb
  · have h1 : f.page ≠ i := hi { f with pins := f.pins + 1, used := ck + 1 } (List.mem_append_right _ (List.mem_singleton.2 rfl))
    refine h.2 i fun g hg e => ?_
    by_cases e2 : g.page = f.page
    · exact h1 (e2.symm.trans e)
    · exact hi g (List.mem_append_left _ (mem_without.2 ⟨hg, e2⟩)) e
theorem Inv.less {m : Int → Int} {L : List Frm} (h : Inv m L) {x : Int} (hx : m x ≤ 0) : Inv m (without L x) := by
  refine ⟨fun a ha => h.1 a (mem_without.1 ha).1, fun i hi => ?_⟩
  by_cases e : i = x
  · rw [e]; exact hx
  · exact h.2 i fun g hg e2 => hi g (mem_without.2 ⟨hg, fun e3 => e (e2.symm.trans e3)⟩) e2
theorem Inv.zero {m : Int → Int} {L : List Frm} (h : Inv m L) (hl : ∀ f ∈ L, 0 ≤ f.lsn) (o : Int) : Inv (setM m o 0) L := by
  refine ⟨fun a ha => ?_, fun i hi => ?_⟩
  · unfold setM
    split
    · split
      · exact hl a ha
      · omega
    · exact h.1 a ha
  · unfold setM
    split
    · omega
    · exact h.2 i hi
theorem Inv.upd {m m1 : Int → Int} {L : List Frm} (h : Inv m L) (hn : (L.map (·.page)).Nodup) {f : Frm} (hf : f ∈ L) {g : Frm → Frm} (hg : Keeps g) (he : ∀ i, i ≠ f.page → m1 i = m i) (hb : m1 f.page ≤ if (g f).dirty = true then (g f).lsn else 0) : Inv m1 (upd L f.page g) := by
  refine ⟨fun a ha => ?_, fun i hi => ?_⟩
  · rcases mem_upd hn hf ha with rfl | ⟨ha, hne⟩
    · rw [(hg f).1]; exact hb
    · rw [he _ (fun e => hne (page_unique hn ha hf e))]
      exact h.1 a ha
  · have hp : ∀ a ∈ L, a.page ≠ i := fun a ha e => by
      have hm : a.page ∈ (Go.Proofs.Ytmbabgaanpjmpaa.upd L f.page g).map (·.page) := by rw [upd_pages hg]; exact List.mem_map.2 ⟨a, ha, rfl⟩
      obtain ⟨b, hb', e2⟩ := List.mem_map.1 hm
      exact hi b hb' (e2.trans e)
    rw [he i (fun e => hp f hf e.symm)]
    exact h.2 i hp

theorem need_log (fl l : Int) (h0 : 0 ≤ fl) : l ≤ (needF fl l).2 ∧ (needF fl l).2 = if fl < (needF fl l).1 then (needF fl l).1 else fl := by
  unfold needF
  split
  · refine ⟨by assumption, ?_⟩
    rw [if_neg (by simp only []; omega)]
  · refine ⟨Int.le_refl _, ?_⟩
    rw [if_pos (by simp only []; omega)]

theorem get_log {n : Nat} {fl ck N : Int} {L : List Frm} {m : Int → Int} (hg : PGood n fl ck N L) (hm : Inv m L) (x : Int) (blk : Nat) {hi wr : Bool} {o nd er fl' ck' : Int} {L' : List Frm} (hr : getF n fl ck L x blk = (⟨hi, wr, o, nd⟩, er, fl', ck', L')) :
    (wr = true → er = 0 ∧ 1 ≤ o ∧ o ≤ 4096 ∧ m o ≤ fl' ∧ Inv (setM m o 0) L' ∧ fl' = if fl < nd then nd else fl) ∧ (wr = false → Inv m L' ∧ fl' = fl) := by
  unfold getF at hr
  split at hr
  · cases hfo : frameOf L x with
    | some f =>
      obtain ⟨hf, rfl⟩ := frameOf_some hfo
      rw [hfo] at hr
      simp only [Prod.mk.injEq, Got.mk.injEq] at hr
      obtain ⟨⟨rfl, rfl, rfl, rfl⟩, rfl, rfl, rfl, rfl⟩ := hr
      exact ⟨fun h => (by cases h), fun _ => ⟨hm.put _ (hm.1 f hf), rfl⟩⟩
    | none =>
      have hno := frameOf_none hfo
      rw [hfo] at hr
      simp only [] at hr
      split at hr
      · simp only [Prod.mk.injEq] at hr
        obtain ⟨h1, rfl, rfl, rfl, rfl⟩ := hr
        unfold got0 at h1
        cases h1
        exact ⟨fun h => (by cases h), fun _ => ⟨hm.put _ (hm.2 x hno), rfl⟩⟩
      · cases hfr : (freeF L).bind fun k => L[k]? with
        | none =>
          rw [hfr] at hr
          simp only [Prod.mk.injEq] at hr
          obtain ⟨h1, rfl, rfl, rfl, rfl⟩ := hr
          unfold got0 at h1
          cases h1
          exact ⟨fun h => (by cases h), fun _ => ⟨hm, rfl⟩⟩
        | some f =>
          obtain ⟨k, hk, hfk⟩ := Option.bind_eq_some_iff.1 hfr
          have hf := List.mem_of_getElem? hfk
          have hb := hm.1 f hf
          have hp := hg.pg f hf
          rw [hfr] at hr
          simp only [Prod.mk.injEq, Got.mk.injEq] at hr
          obtain ⟨⟨rfl, rfl, rfl, rfl⟩, rfl, rfl, rfl, rfl⟩ := hr
          refine ⟨fun h => ?_, fun h => ?_⟩
          · rw [h] at hb
            simp only [if_true] at hb
            simp only [h, if_true]
            obtain ⟨q1, q2⟩ := need_log fl f.lsn hg.f0
            have hz := hm.zero (fun a ha => (hg.ls a ha).1) f.page
            refine ⟨trivial, hp.1, hp.2, by omega, ?_, q2⟩
            exact (hz.less (by unfold setM; simp)).put _ (hz.2 x hno)
          · rw [h] at hb
            simp only [Bool.false_eq_true, if_false] at hb
            simp only [h, Bool.false_eq_true, if_false]
            exact ⟨(hm.less hb).put _ (hm.2 x hno), trivial⟩
  · simp only [Prod.mk.injEq] at hr
    obtain ⟨h1, rfl, rfl, rfl, rfl⟩ := hr
    unfold got0 at h1
    cases h1
    exact ⟨fun h => (by cases h), fun _ => ⟨hm, rfl⟩⟩

theorem unpin_log {n : Nat} {fl ck N : Int} {L : List Frm} {m : Int → Int} (hg : PGood n fl ck N L) (hm : Inv m L) (x : Int) : Inv m (unpinF L x).2 := by
  unfold unpinF
  cases hfo : frameOf L x with
  | none => exact hm
  | some f =>
    obtain ⟨hf, rfl⟩ := frameOf_some hfo
    simp only []
    split
    · exact hm
    · exact hm.upd hg.nd hf (keeps_pins _) (fun _ _ => rfl) (hm.1 f hf)
theorem dirty_log {n : Nat} {fl ck N : Int} {L : List Frm} {m : Int → Int} (hg : PGood n fl ck N L) (hm : Inv m L) (x l : Int) :
    ((dirtyF L x l).1 = 0 → 1 ≤ x ∧ x ≤ 4096 ∧ (m x < l → Inv (setM m x l) (dirtyF L x l).2) ∧ (¬ m x < l → Inv m (dirtyF L x l).2)) ∧ ((dirtyF L x l).1 ≠ 0 → Inv m (dirtyF L x l).2) := by
  unfold dirtyF
  split
  · cases hfo : frameOf L x with
    | none => exact ⟨fun h => (by cases h), fun _ => hm⟩
    | some f =>
      obtain ⟨hf, rfl⟩ := frameOf_some hfo
      simp only []
      split
      · exact ⟨fun h => (by cases h), fun _ => hm⟩
      · have hb := hm.1 f hf
        have hl := (hg.ls f hf).1
        have hp := hg.pg f hf
        have hb2 : m f.page ≤ f.lsn := by
          split at hb <;> omega
        refine ⟨fun _ => ⟨hp.1, hp.2, fun h => ?_, fun h => ?_⟩, fun h => absurd rfl h⟩
        · refine hm.upd hg.nd hf (fun _ => ⟨rfl, rfl⟩) (fun i hi => by unfold setM; rw [if_neg hi]) ?_
          unfold setM
          rw [if_pos rfl, if_pos rfl]
          simp only []
          omega
        · refine hm.upd hg.nd hf (fun _ => ⟨rfl, rfl⟩) (fun i hi => rfl) ?_
          rw [if_pos rfl]
          simp only []
          omega
  · exact ⟨fun h => (by cases h), fun _ => hm⟩
theorem clean_log {n : Nat} {fl ck N : Int} {L : List Frm} {m : Int → Int} (hg : PGood n fl ck N L) (hm : Inv m L) (x : Int) :
    ((cleanF fl L x).2.1 = 0 → 1 ≤ x ∧ x ≤ 4096 ∧ m x ≤ (cleanF fl L x).2.2.1 ∧ Inv (setM m x 0) (cleanF fl L x).2.2.2 ∧ (cleanF fl L x).2.2.1 = if fl < (cleanF fl L x).1 then (cleanF fl L x).1 else fl) ∧
      ((cleanF fl L x).2.1 ≠ 0 → Inv m (cleanF fl L x).2.2.2 ∧ (cleanF fl L x).2.2.1 = fl) := by
  unfold cleanF
  cases hfo : frameOf L x with
  | none => exact ⟨fun h => (by cases h), fun _ => ⟨hm, rfl⟩⟩
  | some f =>
    obtain ⟨hf, rfl⟩ := frameOf_some hfo
    simp only []
    split
    · rename_i hd
      have hb := hm.1 f hf
      rw [if_pos hd] at hb
      have hp := hg.pg f hf
      obtain ⟨q1, q2⟩ := need_log fl f.lsn hg.f0
      refine ⟨fun _ => ⟨hp.1, hp.2, by simp only []; omega, ?_, q2⟩, fun h => absurd rfl h⟩
      refine hm.upd hg.nd hf (fun _ => ⟨rfl, rfl⟩) (fun i hi => by unfold setM; rw [if_neg hi]) ?_
      unfold setM
      rw [if_pos rfl, if_neg (by simp)]
      exact Int.le_refl _
    · exact ⟨fun h => (by cases h), fun _ => ⟨hm, rfl⟩⟩
theorem flushed_log (fl x : Int) : ((flushedF fl x).1 = 0 → (flushedF fl x).2 = if fl < x then x else fl) ∧ ((flushedF fl x).1 ≠ 0 → (flushedF fl x).2 = fl) := by
  unfold flushedF
  split
  · refine ⟨fun _ => ?_, fun h => absurd rfl h⟩
    simp only []
    split <;> omega
  · exact ⟨fun h => (by cases h), fun _ => rfl⟩

/-- The table of last changes. -/
def lcells (m : Int → Int) : Array Value := ((List.range 4097).map fun i : Nat => Value.int .i64 (m i)).toArray
theorem lcells_get (m : Int → Int) {i : Nat} (hi : i < 4097) : (lcells m)[i]? = some (.int .i64 (m i)) := by
  unfold lcells
  simp [hi]
theorem rep_range (n : Nat) (v : Value) : Array.replicate n v = ((List.range n).map fun _ : Nat => v).toArray := by
  apply Array.ext'
  rw [Array.toList_replicate]
  simp [List.map_const']
theorem lcells_zero : Array.replicate 4097 (Value.int .i64 0) = lcells fun _ => 0 := rep_range 4097 _
theorem lcells_set (m : Int → Int) (i : Nat) (v : Int) : (lcells m).setIfInBounds i (.int .i64 v) = lcells (setM m i v) := by
  apply Array.ext'
  unfold lcells
  apply List.ext_getElem?
  intro j
  simp only [Array.toList_setIfInBounds, List.getElem?_set, List.length_map, List.length_range, List.getElem?_map]
  by_cases hj : j < 4097
  · rw [List.getElem?_range hj]
    by_cases e : i = j
    · subst e
      simp [hj, setM]
    · rw [if_neg e]
      simp [setM, show ¬ ((j : Int) = (i : Int)) by omega]
  · have : (List.range 4097)[j]? = none := by simp; omega
    rw [this]
    by_cases e : i = j
    · subst e; simp [hj]
    · rw [if_neg e]; rfl
theorem zero39 : (Try.prog.info? 39).map (·.zero) = some (some (.agg (Array.replicate 4097 (.int .i64 0)))) := by kernel_rfl

/-- The law's loop. -/
structure LG (w : World) (p n lb : Nat) (S : Nat → Prop) (fl ck : Int) (L : List Frm) (m : Int → Int) (N : Int) (wr : World) : Prop where
  pn : PN w p n S fl ck L N wr
  tb : Bk wr lb 39 (lcells m)
  inv : Inv m L
  nS : ¬ S lb
  lo : w.heap.size ≤ lb
section
variable {w W W' : World} {p n lb : Nat} {S S' : Nat → Prop} {fl ck fl' ck' N N' : Int} {L L' : List Frm} {m m' : Int → Int}
theorem LG.keep (h : LG w p n lb S fl ck L m N W) (hf : Fr NoB W W') : LG w p n lb S fl ck L m N W' := ⟨h.pn.keep hf, h.tb.fr hf (fun h => h), h.inv, h.nS, h.lo⟩
theorem LG.turn (h : LG w p n lb S fl ck L m N W) (hr : PoolRaw W' S' p n fl' ck' L') (hg : PGood n fl' ck' N' L') (hf : Fr S W W') (hS : Gr S S' W) :
    PN w p n S' fl' ck' L' N' W' ∧ Bk W' lb 39 (lcells m) ∧ ¬ S' lb ∧ w.heap.size ≤ lb :=
  ⟨h.pn.turn hr hg hf hS, h.tb.fr hf h.nS, fun hs => (hS lb hs).elim (fun h' => h.nS h') (fun h' => by have := h.tb.lt; omega), h.lo⟩
theorem LG.store (h : LG w p n lb S fl ck L m N W) (i : Nat) (v : Int) (hm : Inv (setM m i v) L) : LG w p n lb S fl ck L (setM m i v) N (W.setCell ⟨lb, i, none⟩ (.int .i64 v)) := by
  have f2 : Fr (fun j => j = lb) W (W.setCell ⟨lb, i, none⟩ (.int .i64 v)) := Fr.setCell (S := fun j => j = lb) (p := ⟨lb, i, none⟩) (Fr.refl _ W) (.inl rfl) _
  have hlo := h.lo
  exact ⟨⟨h.pn.raw.fr f2 (fun k hk e => h.nS (e ▸ hk)), h.pn.good, h.pn.up, h.pn.fr.join f2 (fun j e hj => by omega)⟩, by rw [← lcells_set]; exact h.tb.set i _, hm, h.nS, h.lo⟩
end
end Go.Proofs.Ytmbabgaanpjmpaa
