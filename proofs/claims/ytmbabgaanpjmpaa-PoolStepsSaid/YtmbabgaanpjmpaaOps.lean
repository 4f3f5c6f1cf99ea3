/- Contracts of need, Unpin, Dirty, Clean, Flushed, Pins. -/
import Derived.Test.YtmbabgaanpjmpaaPool
namespace Go.Proofs.Ytmbabgaanpjmpaa
open Go.RowKit

def upd (L : List Frm) (x : Int) (g : Frm → Frm) : List Frm := L.map fun f => if f.page = x then g f else f
def Keeps (g : Frm → Frm) : Prop := ∀ f, (g f).page = f.page ∧ (g f).blk = f.blk
theorem upd_keys {L : List Frm} {x : Int} {g : Frm → Frm} (hg : Keeps g) : keysP (upd L x g) = keysP L := by
  unfold keysP upd
  rw [List.map_map]
  refine List.map_congr_left fun f _ => ?_
  simp only [Function.comp]
  split
  · rw [(hg f).1, (hg f).2]
  · rfl
theorem upd_pages {L : List Frm} {x : Int} {g : Frm → Frm} (hg : Keeps g) : (upd L x g).map (·.page) = L.map (·.page) := by
  rw [← keysP_fst, upd_keys hg, keysP_fst]
theorem upd_len (L : List Frm) (x : Int) (g : Frm → Frm) : (upd L x g).length = L.length := by simp [upd]
theorem page_unique : ∀ {L : List Frm}, (L.map (·.page)).Nodup → ∀ {f g : Frm}, f ∈ L → g ∈ L → f.page = g.page → f = g
  | [], _, f, g, hf, _, _ => by simp at hf
  | a :: r, hn, f, g, hf, hg, h => by
    rw [List.map_cons, List.nodup_cons] at hn
    rcases List.mem_cons.1 hf with e1 | hf1
    · rcases List.mem_cons.1 hg with e2 | hg1
      · rw [e1, e2]
      · subst e1
        exact absurd (by rw [h]; exact List.mem_map.2 ⟨g, hg1, rfl⟩) hn.1
    · rcases List.mem_cons.1 hg with e2 | hg1
      · subst e2
        exact absurd (by rw [← h]; exact List.mem_map.2 ⟨f, hf1, rfl⟩) hn.1
      · exact page_unique hn.2 hf1 hg1 h
theorem mem_upd {L : List Frm} (hn : (L.map (·.page)).Nodup) {f : Frm} (hf : f ∈ L) {g : Frm → Frm} {h : Frm} (hh : h ∈ upd L f.page g) : h = g f ∨ (h ∈ L ∧ h ≠ f) := by
  obtain ⟨a, ha, rfl⟩ := List.mem_map.1 hh
  by_cases e : a.page = f.page
  · rw [if_pos e, page_unique hn ha hf e]
    exact .inl rfl
  · rw [if_neg e]
    exact .inr ⟨ha, fun e' => e (by rw [e'])⟩
theorem upd_mem {L : List Frm} {f : Frm} (hf : f ∈ L) (g : Frm → Frm) : g f ∈ upd L f.page g := List.mem_map.2 ⟨f, hf, by rw [if_pos rfl]⟩
theorem upd_upd {L : List Frm} {x : Int} {g h : Frm → Frm} (hg : Keeps g) : upd (upd L x g) x h = upd L x (fun f => h (g f)) := by
  unfold upd
  rw [List.map_map]
  refine List.map_congr_left fun f _ => ?_
  simp only [Function.comp]
  by_cases e : f.page = x
  · rw [if_pos e, if_pos (by rw [(hg f).1]; exact e), if_pos e]
  · rw [if_neg e, if_neg e, if_neg e]
theorem PoolRaw.upd {w : World} {S : Nat → Prop} {p n : Nat} {fl ck : Int} {L : List Frm} (h : PoolRaw w S p n fl ck L) (hn : (L.map (·.page)).Nodup) {f : Frm} (hf : f ∈ L) (o : Nat) (v : Value) (g : Frm → Frm) (hg : Keeps g) (hc : fcells (g f) = (fcells f).setIfInBounds o v) :
    PoolRaw (w.setCell ⟨f.blk, o, none⟩ v) S p n fl ck (upd L f.page g) ∧ Fr S w (w.setCell ⟨f.blk, o, none⟩ v) :=
  h.write hf o v (hg f).2 hc (fun _ hh => mem_upd hn hf hh) (by rw [upd_keys hg])
theorem PGood.upd {n : Nat} {fl ck N : Int} {L : List Frm} (h : PGood n fl ck N L) {f : Frm} (hf : f ∈ L) {g : Frm → Frm} (hg : Keeps g) (hu : ∀ a, (g a).used = a.used) (hp : 0 ≤ (g f).pins ∧ (g f).pins ≤ N) (hl : 0 ≤ (g f).lsn ∧ (g f).lsn ≤ 1099511627776) (h1 : 0 ≤ (g f).first ∧ (g f).first ≤ 1099511627776) :
    PGood n fl ck N (upd L f.page g) := by
  have key : ∀ {P : Frm → Prop}, (∀ a ∈ L, P a) → P (g f) → ∀ a ∈ Go.Proofs.Ytmbabgaanpjmpaa.upd L f.page g, P a := fun hP hgf a ha => by
    rcases mem_upd h.nd hf ha with rfl | ⟨ha, _⟩
    · exact hgf
    · exact hP a ha
  refine ⟨h.n1, h.n2, by rw [upd_len]; exact h.len, key h.pg (by rw [(hg f).1]; exact h.pg f hf), key h.pin hp, key h.ls hl, key h.fs h1, key h.us (by rw [hu]; exact h.us f hf), ?_, by rw [upd_pages hg]; exact h.nd, h.f0, h.f1, h.c0, h.c1⟩
  unfold Go.Proofs.Ytmbabgaanpjmpaa.upd
  rw [List.pairwise_map]
  refine h.srt.imp (fun {a b} hab => ?_)
  have e : ∀ a : Frm, (if a.page = f.page then g a else a).used = a.used := fun a => by
    split
    · exact hu a
    · rfl
  rw [e, e]
  exact hab

def frameOf (L : List Frm) (x : Int) : Option Frm := L.find? fun f => f.page == x
theorem frameOf_some {L : List Frm} {x : Int} {f : Frm} (h : frameOf L x = some f) : f ∈ L ∧ f.page = x := by
  unfold frameOf at h
  exact ⟨List.mem_of_find?_eq_some h, by simpa using List.find?_some h⟩
theorem frameOf_none {L : List Frm} {x : Int} (h : frameOf L x = none) : ∀ f ∈ L, f.page ≠ x := by
  unfold frameOf at h
  rw [List.find?_eq_none] at h
  exact fun f hf e => by have := h f hf; simp [e] at this
theorem frameOf_mem {L : List Frm} (hn : (L.map (·.page)).Nodup) {f : Frm} (hf : f ∈ L) : frameOf L f.page = some f := by
  cases h : frameOf L f.page with
  | none => exact absurd rfl (frameOf_none h f hf)
  | some g => obtain ⟨h1, h2⟩ := frameOf_some h; rw [page_unique hn h1 hf h2]

def needF (fl lsn : Int) : Int × Int := if lsn ≤ fl then (0, fl) else (lsn, lsn)
theorem PoolRaw.cells {w : World} {S : Nat → Prop} {p n : Nat} {fl ck : Int} {L : List Frm} (h : PoolRaw w S p n fl ck L) {f : Frm} (hf : f ∈ L) (i : Nat) : w.cell? ⟨f.blk, i, none⟩ = (fcells f)[i]? ∧ w.frozen? ⟨f.blk, i, none⟩ = false :=
  ⟨(h.frs f hf).1.cell i, (h.frs f hf).1.frozen i⟩

def NeedPost (S : Nat → Prop) (p n : Nat) (ck : Int) (L : List Frm) (r : Int × Int) (w : World) (e : Ending) (w' : World) : Prop := e = .returned (.int .i64 r.1) ∧ PoolRaw w' S p n r.2 ck L ∧ Fr S w w'
theorem need_any {w : World} {S : Nat → Prop} {p n : Nat} {fl ck : Int} {L : List Frm} (h : PoolRaw w S p n fl ck L) {f : Frm} (hf : f ∈ L) :
    Calls Try.prog 29 #[.pointer (some ⟨p, 0, none⟩), .pointer (some ⟨f.blk, 0, none⟩)] w (NeedPost S p n ck L (needF fl f.lsn) w) := by
  have H := Lib.hid h
  have c1 : w.cell? ⟨f.blk, 1, none⟩ = some (.int .i64 f.lsn) := (h.cells hf 1).1
  obtain ⟨⟨bm, hb, hm, _⟩, _⟩ := h
  have d1 : w.cell? ⟨p, 1, none⟩ = some (.int .i64 fl) := hb.cell 1
  have d2 := hb.frozen 1
  have hne : p ≠ f.blk := hb.types (H.out.frs f hf).1 (by decide)
  have hne' : f.blk ≠ p := fun e => hne e.symm
  obtain ⟨r1, r2⟩ := H.out.flush f.lsn
  have R1 := Lib.hid r1
  have R2 := Lib.hid r2
  clear hb hm r1 r2 hf
  unfold needF
  generalize f.lsn = x at *
  generalize f.blk = bk at *
  by_cases hl : x ≤ fl
  · rw [if_pos hl]
    go_enter Try.func29, Try.ntmps29
    go_wp2_with fail
    go_quiet (fail)
    go_wp2_with fail
    go_ret
    exact ⟨rfl, H.out.fr ((Fr.refl NoB _).drewN _) (fun _ _ h => h), (Fr.refl _ _).drewN _⟩
  · rw [if_neg hl]
    have hl' : decide (x ≤ fl) = false := decide_eq_false hl
    go_enter Try.func29, Try.ntmps29
    go_wp2_with fail
    go_quiet (fail)
    go_wp2_with fail
    go_ret
    exact ⟨rfl, R1.out.fr ((Fr.refl NoB _).drewN _) (fun _ _ h => h), R2.out.drewN _⟩

def unpinF (L : List Frm) (x : Int) : Int × List Frm := match frameOf L x with
  | none => (6, L)
  | some f => if f.pins = 0 then (7, L) else (0, upd L x fun f => { f with pins := f.pins - 1 })
def UnpinPost (S : Nat → Prop) (p n : Nat) (fl ck : Int) (r : Int × List Frm) (w : World) (e : Ending) (w' : World) : Prop := e = .returned (.int .i64 r.1) ∧ PoolRaw w' S p n fl ck r.2 ∧ Fr S w w'
theorem keeps_pins (a : Frm → Int) : Keeps fun f => { f with pins := a f } := fun _ => ⟨rfl, rfl⟩

theorem unpin_any {w : World} {S : Nat → Prop} {p n : Nat} {fl ck N : Int} {L : List Frm} (x : Int) (h : PoolRaw w S p n fl ck L) (hg : PGood n fl ck N L) (hN : N ≤ 9223372036854775807) (hx : okI x) :
    Calls Try.prog 12 #[.pointer (some ⟨p, 0, none⟩), .int .i64 x] w (UnpinPost S p n fl ck (unpinF L x) w) := by
  have H := Lib.hid h
  unfold unpinF
  cases hfo : frameOf L x with
  | none =>
    have ha := at_none h hx (frameOf_none hfo)
    clear hfo h hg
    go_enter Try.func12, Try.ntmps12
    go_wp2_with fail
    refine ha.mono ?_
    rintro e w' ⟨rfl, rfl⟩
    go_wp2_with fail
    go_ret
    exact ⟨rfl, H.out, Fr.refl _ _⟩
  | some f =>
    obtain ⟨hf, rfl⟩ := frameOf_some hfo
    have ha := at_some h hg hf
    have c0 : w.cell? ⟨f.blk, 0, none⟩ = some (.int .i64 f.pins) := (h.cells hf 0).1
    have f0 := (h.cells hf 0).2
    have hp := hg.pin f hf
    by_cases h0 : f.pins = 0
    · simp only [h0, if_true]
      rw [h0] at c0
      clear hfo h hg hf hp h0
      generalize f.blk = bk at *
      generalize f.page = pg at *
      go_enter Try.func12, Try.ntmps12
      go_wp2_with fail
      refine ha.mono ?_
      rintro e w' ⟨rfl, rfl⟩
      go_wp2_with fail
      go_ret
      exact ⟨rfl, H.out, Fr.refl _ _⟩
    · simp only [h0, if_false]
      obtain ⟨r1, r2⟩ := h.upd hg.nd hf 0 (.int .i64 (f.pins - 1)) (fun f => { f with pins := f.pins - 1 }) (keeps_pins _) rfl
      have R1 := Lib.hid r1
      have R2 := Lib.hid r2
      have hb : (f.pins == 0) = false := by simpa using h0
      have hw : IntKind.i64.wrap (f.pins - 1) = f.pins - 1 := by rw [IntKind.wrap_i64]; omega
      clear hfo h hg hf r1 r2 h0
      generalize f.blk = bk at *
      generalize f.page = pg at *
      generalize f.pins = pn at *
      go_enter Try.func12, Try.ntmps12
      go_wp2_with fail
      refine ha.mono ?_
      rintro e w' ⟨rfl, rfl⟩
      go_wp2_with fail
      go_ret
      exact ⟨rfl, R1.out, R2.out⟩
theorem unpin_nil (x : Int) (w : World) : Calls Try.prog 12 #[.pointer none, .int .i64 x] w fun e w' => e = .returned (.int .i64 6) ∧ w = w' := by
  go_enter Try.func12, Try.ntmps12
  go_wp2_with fail
  refine (at_nil x w).mono ?_
  rintro e w' ⟨rfl, rfl⟩
  go_wp2_with fail
  go_ret
  exact ⟨rfl, rfl⟩

def pinsF (L : List Frm) (x : Int) : Int := match frameOf L x with
  | none => 0
  | some f => f.pins
theorem pins_any {w : World} {S : Nat → Prop} {p n : Nat} {fl ck N : Int} {L : List Frm} (x : Int) (h : PoolRaw w S p n fl ck L) (hg : PGood n fl ck N L) (hx : okI x) :
    Calls Try.prog 10 #[.pointer (some ⟨p, 0, none⟩), .int .i64 x] w fun e w' => e = .returned (.int .i64 (pinsF L x)) ∧ w = w' := by
  unfold pinsF
  cases hfo : frameOf L x with
  | none =>
    have ha := at_none h hx (frameOf_none hfo)
    clear hfo h hg
    go_enter Try.func10, Try.ntmps10
    go_wp2_with fail
    refine ha.mono ?_
    rintro e w' ⟨rfl, rfl⟩
    go_wp2_with fail
    go_ret
    exact ⟨rfl, rfl⟩
  | some f =>
    obtain ⟨hf, rfl⟩ := frameOf_some hfo
    have ha := at_some h hg hf
    have c0 : w.cell? ⟨f.blk, 0, none⟩ = some (.int .i64 f.pins) := (h.cells hf 0).1
    clear hfo h hg hf
    simp only []
    generalize f.blk = bk at *
    generalize f.page = pg at *
    generalize f.pins = pn at *
    go_enter Try.func10, Try.ntmps10
    go_wp2_with fail
    refine ha.mono ?_
    rintro e w' ⟨rfl, rfl⟩
    go_wp2_with fail
    go_ret
    exact ⟨rfl, rfl⟩
theorem pins_nil (x : Int) (w : World) : Calls Try.prog 10 #[.pointer none, .int .i64 x] w fun e w' => e = .returned (.int .i64 0) ∧ w = w' := by
  go_enter Try.func10, Try.ntmps10
  go_wp2_with fail
  refine (at_nil x w).mono ?_
  rintro e w' ⟨rfl, rfl⟩
  go_wp2_with fail
  go_ret
  exact ⟨rfl, rfl⟩

def flushedF (fl x : Int) : Int × Int := if 0 ≤ x ∧ x ≤ 1099511627776 then (0, max fl x) else (1, fl)
def FlushedPost (S : Nat → Prop) (p n : Nat) (ck : Int) (L : List Frm) (r : Int × Int) (w : World) (e : Ending) (w' : World) : Prop := e = .returned (.int .i64 r.1) ∧ PoolRaw w' S p n r.2 ck L ∧ Fr S w w'
theorem flushed_any {w : World} {S : Nat → Prop} {p n : Nat} {fl ck : Int} {L : List Frm} (x : Int) (h : PoolRaw w S p n fl ck L) :
    Calls Try.prog 15 #[.pointer (some ⟨p, 0, none⟩), .int .i64 x] w (FlushedPost S p n ck L (flushedF fl x) w) := by
  have H := Lib.hid h
  unfold flushedF
  by_cases h1 : x < 0
  · rw [if_neg (by omega)]
    clear h
    go_enter Try.func15, Try.ntmps15
    go_wp2_with fail
    go_ret
    exact ⟨rfl, H.out, Fr.refl _ _⟩
  by_cases h2 : 1099511627776 < x
  · rw [if_neg (by omega)]
    clear h
    go_enter Try.func15, Try.ntmps15
    go_wp2_with fail
    go_ret
    exact ⟨rfl, H.out, Fr.refl _ _⟩
  rw [if_pos (by omega)]
  obtain ⟨r1, r2⟩ := h.flush (max fl x)
  obtain ⟨⟨bm, hb, hm, _⟩, _⟩ := h
  have d1 : w.cell? ⟨p, 1, none⟩ = some (.int .i64 fl) := hb.cell 1
  have d2 := hb.frozen 1
  have R1 := Lib.hid r1
  have R2 := Lib.hid r2
  clear hb hm r1 r2
  go_enter Try.func15, Try.ntmps15
  go_wp2_with fail
  go_ret
  exact ⟨rfl, R1.out, R2.out⟩

def dirtyF (L : List Frm) (x lsn : Int) : Int × List Frm :=
  if 1 ≤ lsn ∧ lsn ≤ 1099511627776 then match frameOf L x with
    | none => (6, L)
    | some f => if f.pins = 0 then (7, L) else (0, upd L x fun f => { f with lsn := max f.lsn lsn, first := if f.dirty then f.first else lsn, dirty := true })
  else (1, L)
theorem keeps_lsn (a b : Frm → Int) (c : Frm → Bool) : Keeps fun f => { f with lsn := a f, first := b f, dirty := c f } := fun _ => ⟨rfl, rfl⟩

theorem dirty_any {w : World} {S : Nat → Prop} {p n : Nat} {fl ck N : Int} {L : List Frm} (x lsn : Int) (h : PoolRaw w S p n fl ck L) (hg : PGood n fl ck N L) (hx : okI x) :
    Calls Try.prog 13 #[.pointer (some ⟨p, 0, none⟩), .int .i64 x, .int .i64 lsn] w (UnpinPost S p n fl ck (dirtyF L x lsn) w) := by
  have H := Lib.hid h
  unfold dirtyF
  by_cases h1 : lsn < 1
  · rw [if_neg (by omega)]
    clear h hg
    go_enter Try.func13, Try.ntmps13
    go_wp2_with fail
    go_ret
    exact ⟨rfl, H.out, Fr.refl _ _⟩
  by_cases h2 : 1099511627776 < lsn
  · rw [if_neg (by omega)]
    clear h hg
    go_enter Try.func13, Try.ntmps13
    go_wp2_with fail
    go_ret
    exact ⟨rfl, H.out, Fr.refl _ _⟩
  rw [if_pos (by omega)]
  cases hfo : frameOf L x with
  | none =>
    have ha := at_none h hx (frameOf_none hfo)
    clear hfo h hg
    go_enter Try.func13, Try.ntmps13
    go_wp2_with fail
    refine ha.mono ?_
    rintro e w' ⟨rfl, rfl⟩
    go_wp2_with fail
    go_ret
    exact ⟨rfl, H.out, Fr.refl _ _⟩
  | some f =>
    obtain ⟨hf, rfl⟩ := frameOf_some hfo
    have ha := at_some h hg hf
    have c0 : w.cell? ⟨f.blk, 0, none⟩ = some (.int .i64 f.pins) := (h.cells hf 0).1
    have c1 : w.cell? ⟨f.blk, 1, none⟩ = some (.int .i64 f.lsn) := (h.cells hf 1).1
    have c2 : w.cell? ⟨f.blk, 2, none⟩ = some (.int .i64 f.first) := (h.cells hf 2).1
    have c4 : w.cell? ⟨f.blk, 4, none⟩ = some (.bool f.dirty) := (h.cells hf 4).1
    have f1 := (h.cells hf 1).2
    have f2 := (h.cells hf 2).2
    have f4 := (h.cells hf 4).2
    by_cases h0 : f.pins = 0
    · simp only [h0, if_true]
      rw [h0] at c0
      clear hfo h hg hf h0
      generalize f.blk = bk at *
      generalize f.page = pg at *
      go_enter Try.func13, Try.ntmps13
      go_wp2_with fail
      refine ha.mono ?_
      rintro e w' ⟨rfl, rfl⟩
      go_wp2_with fail
      go_ret
      exact ⟨rfl, H.out, Fr.refl _ _⟩
    · simp only [h0, if_false]
      have hb : (f.pins == 0) = false := by simpa using h0
      cases hd : f.dirty with
      | true =>
        rw [hd] at c4
        have k1 : Keeps fun a : Frm => { a with lsn := max a.lsn lsn } := fun _ => ⟨rfl, rfl⟩
        obtain ⟨r1, r2⟩ := h.upd hg.nd hf 1 (.int .i64 (max f.lsn lsn)) (fun a => { a with lsn := max a.lsn lsn }) k1 rfl
        have e1 : upd L f.page (fun a => { a with lsn := max a.lsn lsn }) = upd L f.page (fun a => { a with lsn := max a.lsn lsn, first := if a.dirty then a.first else lsn, dirty := true }) := by
          unfold upd
          refine List.map_congr_left fun a ha' => ?_
          by_cases e : a.page = f.page
          · rw [if_pos e, if_pos e, page_unique hg.nd ha' hf e]
            simp [hd]
          · rw [if_neg e, if_neg e]
        rw [e1] at r1
        have R1 := Lib.hid r1
        have R2 := Lib.hid r2
        clear hfo h hg hf h0 r1 r2 e1 k1 hd
        generalize f.blk = bk at *
        generalize f.page = pg at *
        generalize f.pins = pn at *
        generalize f.lsn = ls at *
        go_enter Try.func13, Try.ntmps13
        go_wp2_with fail
        refine ha.mono ?_
        rintro e w' ⟨rfl, rfl⟩
        go_wp2_with fail
        go_ret
        exact ⟨rfl, R1.out, R2.out⟩
      | false =>
        rw [hd] at c4
        have k1 : Keeps fun a : Frm => { a with dirty := true } := fun _ => ⟨rfl, rfl⟩
        have k2 : Keeps fun a : Frm => { a with first := lsn } := fun _ => ⟨rfl, rfl⟩
        have k3 : Keeps fun a : Frm => { a with lsn := max a.lsn lsn } := fun _ => ⟨rfl, rfl⟩
        obtain ⟨r1, s1⟩ := h.upd hg.nd hf 4 (.bool true) (fun a => { a with dirty := true }) k1 rfl
        have m1 := upd_mem hf (fun a : Frm => { a with dirty := true })
        obtain ⟨r2, s2⟩ := r1.upd (by rw [upd_pages k1]; exact hg.nd) m1 2 (.int .i64 lsn) (fun a => { a with first := lsn }) k2 rfl
        have m2 := upd_mem m1 (fun a : Frm => { a with first := lsn })
        simp only [] at r2 s2 m2
        rw [upd_upd k1] at r2 m2
        have k12 : Keeps fun a : Frm => { a with dirty := true, first := lsn } := fun _ => ⟨rfl, rfl⟩
        obtain ⟨r3, s3⟩ := r2.upd (by rw [upd_pages k12]; exact hg.nd) m2 1 (.int .i64 (max f.lsn lsn)) (fun a => { a with lsn := max a.lsn lsn }) k3 rfl
        simp only [] at r3 s3
        rw [upd_upd k12] at r3
        have e1 : upd L f.page (fun a => { a with dirty := true, first := lsn, lsn := max a.lsn lsn }) = upd L f.page (fun a => { a with lsn := max a.lsn lsn, first := if a.dirty then a.first else lsn, dirty := true }) := by
          unfold upd
          refine List.map_congr_left fun a ha' => ?_
          by_cases e : a.page = f.page
          · rw [if_pos e, if_pos e, page_unique hg.nd ha' hf e]
            simp [hd]
          · rw [if_neg e, if_neg e]
        rw [e1] at r3
        have R1 := Lib.hid r3
        have R2 := Lib.hid ((s1.trans s2).trans s3)
        clear hfo h hg hf h0 r1 r2 r3 s1 s2 s3 m1 m2 e1 k1 k2 k3 k12 hd
        generalize f.blk = bk at *
        generalize f.page = pg at *
        generalize f.pins = pn at *
        generalize f.lsn = ls at *
        generalize f.first = fi at *
        go_enter Try.func13, Try.ntmps13
        go_wp2_with fail
        refine ha.mono ?_
        rintro e w' ⟨rfl, rfl⟩
        go_wp2_with fail
        go_ret
        exact ⟨rfl, R1.out, R2.out⟩
theorem dirty_nil (x lsn : Int) (w : World) : Calls Try.prog 13 #[.pointer none, .int .i64 x, .int .i64 lsn] w fun e w' => (e = .returned (.int .i64 6) ∨ e = .returned (.int .i64 1)) ∧ w = w' := by
  by_cases h1 : lsn < 1
  · go_enter Try.func13, Try.ntmps13
    go_wp2_with fail
    go_ret
    exact ⟨.inr rfl, rfl⟩
  by_cases h2 : 1099511627776 < lsn
  · go_enter Try.func13, Try.ntmps13
    go_wp2_with fail
    go_ret
    exact ⟨.inr rfl, rfl⟩
  go_enter Try.func13, Try.ntmps13
  go_wp2_with fail
  refine (at_nil x w).mono ?_
  rintro e w' ⟨rfl, rfl⟩
  go_wp2_with fail
  go_ret
  exact ⟨.inl rfl, rfl⟩

def cleanF (fl : Int) (L : List Frm) (x : Int) : Int × Int × Int × List Frm := match frameOf L x with
  | none => (0, 6, fl, L)
  | some f => if f.dirty = true then ((needF fl f.lsn).1, 0, (needF fl f.lsn).2, upd L x fun f => { f with dirty := false }) else (0, 7, fl, L)
def CleanPost (S : Nat → Prop) (p n : Nat) (ck : Int) (r : Int × Int × Int × List Frm) (w : World) (e : Ending) (w' : World) : Prop := e = .returned (.tuple #[.int .i64 r.1, .int .i64 r.2.1]) ∧ PoolRaw w' S p n r.2.2.1 ck r.2.2.2 ∧ Fr S w w'
theorem clean_any {w : World} {S : Nat → Prop} {p n : Nat} {fl ck N : Int} {L : List Frm} (x : Int) (h : PoolRaw w S p n fl ck L) (hg : PGood n fl ck N L) (hx : okI x) :
    Calls Try.prog 14 #[.pointer (some ⟨p, 0, none⟩), .int .i64 x] w (CleanPost S p n ck (cleanF fl L x) w) := by
  have H := Lib.hid h
  unfold cleanF
  cases hfo : frameOf L x with
  | none =>
    have ha := at_none h hx (frameOf_none hfo)
    clear hfo h hg
    go_enter Try.func14, Try.ntmps14
    go_wp2_with fail
    refine ha.mono ?_
    rintro e w' ⟨rfl, rfl⟩
    go_wp2_with fail
    go_ret2
    exact ⟨rfl, H.out, Fr.refl _ _⟩
  | some f =>
    obtain ⟨hf, rfl⟩ := frameOf_some hfo
    have ha := at_some h hg hf
    have c4 : w.cell? ⟨f.blk, 4, none⟩ = some (.bool f.dirty) := (h.cells hf 4).1
    have f4 := (h.cells hf 4).2
    cases hd : f.dirty with
    | false =>
      simp only [hd, Bool.false_eq_true, if_false]
      rw [hd] at c4
      clear hfo h hg hf hd
      generalize f.blk = bk at *
      generalize f.page = pg at *
      go_enter Try.func14, Try.ntmps14
      go_wp2_with fail
      refine ha.mono ?_
      rintro e w' ⟨rfl, rfl⟩
      go_wp2_with fail
      go_ret2
      exact ⟨rfl, H.out, Fr.refl _ _⟩
    | true =>
      simp only [hd, if_true]
      rw [hd] at c4
      have k1 : Keeps fun a : Frm => { a with dirty := false } := fun _ => ⟨rfl, rfl⟩
      obtain ⟨r1, s1⟩ := h.upd hg.nd hf 4 (.bool false) (fun a => { a with dirty := false }) k1 rfl
      have m1 := upd_mem hf (fun a : Frm => { a with dirty := false })
      have hne := need_any r1 m1
      simp only [] at hne
      have S1 := Lib.hid s1
      clear hfo h hg hf r1 s1 m1 k1 hd
      generalize upd L f.page (fun f => { f with dirty := false }) = L2 at *
      generalize f.blk = bk at *
      generalize f.page = pg at *
      generalize needF fl f.lsn = r at *
      go_enter Try.func14, Try.ntmps14
      go_wp2_with fail
      refine ha.mono ?_
      rintro e w' ⟨rfl, rfl⟩
      go_wp2_with fail
      refine hne.mono ?_
      rintro e w2 ⟨rfl, h2, s2⟩
      have HH : Hid (PoolRaw w2 S p n r.2 ck L2 ∧ Fr S w w2) := Lib.hid ⟨h2, S1.out.trans s2⟩
      clear h2 s2
      go_wp2_with fail
      go_ret2
      exact ⟨rfl, HH.out⟩
theorem clean_nil (x : Int) (w : World) : Calls Try.prog 14 #[.pointer none, .int .i64 x] w fun e w' => e = .returned (.tuple #[.int .i64 0, .int .i64 6]) ∧ w = w' := by
  go_enter Try.func14, Try.ntmps14
  go_wp2_with fail
  refine (at_nil x w).mono ?_
  rintro e w' ⟨rfl, rfl⟩
  go_wp2_with fail
  go_ret2
  exact ⟨rfl, rfl⟩
end Go.Proofs.Ytmbabgaanpjmpaa
