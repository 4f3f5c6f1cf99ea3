/- speaks; the steps keep a pool good. -/
import Derived.Test.YtmbabgaanpjmpaaGetD
namespace Go.Proofs.Ytmbabgaanpjmpaa
open Go.RowKit

theorem unpin_good {n : Nat} {fl ck N : Int} {L : List Frm} (h : PGood n fl ck N L) (x : Int) : PGood n fl ck N (unpinF L x).2 := by
  unfold unpinF
  cases hfo : frameOf L x with
  | none => exact h
  | some f =>
    obtain ⟨hf, rfl⟩ := frameOf_some hfo
    simp only []
    split
    · exact h
    · have := h.pin f hf
      exact h.upd hf (keeps_pins _) (fun _ => rfl) ⟨by simp only []; omega, by simp only []; omega⟩ (h.ls f hf) (h.fs f hf)
theorem dirty_good {n : Nat} {fl ck N : Int} {L : List Frm} (h : PGood n fl ck N L) (x lsn : Int) : PGood n fl ck N (dirtyF L x lsn).2 := by
  unfold dirtyF
  split
  · cases hfo : frameOf L x with
    | none => exact h
    | some f =>
      obtain ⟨hf, rfl⟩ := frameOf_some hfo
      simp only []
      split
      · exact h
      · have h1 := h.ls f hf
        have h2 := h.fs f hf
        refine h.upd hf (fun _ => ⟨rfl, rfl⟩) (fun _ => rfl) (h.pin f hf) ⟨by simp only []; omega, by simp only []; omega⟩ ?_
        simp only []
        split
        · exact h2
        · omega
  · exact h
theorem clean_good {n : Nat} {fl ck N : Int} {L : List Frm} (h : PGood n fl ck N L) (x : Int) : PGood n (cleanF fl L x).2.2.1 ck N (cleanF fl L x).2.2.2 := by
  unfold cleanF
  cases hfo : frameOf L x with
  | none => exact h
  | some f =>
    obtain ⟨hf, rfl⟩ := frameOf_some hfo
    simp only []
    split
    · exact (h.upd hf (g := fun f => { f with dirty := false }) (fun _ => ⟨rfl, rfl⟩) (fun _ => rfl) (h.pin f hf) (h.ls f hf) (h.fs f hf)).need (h.ls f hf)
    · exact h
theorem flushed_good {n : Nat} {fl ck N : Int} {L : List Frm} (h : PGood n fl ck N L) (x : Int) : PGood n (flushedF fl x).2 ck N L := by
  have h0 := h.f0
  have h1 := h.f1
  unfold flushedF
  split
  · exact ⟨h.n1, h.n2, h.len, h.pg, h.pin, h.ls, h.fs, h.us, h.srt, h.nd, by simp only []; omega, by simp only []; omega, h.c0, h.c1⟩
  · exact h

theorem get_is {w : World} {S : Nat → Prop} {p n : Nat} {fl ck N : Int} {L : List Frm} (x : Int) (h : PoolRaw w S p n fl ck L) (hg : PGood n fl ck N L) (hN : N + 1 ≤ 9223372036854775807) (hi wr : Bool) (o nd er fl' ck' : Int) (L' : Nat → List Frm)
    (hr : ∀ blk, getF n fl ck L x blk = (⟨hi, wr, o, nd⟩, er, fl', ck', L' blk)) :
    Calls Try.prog 11 #[.pointer (some ⟨p, 0, none⟩), .int .i64 x] w fun e w' => ∃ blk S', e = .returned (.tuple #[.agg #[.bool hi, .bool wr, .int .i64 o, .int .i64 nd], .int .i64 er]) ∧ PoolRaw w' S' p n fl' ck' (L' blk) ∧ PGood n fl' ck' (N + 1) (L' blk) ∧ Fr S w w' ∧ Gr S S' w := by
  refine (get_any x h hg hN).mono ?_
  rintro e w' ⟨blk, S', rfl, h1, h2, h3⟩
  have hgd := getF_good hg x blk
  rw [hr blk] at h1 hgd
  exact ⟨blk, S', by rw [hr blk]; rfl, h1, hgd, h2, h3⟩

set_option maxHeartbeats 2000000 in
set_option maxRecDepth 100000 in
theorem speaks_any (w : World) : Calls Try.prog 8 #[] w fun e w' => e = .returned (.bool true) ∧ Fr NoB w w' := by
  go_enter Try.func8, Try.ntmps8
  go_wp2_with fail
  refine (new_any 1 _).mono ?_
  rintro e w1 (⟨_, _, p, S, hp, rfl, R1, up1, fr1⟩ | ⟨hbad, _⟩)
  rotate_left
  · exact absurd ⟨by omega, by omega⟩ hbad
  have R1' : PoolRaw w1 S p 1 0 0 [] := R1
  have g1 := get_is 1 R1' (PGood.empty (n := 1) (by omega) (by omega)) (by omega) false false 0 0 0 0 1 (fun blk => [⟨1, 1, 0, 0, 1, false, blk⟩]) (fun blk => rfl)
  have H1 := Lib.hid (And.intro up1 fr1)
  clear R1 R1' up1 fr1
  go_wp2_with fail
  refine g1.mono ?_
  rintro e w2 ⟨blk, S2, rfl, R2, G2, f2, gr2⟩
  have up2 : Up w.heap.size S2 := gr2.up H1.out.1 H1.out.2.size
  have H2 := Lib.hid (And.intro up2 (H1.out.2.up f2 H1.out.1))
  have d1 := dirty_any 1 7 (R2.fr ((Fr.refl NoB w2).alloc (.cells #[.bool false, .bool false, .int .i64 0, .int .i64 0] 34)) (fun _ _ h => h)) G2 (by unfold okI; omega)
  have G3 : PGood 1 0 1 1 (dirtyF [⟨1, 1, 0, 0, 1, false, blk⟩] 1 7).2 := dirty_good G2 1 7
  have e3 : dirtyF [⟨1, 1, 0, 0, 1, false, blk⟩] 1 7 = (0, [⟨1, 1, 7, 7, 1, true, blk⟩]) := rfl
  have HA := Lib.hid ((Fr.refl NoB w2).alloc (.cells #[.bool false, .bool false, .int .i64 0, .int .i64 0] 34))
  rw [e3] at d1 G3
  unfold UnpinPost at d1
  simp only [] at d1 G3
  clear R2 G2 f2 gr2 up2 e3 g1 H1
  go_wp2_with fail
  refine d1.mono ?_
  rintro e w3 ⟨rfl, R3, f3⟩
  have u3 := unpin_any 1 R3 G3 (by omega) (by unfold okI; omega)
  have G4 := unpin_good G3 1
  have e4 : unpinF [⟨1, 1, 7, 7, 1, true, blk⟩] 1 = (0, [⟨1, 0, 7, 7, 1, true, blk⟩]) := rfl
  rw [e4] at u3 G4
  unfold UnpinPost at u3
  simp only [] at u3 G4
  have H3 := Lib.hid (And.intro H2.out.1 ((H2.out.2.trans HA.out).up f3 H2.out.1))
  clear R3 G3 f3 e4 d1 H2 HA
  go_wp2_with fail
  refine u3.mono ?_
  rintro e w4 ⟨rfl, R4, f4⟩
  have H4 := Lib.hid (And.intro H3.out.1 (H3.out.2.up f4 H3.out.1))
  have g4 := get_is 2 R4 G4 (by omega) false true 1 7 0 7 2 (fun b2 => [⟨2, 1, 0, 0, 2, false, b2⟩]) (fun b2 => rfl)
  clear R4 G4 f4 u3 H3
  go_wp2_with fail
  refine g4.mono ?_
  rintro e w5 ⟨b5, S5, rfl, R5, G5, f5, gr5⟩
  have up5 : Up w.heap.size S5 := gr5.up H4.out.1 H4.out.2.size
  have f5' : Fr NoB w5 (w5.alloc (.cells #[.bool false, .bool true, .int .i64 1, .int .i64 7] 34)) := (Fr.refl NoB w5).alloc _
  have H5 := Lib.hid (And.intro up5 ((H4.out.2.up f5 H4.out.1).trans f5'))
  have b5n : ¬ S5 w5.heap.size := fun hh => by have := R5.lt _ hh; omega
  have B5 := Lib.hid (Bk.new w5 34 #[.bool false, .bool true, .int .i64 1, .int .i64 7])
  have g6 := get_is 3 (R5.fr f5' (fun _ _ h => h)) G5 (by omega) false false 0 0 5 7 2 (fun _ => [⟨2, 1, 0, 0, 2, false, b5⟩]) (fun b2 => rfl)
  clear R5 G5 f5 gr5 g4 H4 up5 f5'
  go_wp2_with fail
  refine g6.mono ?_
  rintro e w6 ⟨b6, S6, rfl, R6, G6, f6, gr6⟩
  have f6' : Fr NoB w6 (w6.alloc (.cells #[.bool false, .bool false, .int .i64 0, .int .i64 0] 34)) := (Fr.refl NoB w6).alloc _
  have H6 := Lib.hid ((H5.out.2.up f6 H5.out.1).trans f6')
  have p6 := pins_any 2 (R6.fr f6' (fun _ _ h => h)) G6 (by unfold okI; omega)
  have e6 : pinsF [⟨2, 1, 0, 0, 2, false, b5⟩] 2 = 1 := rfl
  rw [e6] at p6
  have B6 := (B5.out.fr f6 b5n).fr f6' (fun h => h)
  have c0 := B6.cell 0
  have c1 := B6.cell 1
  have c2 := B6.cell 2
  have c3 := B6.cell 3
  simp at c0 c1 c2 c3
  clear R6 G6 f6 gr6 f6' g6 H5 B5 B6 b5n e6
  go_wp2_with fail
  refine p6.mono ?_
  rintro e w7 ⟨rfl, rfl⟩
  go_wp2_with fail
  go_ret
  exact ⟨rfl, H6.out⟩
end Go.Proofs.Ytmbabgaanpjmpaa
