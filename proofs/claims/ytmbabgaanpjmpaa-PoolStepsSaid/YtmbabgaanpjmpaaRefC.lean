/- The document's pool: Soil, Clean. -/
import Derived.Test.YtmbabgaanpjmpaaRefB
namespace Go.Proofs.Ytmbabgaanpjmpaa
open Go.RowKit

theorem soil_true_big {w : World} {T : Nat → Prop} {p n : Nat} {fl ck N : Int} {L : List Frm} (l : Int) (h : RP w T p n fl L) (hg : PGood n fl ck N L) (h1 : 1 ≤ l) (h2 : l ≤ 1099511627776) {i : Nat} (hi : i < L.length) (hfi : findF L L[i].page = some i) (hz : ¬ L[i].pins = 0) (hd : L[i].dirty = true) (hb : L[i].lsn < l) :
    Calls Try.prog 32 #[.pointer (some ⟨p, 0, none⟩), .int .i64 L[i].page, .int .i64 l] w fun e w' => e = .returned (.int .i64 0) ∧ RP w' T p n fl (upd L L[i].page fun f => { f with lsn := max f.lsn l, first := if f.dirty then f.first else l, dirty := true }) ∧ Fr T w w' := by
  have hf := find_any L[i].page h
  rw [upd_set hg.nd hi]
  obtain ⟨ft, hft⟩ : ∃ ft : Frm, ft = { L[i] with lsn := max L[i].lsn l, first := if L[i].dirty then L[i].first else l, dirty := true } := ⟨_, rfl⟩
  rw [← hft]
  replace hft := Lib.hid hft
  have hll : L.length ≤ 64 := by have := hg.len; have := hg.n2; omega
  rw [hfi] at hf
  change Calls _ _ _ _ (fun e w' => e = .returned (.int .i64 (i : Int)) ∧ Fr NoB w w') at hf
  have H := Lib.hid h
  have HD := Lib.hid hd
  have hzb : (L[i].pins == 0) = false := by simpa using hz
  have d1 : decide (l < 1) = false := decide_eq_false (by omega)
  have d2 : decide (1099511627776 < l) = false := decide_eq_false (by omega)
  have d3 : decide (L[i].lsn < l) = true := decide_eq_true (by omega)
  have HMX : Hid (max L[i].lsn l = l) := Lib.hid (by omega)
  clear hfi h hg hz hd hb
  generalize hpg : L[i].page = pg at *
  go_enter Try.func32, Try.ntmps32
  go_wp2_with fail
  refine hf.mono ?_
  rintro e w1 ⟨rfl, f1⟩
  obtain ⟨A, c, h1⟩ := (H.out.fr f1 (fun _ _ h => h)).open
  have c2 : w1.cell? ⟨p, 2, none⟩ = some (.slice A L.length c) := h1.bk.cell 2
  obtain ⟨g, rfl, hgl, hcell, hfz⟩ := rc_at h1.ar hi
  have y1 : w1.cell? ⟨g, i * 5 + 1, none⟩ = some (.int .i64 L[i].pins) := hcell 1 _ rfl (by omega)
  have y2 : w1.cell? ⟨g, i * 5 + 2, none⟩ = some (.int .i64 L[i].lsn) := hcell 2 _ rfl (by omega)
  have y3 : w1.cell? ⟨g, i * 5 + 3, none⟩ = some (.int .i64 L[i].first) := hcell 3 _ rfl (by omega)
  have y4 : w1.cell? ⟨g, i * 5 + 4, none⟩ = some (.bool L[i].dirty) := hcell 4 _ rfl (by omega)
  have hne : p ≠ g := h1.ne
  have hne' : g ≠ p := hne.symm
  have s1 := h1.store (j := i) 4 (.bool true) ({ L[i] with dirty := true } : Frm) hi (by omega) (rfl)
  have s2 := s1.1.store (j := i) 2 (.int .i64 l) (ft : Frm) (by simpa using hi) (by omega) (by rw [hft.out]; simp [rc, List.set, HMX.out, HD.out])
  have sE := s2.1.shut
  simp only [List.set_set] at sE
  have HE := Lib.hid (And.intro sE (((f1.mono (fun _ _ h => h.elim)).trans s1.2).trans s2.2))
  clear hcell h1 sE s2 s1
  rw [HD.out] at y4
  go_wp2_with fail
  go_ret
  exact ⟨rfl, HE.out⟩

theorem soil_true_low {w : World} {T : Nat → Prop} {p n : Nat} {fl ck N : Int} {L : List Frm} (l : Int) (h : RP w T p n fl L) (hg : PGood n fl ck N L) (h1 : 1 ≤ l) (h2 : l ≤ 1099511627776) {i : Nat} (hi : i < L.length) (hfi : findF L L[i].page = some i) (hz : ¬ L[i].pins = 0) (hd : L[i].dirty = true) (hb : ¬ L[i].lsn < l) :
    Calls Try.prog 32 #[.pointer (some ⟨p, 0, none⟩), .int .i64 L[i].page, .int .i64 l] w fun e w' => e = .returned (.int .i64 0) ∧ RP w' T p n fl (upd L L[i].page fun f => { f with lsn := max f.lsn l, first := if f.dirty then f.first else l, dirty := true }) ∧ Fr T w w' := by
  have hf := find_any L[i].page h
  rw [upd_set hg.nd hi]
  obtain ⟨ft, hft⟩ : ∃ ft : Frm, ft = { L[i] with lsn := max L[i].lsn l, first := if L[i].dirty then L[i].first else l, dirty := true } := ⟨_, rfl⟩
  rw [← hft]
  replace hft := Lib.hid hft
  have hll : L.length ≤ 64 := by have := hg.len; have := hg.n2; omega
  rw [hfi] at hf
  change Calls _ _ _ _ (fun e w' => e = .returned (.int .i64 (i : Int)) ∧ Fr NoB w w') at hf
  have H := Lib.hid h
  have HD := Lib.hid hd
  have hzb : (L[i].pins == 0) = false := by simpa using hz
  have d1 : decide (l < 1) = false := decide_eq_false (by omega)
  have d2 : decide (1099511627776 < l) = false := decide_eq_false (by omega)
  have d3 : decide (L[i].lsn < l) = false := decide_eq_false (by omega)
  have HMX : Hid (max L[i].lsn l = L[i].lsn) := Lib.hid (by omega)
  clear hfi h hg hz hd hb
  generalize hpg : L[i].page = pg at *
  go_enter Try.func32, Try.ntmps32
  go_wp2_with fail
  refine hf.mono ?_
  rintro e w1 ⟨rfl, f1⟩
  obtain ⟨A, c, h1⟩ := (H.out.fr f1 (fun _ _ h => h)).open
  have c2 : w1.cell? ⟨p, 2, none⟩ = some (.slice A L.length c) := h1.bk.cell 2
  obtain ⟨g, rfl, hgl, hcell, hfz⟩ := rc_at h1.ar hi
  have y1 : w1.cell? ⟨g, i * 5 + 1, none⟩ = some (.int .i64 L[i].pins) := hcell 1 _ rfl (by omega)
  have y2 : w1.cell? ⟨g, i * 5 + 2, none⟩ = some (.int .i64 L[i].lsn) := hcell 2 _ rfl (by omega)
  have y3 : w1.cell? ⟨g, i * 5 + 3, none⟩ = some (.int .i64 L[i].first) := hcell 3 _ rfl (by omega)
  have y4 : w1.cell? ⟨g, i * 5 + 4, none⟩ = some (.bool L[i].dirty) := hcell 4 _ rfl (by omega)
  have hne : p ≠ g := h1.ne
  have hne' : g ≠ p := hne.symm
  have s1 := h1.store (j := i) 4 (.bool true) (ft : Frm) hi (by omega) (by rw [hft.out]; simp [rc, List.set, HMX.out, HD.out])
  have sE := s1.1.shut
  have HE := Lib.hid (And.intro sE ((f1.mono (fun _ _ h => h.elim)).trans s1.2))
  clear hcell h1 sE s1
  rw [HD.out] at y4
  go_wp2_with fail
  go_ret
  exact ⟨rfl, HE.out⟩

theorem soil_false_big {w : World} {T : Nat → Prop} {p n : Nat} {fl ck N : Int} {L : List Frm} (l : Int) (h : RP w T p n fl L) (hg : PGood n fl ck N L) (h1 : 1 ≤ l) (h2 : l ≤ 1099511627776) {i : Nat} (hi : i < L.length) (hfi : findF L L[i].page = some i) (hz : ¬ L[i].pins = 0) (hd : L[i].dirty = false) (hb : L[i].lsn < l) :
    Calls Try.prog 32 #[.pointer (some ⟨p, 0, none⟩), .int .i64 L[i].page, .int .i64 l] w fun e w' => e = .returned (.int .i64 0) ∧ RP w' T p n fl (upd L L[i].page fun f => { f with lsn := max f.lsn l, first := if f.dirty then f.first else l, dirty := true }) ∧ Fr T w w' := by
  have hf := find_any L[i].page h
  rw [upd_set hg.nd hi]
  obtain ⟨ft, hft⟩ : ∃ ft : Frm, ft = { L[i] with lsn := max L[i].lsn l, first := if L[i].dirty then L[i].first else l, dirty := true } := ⟨_, rfl⟩
  rw [← hft]
  replace hft := Lib.hid hft
  have hll : L.length ≤ 64 := by have := hg.len; have := hg.n2; omega
  rw [hfi] at hf
  change Calls _ _ _ _ (fun e w' => e = .returned (.int .i64 (i : Int)) ∧ Fr NoB w w') at hf
  have H := Lib.hid h
  have HD := Lib.hid hd
  have hzb : (L[i].pins == 0) = false := by simpa using hz
  have d1 : decide (l < 1) = false := decide_eq_false (by omega)
  have d2 : decide (1099511627776 < l) = false := decide_eq_false (by omega)
  have d3 : decide (L[i].lsn < l) = true := decide_eq_true (by omega)
  have HMX : Hid (max L[i].lsn l = l) := Lib.hid (by omega)
  clear hfi h hg hz hd hb
  generalize hpg : L[i].page = pg at *
  go_enter Try.func32, Try.ntmps32
  go_wp2_with fail
  refine hf.mono ?_
  rintro e w1 ⟨rfl, f1⟩
  obtain ⟨A, c, h1⟩ := (H.out.fr f1 (fun _ _ h => h)).open
  have c2 : w1.cell? ⟨p, 2, none⟩ = some (.slice A L.length c) := h1.bk.cell 2
  obtain ⟨g, rfl, hgl, hcell, hfz⟩ := rc_at h1.ar hi
  have y1 : w1.cell? ⟨g, i * 5 + 1, none⟩ = some (.int .i64 L[i].pins) := hcell 1 _ rfl (by omega)
  have y2 : w1.cell? ⟨g, i * 5 + 2, none⟩ = some (.int .i64 L[i].lsn) := hcell 2 _ rfl (by omega)
  have y3 : w1.cell? ⟨g, i * 5 + 3, none⟩ = some (.int .i64 L[i].first) := hcell 3 _ rfl (by omega)
  have y4 : w1.cell? ⟨g, i * 5 + 4, none⟩ = some (.bool L[i].dirty) := hcell 4 _ rfl (by omega)
  have hne : p ≠ g := h1.ne
  have hne' : g ≠ p := hne.symm
  have s1 := h1.store (j := i) 3 (.int .i64 l) ({ L[i] with first := l } : Frm) hi (by omega) (rfl)
  have s2 := s1.1.store (j := i) 4 (.bool true) ({ ({ L[i] with first := l } : Frm) with dirty := true } : Frm) (by simpa using hi) (by omega) (by simp [rc, List.set])
  have s3 := s2.1.store (j := i) 2 (.int .i64 l) (ft : Frm) (by simpa using hi) (by omega) (by rw [hft.out]; simp [rc, List.set, HMX.out, HD.out])
  have sE := s3.1.shut
  simp only [List.set_set] at sE
  have HE := Lib.hid (And.intro sE ((((f1.mono (fun _ _ h => h.elim)).trans s1.2).trans s2.2).trans s3.2))
  clear hcell h1 sE s3 s2 s1
  rw [HD.out] at y4
  go_wp2_with fail
  go_ret
  exact ⟨rfl, HE.out⟩

theorem soil_false_low {w : World} {T : Nat → Prop} {p n : Nat} {fl ck N : Int} {L : List Frm} (l : Int) (h : RP w T p n fl L) (hg : PGood n fl ck N L) (h1 : 1 ≤ l) (h2 : l ≤ 1099511627776) {i : Nat} (hi : i < L.length) (hfi : findF L L[i].page = some i) (hz : ¬ L[i].pins = 0) (hd : L[i].dirty = false) (hb : ¬ L[i].lsn < l) :
    Calls Try.prog 32 #[.pointer (some ⟨p, 0, none⟩), .int .i64 L[i].page, .int .i64 l] w fun e w' => e = .returned (.int .i64 0) ∧ RP w' T p n fl (upd L L[i].page fun f => { f with lsn := max f.lsn l, first := if f.dirty then f.first else l, dirty := true }) ∧ Fr T w w' := by
  have hf := find_any L[i].page h
  rw [upd_set hg.nd hi]
  obtain ⟨ft, hft⟩ : ∃ ft : Frm, ft = { L[i] with lsn := max L[i].lsn l, first := if L[i].dirty then L[i].first else l, dirty := true } := ⟨_, rfl⟩
  rw [← hft]
  replace hft := Lib.hid hft
  have hll : L.length ≤ 64 := by have := hg.len; have := hg.n2; omega
  rw [hfi] at hf
  change Calls _ _ _ _ (fun e w' => e = .returned (.int .i64 (i : Int)) ∧ Fr NoB w w') at hf
  have H := Lib.hid h
  have HD := Lib.hid hd
  have hzb : (L[i].pins == 0) = false := by simpa using hz
  have d1 : decide (l < 1) = false := decide_eq_false (by omega)
  have d2 : decide (1099511627776 < l) = false := decide_eq_false (by omega)
  have d3 : decide (L[i].lsn < l) = false := decide_eq_false (by omega)
  have HMX : Hid (max L[i].lsn l = L[i].lsn) := Lib.hid (by omega)
  clear hfi h hg hz hd hb
  generalize hpg : L[i].page = pg at *
  go_enter Try.func32, Try.ntmps32
  go_wp2_with fail
  refine hf.mono ?_
  rintro e w1 ⟨rfl, f1⟩
  obtain ⟨A, c, h1⟩ := (H.out.fr f1 (fun _ _ h => h)).open
  have c2 : w1.cell? ⟨p, 2, none⟩ = some (.slice A L.length c) := h1.bk.cell 2
  obtain ⟨g, rfl, hgl, hcell, hfz⟩ := rc_at h1.ar hi
  have y1 : w1.cell? ⟨g, i * 5 + 1, none⟩ = some (.int .i64 L[i].pins) := hcell 1 _ rfl (by omega)
  have y2 : w1.cell? ⟨g, i * 5 + 2, none⟩ = some (.int .i64 L[i].lsn) := hcell 2 _ rfl (by omega)
  have y3 : w1.cell? ⟨g, i * 5 + 3, none⟩ = some (.int .i64 L[i].first) := hcell 3 _ rfl (by omega)
  have y4 : w1.cell? ⟨g, i * 5 + 4, none⟩ = some (.bool L[i].dirty) := hcell 4 _ rfl (by omega)
  have hne : p ≠ g := h1.ne
  have hne' : g ≠ p := hne.symm
  have s1 := h1.store (j := i) 3 (.int .i64 l) ({ L[i] with first := l } : Frm) hi (by omega) (rfl)
  have s2 := s1.1.store (j := i) 4 (.bool true) (ft : Frm) (by simpa using hi) (by omega) (by rw [hft.out]; simp [rc, List.set, HMX.out, HD.out])
  have sE := s2.1.shut
  simp only [List.set_set] at sE
  have HE := Lib.hid (And.intro sE (((f1.mono (fun _ _ h => h.elim)).trans s1.2).trans s2.2))
  clear hcell h1 sE s2 s1
  rw [HD.out] at y4
  go_wp2_with fail
  go_ret
  exact ⟨rfl, HE.out⟩


theorem refSoil_any {w : World} {T : Nat → Prop} {p n : Nat} {fl ck N : Int} {L : List Frm} (x l : Int) (h : RP w T p n fl L) (hg : PGood n fl ck N L) :
    Calls Try.prog 32 #[.pointer (some ⟨p, 0, none⟩), .int .i64 x, .int .i64 l] w fun e w' => e = .returned (.int .i64 (dirtyF L x l).1) ∧ RP w' T p n fl (dirtyF L x l).2 ∧ Fr T w w' := by
  unfold dirtyF
  by_cases h1 : l < 1
  · rw [if_neg (by omega)]
    have H := Lib.hid h
    clear h hg
    go_enter Try.func32, Try.ntmps32
    go_wp2_with fail
    go_ret
    exact ⟨rfl, H.out, Fr.refl _ _⟩
  by_cases h2 : 1099511627776 < l
  · rw [if_neg (by omega)]
    have H := Lib.hid h
    clear h hg
    go_enter Try.func32, Try.ntmps32
    go_wp2_with fail
    go_ret
    exact ⟨rfl, H.out, Fr.refl _ _⟩
  rw [if_pos (by omega)]
  have hf := find_any x h
  cases hfi : findF L x with
  | none =>
    rw [findF_none hfi]
    rw [hfi] at hf
    change Calls _ _ _ _ (fun e w' => e = .returned (.int .i64 (-1)) ∧ Fr NoB w w') at hf
    have H := Lib.hid h
    clear hfi h hg
    go_enter Try.func32, Try.ntmps32
    go_wp2_with fail
    refine hf.mono ?_
    rintro e w1 ⟨rfl, f1⟩
    go_wp2_with fail
    go_ret
    exact ⟨rfl, H.out.fr f1 (fun _ _ h => h), f1.mono (fun _ _ h => h.elim)⟩
  | some i =>
    obtain ⟨hi, rfl⟩ := findF_some hfi
    rw [frameOf_mem hg.nd (List.getElem_mem hi)]
    simp only []
    by_cases hz : L[i].pins = 0
    · rw [if_pos hz]
      have hll : L.length ≤ 64 := by have := hg.len; have := hg.n2; omega
      rw [hfi] at hf
      change Calls _ _ _ _ (fun e w' => e = .returned (.int .i64 (i : Int)) ∧ Fr NoB w w') at hf
      have H := Lib.hid h
      clear hfi h hg
      generalize hpg : L[i].page = pg at *
      clear hpg
      go_enter Try.func32, Try.ntmps32
      go_wp2_with fail
      refine hf.mono ?_
      rintro e w1 ⟨rfl, f1⟩
      obtain ⟨A, c, h1⟩ := (H.out.fr f1 (fun _ _ h => h)).open
      have c2 : w1.cell? ⟨p, 2, none⟩ = some (.slice A L.length c) := h1.bk.cell 2
      obtain ⟨g, rfl, hgl, hcell, hfz⟩ := rc_at h1.ar hi
      have y1 := hcell 1 _ rfl (by omega)
      rw [hz] at y1
      clear hcell h1 hz
      go_wp2_with fail
      go_ret
      exact ⟨rfl, H.out.fr f1 (fun _ _ h => h), f1.mono (fun _ _ h => h.elim)⟩
    · rw [if_neg hz]
      cases hd : L[i].dirty with
      | true =>
        by_cases hb : L[i].lsn < l
        · exact soil_true_big l h hg (by omega) (by omega) hi hfi hz hd hb
        · exact soil_true_low l h hg (by omega) (by omega) hi hfi hz hd hb
      | false =>
        by_cases hb : L[i].lsn < l
        · exact soil_false_big l h hg (by omega) (by omega) hi hfi hz hd hb
        · exact soil_false_low l h hg (by omega) (by omega) hi hfi hz hd hb

theorem refClean_any {w : World} {T : Nat → Prop} {p n : Nat} {fl ck N : Int} {L : List Frm} (x : Int) (h : RP w T p n fl L) (hg : PGood n fl ck N L) :
    Calls Try.prog 33 #[.pointer (some ⟨p, 0, none⟩), .int .i64 x] w fun e w' => e = .returned (.tuple #[.int .i64 (cleanF fl L x).1, .int .i64 (cleanF fl L x).2.1]) ∧ RP w' T p n (cleanF fl L x).2.2.1 (cleanF fl L x).2.2.2 ∧ Fr T w w' := by
  have hf := find_any x h
  cases hfi : findF L x with
  | none =>
    have hp : cleanF fl L x = (0, 6, fl, L) := by unfold cleanF; rw [findF_none hfi]
    rw [hfi] at hf
    change Calls _ _ _ _ (fun e w' => e = .returned (.int .i64 (-1)) ∧ Fr NoB w w') at hf
    rw [hp]
    have H := Lib.hid h
    clear hp hfi h hg
    go_enter Try.func33, Try.ntmps33
    go_wp2_with fail
    refine hf.mono ?_
    rintro e w1 ⟨rfl, f1⟩
    go_wp2_with fail
    go_ret2
    exact ⟨rfl, H.out.fr f1 (fun _ _ h => h), f1.mono (fun _ _ h => h.elim)⟩
  | some i =>
    obtain ⟨hi, rfl⟩ := findF_some hfi
    have hll : L.length ≤ 64 := by have := hg.len; have := hg.n2; omega
    have hfo := frameOf_mem hg.nd (List.getElem_mem hi)
    rw [hfi] at hf
    change Calls _ _ _ _ (fun e w' => e = .returned (.int .i64 (i : Int)) ∧ Fr NoB w w') at hf
    have H := Lib.hid h
    cases hd : L[i].dirty with
    | false =>
      have hp : cleanF fl L L[i].page = (0, 7, fl, L) := by unfold cleanF; rw [hfo]; simp only []; rw [if_neg (by rw [hd]; decide)]
      rw [hp]
      clear hp hfi h hg hfo
      generalize hpg : L[i].page = pg at *
      clear hpg
      go_enter Try.func33, Try.ntmps33
      go_wp2_with fail
      refine hf.mono ?_
      rintro e w1 ⟨rfl, f1⟩
      obtain ⟨A, c, h1⟩ := (H.out.fr f1 (fun _ _ h => h)).open
      have c2 : w1.cell? ⟨p, 2, none⟩ = some (.slice A L.length c) := h1.bk.cell 2
      obtain ⟨g, rfl, hgl, hcell, hfz⟩ := rc_at h1.ar hi
      have y4 : w1.cell? ⟨g, i * 5 + 4, none⟩ = some (.bool L[i].dirty) := hcell 4 _ rfl (by omega)
      rw [hd] at y4
      clear hcell h1 hd
      go_wp2_with fail
      go_ret2
      exact ⟨rfl, H.out.fr f1 (fun _ _ h => h), f1.mono (fun _ _ h => h.elim)⟩
    | true =>
      have hp : cleanF fl L L[i].page = ((needF fl L[i].lsn).1, 0, (needF fl L[i].lsn).2, L.set i { L[i] with dirty := false }) := by
        unfold cleanF
        rw [hfo]
        simp only []
        rw [if_pos hd, upd_set hg.nd hi]
      rw [hp]
      clear hp hfi h hg hfo
      generalize hpg : L[i].page = pg at *
      go_enter Try.func33, Try.ntmps33
      go_wp2_with fail
      refine hf.mono ?_
      rintro e w1 ⟨rfl, f1⟩
      obtain ⟨A, c, h1⟩ := (H.out.fr f1 (fun _ _ h => h)).open
      have c2 : w1.cell? ⟨p, 2, none⟩ = some (.slice A L.length c) := h1.bk.cell 2
      obtain ⟨g, rfl, hgl, hcell, hfz⟩ := rc_at h1.ar hi
      have y2 : w1.cell? ⟨g, i * 5 + 2, none⟩ = some (.int .i64 L[i].lsn) := hcell 2 _ rfl (by omega)
      have y4 : w1.cell? ⟨g, i * 5 + 4, none⟩ = some (.bool L[i].dirty) := hcell 4 _ rfl (by omega)
      have hst := h1.store (j := i) 4 (.bool false) { L[i] with dirty := false } hi (by omega) rfl
      have hnd := refNeed_any L[i].lsn hst.1.shut
      have HF := Lib.hid ((f1.mono (fun _ _ h => h.elim)).trans hst.2)
      have hne : p ≠ g := h1.ne
      have hne' : g ≠ p := hne.symm
      rw [hd] at y4
      clear hcell h1 hd hst hpg
      go_wp2_with fail
      refine hnd.mono ?_
      rintro e w3 ⟨rfl, r3, f3⟩
      have H3 := Lib.hid (And.intro r3 (HF.out.trans f3))
      clear r3 f3 hnd
      go_wp2_with fail
      go_ret2
      exact ⟨rfl, H3.out⟩
end Go.Proofs.Ytmbabgaanpjmpaa
