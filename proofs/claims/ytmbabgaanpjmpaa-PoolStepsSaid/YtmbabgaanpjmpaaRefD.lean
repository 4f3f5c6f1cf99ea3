/- Oldest, twice; the document's Pages; Ints. -/
import Derived.Test.YtmbabgaanpjmpaaRefC
namespace Go.Proofs.Ytmbabgaanpjmpaa
open Go.RowKit

theorem IL.keep {w W : World} {A : Option Addr} {c : Nat} {xs : List Int} {o : Obj} (h : IL w A c xs W) : IL w A c xs (W.alloc o) := ⟨h.arr.fr ((Fr.refl NoB _).alloc _) (fun _ _ h => h), h.new, h.fr.alloc _⟩
def oldS (s : Int × Bool) (f : Frm) : Int × Bool := if f.dirty = true ∧ (s.2 = false ∨ f.first < s.1) then (f.first, true) else s
def oldF (L : List Frm) : Int × Bool := L.foldl oldS (0, false)
theorem old_take {L : List Frm} {j : Nat} (hj : j < L.length) : (L.take (j + 1)).foldl oldS (0, false) = oldS ((L.take j).foldl oldS (0, false)) L[j] := by
  rw [List.take_succ_eq_append_getElem hj, List.foldl_append]
  rfl

set_option maxHeartbeats 2000000 in
theorem refOldest_any {w : World} {T : Nat → Prop} {p n : Nat} {fl : Int} {L : List Frm} (h : RP w T p n fl L) (hll : L.length ≤ 64) :
    Calls Try.prog 19 #[.pointer (some ⟨p, 0, none⟩)] w fun e w' => e = .returned (.tuple #[.int .i64 (oldF L).1, .bool (oldF L).2]) ∧ Fr NoB w w' := by
  obtain ⟨A, c, h1⟩ := h.open
  have c2 : w.cell? ⟨p, 2, none⟩ = some (.slice A L.length c) := h1.bk.cell 2
  have HA := Lib.hid h1.ar
  clear h h1
  go_enter Try.func19, Try.ntmps19
  go_wp2_with fail
  go_loopg [4, 5, 13] L.length (fun g v4 v5 v13 wr => ∃ (j : Nat) (l : Int) (t : Bool), j ≤ L.length ∧ g = L.length - j ∧ v4 = .int .i64 l ∧ v5 = .bool t ∧ v13 = .int .i64 j ∧ Fr NoB w wr ∧ (L.take j).foldl oldS (0, false) = (l, t))
  case atStart => exact ⟨0, 0, false, Nat.zero_le _, rfl, rfl, rfl, rfl, Fr.refl _ _, rfl⟩
  case round =>
    obtain ⟨j, l, t, hj, rfl, rfl, rfl, rfl, hfr, hst⟩ := hrel
    by_cases hjl : j < L.length
    · obtain ⟨g, rfl, hgl, hcell, _⟩ := rc_at (HA.out.fr hfr (fun _ _ h => h)) hjl
      have y0 := hcell 0 _ rfl (by omega)
      have y1 := hcell 1 _ rfl (by omega)
      have y2 := hcell 2 _ rfl (by omega)
      have y3 := hcell 3 _ rfl (by omega)
      have y4 := hcell 4 _ rfl (by omega)
      simp only [Nat.add_zero] at y0
      have HF := Lib.hid hfr
      have hst := (old_take hjl).trans (by rw [hst])
      clear hcell hfr
      cases hd : L[j].dirty with
      | false =>
        have HO := Lib.hid (hst.trans (by unfold oldS; rw [hd]; simp) : (L.take (j + 1)).foldl oldS (0, false) = (l, t))
        rw [hd] at y4
        clear hst
        go_wp2_with fail
        go_roundg (L.length - (j + 1))
        case measure => omega
        case rel => exact ⟨j + 1, l, t, by omega, rfl, rfl, rfl, by go_num, HF.out.alloc _, HO.out⟩
      | true =>
        rw [hd] at y4
        cases t with
        | false =>
          have HO := Lib.hid (hst.trans (by unfold oldS; rw [hd]; simp) : (L.take (j + 1)).foldl oldS (0, false) = (L[j].first, true))
          clear hst
          go_wp2_with fail
          go_roundg (L.length - (j + 1))
          case measure => omega
          case rel => exact ⟨j + 1, _, true, by omega, rfl, rfl, rfl, by go_num, HF.out.alloc _, HO.out⟩
        | true =>
          by_cases hlt : L[j].first < l
          · have HO := Lib.hid (hst.trans (by unfold oldS; rw [hd]; simp [hlt]) : (L.take (j + 1)).foldl oldS (0, false) = (L[j].first, true))
            have d1 : decide (L[j].first < l) = true := decide_eq_true hlt
            clear hst hlt
            go_wp2_with fail
            go_roundg (L.length - (j + 1))
            case measure => omega
            case rel => exact ⟨j + 1, _, true, by omega, rfl, rfl, rfl, by go_num, HF.out.alloc _, HO.out⟩
          · have HO := Lib.hid (hst.trans (by unfold oldS; rw [hd]; simp [hlt]) : (L.take (j + 1)).foldl oldS (0, false) = (l, true))
            have d1 : decide (L[j].first < l) = false := decide_eq_false hlt
            clear hst hlt
            go_wp2_with fail
            go_roundg (L.length - (j + 1))
            case measure => omega
            case rel => exact ⟨j + 1, _, true, by omega, rfl, rfl, rfl, by go_num, HF.out.alloc _, HO.out⟩
    · obtain rfl : j = L.length := by omega
      rw [List.take_length] at hst
      have HX : Hid (oldF L = (l, t)) := Lib.hid hst
      clear hst
      go_wp2_with fail
      go_ret2
      rw [HX.out]
      exact ⟨rfl, hfr⟩

set_option maxHeartbeats 2000000 in
theorem oldest_any {w : World} {S : Nat → Prop} {p n : Nat} {fl ck N : Int} {L : List Frm} (h : PoolRaw w S p n fl ck L) (hg : PGood n fl ck N L) :
    Calls Try.prog 16 #[.pointer (some ⟨p, 0, none⟩)] w fun e w' => e = .returned (.tuple #[.int .i64 (oldF L).1, .bool (oldF L).2]) ∧ Fr NoB w w' := by
  have hpa := pages_any h hg
  have hll : L.length ≤ 64 := by have := hg.len; have := hg.n2; omega
  have H := Lib.hid h
  have HG := Lib.hid hg
  clear h hg
  go_enter Try.func16, Try.ntmps16
  go_wp2_with fail
  refine hpa.mono ?_
  rintro e w1 ⟨A, c, rfl, arr, _, f1⟩
  have HR := Lib.hid (H.out.fr f1 (fun _ _ h => h))
  have HA := Lib.hid arr
  have HF1 := Lib.hid f1
  clear arr f1 hpa
  go_wp2_with fail
  go_loopg [4, 5, 12] L.length (fun g v4 v5 v12 wr => ∃ (j : Nat) (l : Int) (t : Bool), j ≤ L.length ∧ g = L.length - j ∧ v4 = .int .i64 l ∧ v5 = .bool t ∧ v12 = .int .i64 j ∧ wr = w1 ∧ (L.take j).foldl oldS (0, false) = (l, t))
  case atStart => exact ⟨0, 0, false, Nat.zero_le _, rfl, rfl, rfl, rfl, rfl, rfl⟩
  case round =>
    obtain ⟨j, l, t, hj, rfl, rfl, rfl, rfl, rfl, hst⟩ := hrel
    by_cases hjl : j < L.length
    · obtain ⟨b1, off1, hA, y⟩ := int_cell (xs := L.map (·.page)) (by rw [List.length_map]; exact HA.out.rd) (j := j) (by rw [List.length_map]; exact hjl)
      rw [List.getElem_map] at y
      have hf := List.getElem_mem hjl
      obtain ⟨⟨bm, hb, hm, _⟩, _⟩ := HR.out
      have c3 : wr.cell? ⟨p, 3, none⟩ = some (.map (some bm)) := hb.cell 3
      have hpg := HG.out.pg _ hf
      have hl := hm.run_look elemP Try.underlying3 Try.underlying51 none trivial (zero58 wr) (x := L[j].page) (by unfold okI; omega)
      rw [val_page HG.out.nd hf] at hl
      have hl' : (Instr.lookup 51 (.map (some bm)) (.int .i64 L[j].page) false).run Try.prog wr = .ok (.pointer (some ⟨L[j].blk, 0, none⟩)) wr := hl
      have y2 : wr.cell? ⟨L[j].blk, 2, none⟩ = some (.int .i64 L[j].first) := (HR.out.cells hf 2).1
      have y4 : wr.cell? ⟨L[j].blk, 4, none⟩ = some (.bool L[j].dirty) := (HR.out.cells hf 4).1
      have hst := (old_take hjl).trans (by rw [hst])
      clear hb hm hl hf hpg
      subst hA
      cases hd : L[j].dirty with
      | false =>
        have HO := Lib.hid (hst.trans (by unfold oldS; rw [hd]; simp) : (L.take (j + 1)).foldl oldS (0, false) = (l, t))
        rw [hd] at y4
        clear hst
        go_wp2_with fail
        go_roundg (L.length - (j + 1))
        case measure => omega
        case rel => exact ⟨j + 1, l, t, by omega, rfl, rfl, rfl, by go_num, rfl, HO.out⟩
      | true =>
        rw [hd] at y4
        cases t with
        | false =>
          have HO := Lib.hid (hst.trans (by unfold oldS; rw [hd]; simp) : (L.take (j + 1)).foldl oldS (0, false) = (L[j].first, true))
          clear hst
          go_wp2_with fail
          go_roundg (L.length - (j + 1))
          case measure => omega
          case rel => exact ⟨j + 1, _, true, by omega, rfl, rfl, rfl, by go_num, rfl, HO.out⟩
        | true =>
          by_cases hlt : L[j].first < l
          · have HO := Lib.hid (hst.trans (by unfold oldS; rw [hd]; simp [hlt]) : (L.take (j + 1)).foldl oldS (0, false) = (L[j].first, true))
            have d1 : decide (L[j].first < l) = true := decide_eq_true hlt
            clear hst hlt
            go_wp2_with fail
            go_roundg (L.length - (j + 1))
            case measure => omega
            case rel => exact ⟨j + 1, _, true, by omega, rfl, rfl, rfl, by go_num, rfl, HO.out⟩
          · have HO := Lib.hid (hst.trans (by unfold oldS; rw [hd]; simp [hlt]) : (L.take (j + 1)).foldl oldS (0, false) = (l, true))
            have d1 : decide (L[j].first < l) = false := decide_eq_false hlt
            clear hst hlt
            go_wp2_with fail
            go_roundg (L.length - (j + 1))
            case measure => omega
            case rel => exact ⟨j + 1, _, true, by omega, rfl, rfl, rfl, by go_num, rfl, HO.out⟩
    · obtain rfl : j = L.length := by omega
      rw [List.take_length] at hst
      have HX : Hid (oldF L = (l, t)) := Lib.hid hst
      clear hst
      go_wp2_with fail
      go_ret2
      rw [HX.out]
      exact ⟨rfl, HF1.out⟩

set_option maxHeartbeats 2000000 in
theorem refPages_any {w : World} {T : Nat → Prop} {p n : Nat} {fl : Int} {L : List Frm} (h : RP w T p n fl L) (hll : L.length ≤ 64) :
    Calls Try.prog 21 #[.pointer (some ⟨p, 0, none⟩)] w (PagesPost L w) := by
  obtain ⟨i0, hi0, hz0, hz1, hz2⟩ := info_parts info3
  obtain ⟨A0, c0, h1⟩ := h.open
  have c2 : w.cell? ⟨p, 2, none⟩ = some (.slice A0 L.length c0) := h1.bk.cell 2
  have HA := Lib.hid h1.ar
  clear h h1
  go_enter Try.func21, Try.ntmps21
  go_wp2_with fail
  go_loopg [3, 11] L.length (fun g v3 v11 W => ∃ (j : Nat) (B : Option Addr) (d : Nat), j ≤ L.length ∧ g = L.length - j ∧ v3 = .slice B (L.map (·.page) |>.take j).length d ∧ v11 = .int .i64 j ∧ IL w B d (L.map (·.page) |>.take j) W)
  case atStart => exact ⟨0, none, 0, Nat.zero_le _, rfl, rfl, rfl, ⟨Arr.none_ _ _ _, fun k hk => (InB.none_ k hk).elim, Fr.refl _ _⟩⟩
  case round =>
    obtain ⟨j, B, d, hj, rfl, rfl, rfl, hIL⟩ := hrel
    by_cases hjl : j < L.length
    · obtain ⟨g, rfl, hgl, hcell, _⟩ := rc_at (HA.out.fr hIL.fr (fun _ _ h => h)) hjl
      have y0 := hcell 0 _ rfl (by omega)
      have y1 := hcell 1 _ rfl (by omega)
      have y2 := hcell 2 _ rfl (by omega)
      have y3 := hcell 3 _ rfl (by omega)
      have y4 := hcell 4 _ rfl (by omega)
      simp only [Nat.add_zero] at y0
      have htk : (L.map (·.page)).take (j + 1) = (L.map (·.page)).take j ++ [L[j].page] := by
        rw [List.take_succ_eq_append_getElem (by rw [List.length_map]; exact hjl), List.getElem_map]
      have HTK := Lib.hid htk
      have hxl : ((L.map (·.page)).take j).length ≤ 64 := by rw [List.length_take, List.length_map]; omega
      have HIL := Lib.hid (hIL.keep (o := .cells (rc L[j]).toArray 72))
      have HARG := Lib.hid (HIL.out.arg L[j].page)
      clear hIL htk hcell
      generalize (L.map (·.page)).take j = xs at *
      simp only [rc] at HIL HARG
      have ez : (wr.alloc (.cells #[.int .i64 L[j].page, .int .i64 L[j].pins, .int .i64 L[j].lsn, .int .i64 L[j].first, .bool L[j].dirty] 72)).heap.size = wr.heap.size + 1 := by simp
      rw [ez] at HARG
      clear ez
      go_wp2_with (at_builtin; refine wpList_append_arr _ rfl _ _ 30 rfl 3 i0 _ 1 8 Try.underlying30 hi0 hz0 hz1 hz2 rfl B xs.length d (ints xs) rfl HARG.out.1 _ (some ⟨_, 0, none⟩) 1 1 [.int .i64 L[j].page] rfl HARG.out.2 (by intro u hu; simp at hu; subst hu; rfl) (by simp only [maxLen]; omega) (by omega) ?_; intro B3 d3 w5 ha5 hf5 hin5 _)
      have HNX := Lib.hid (HIL.out.put ha5 hf5 hin5)
      clear ha5 hf5 hin5
      go_wp2_with fail
      go_roundg (L.length - (j + 1))
      case measure => omega
      case rel => exact ⟨j + 1, B3, d3, by omega, rfl, by rw [HTK.out, List.length_append]; rfl, by go_num, by rw [HTK.out]; exact HNX.out⟩
    · obtain rfl : j = L.length := by omega
      have hte : (L.map (·.page)).take L.length = L.map (·.page) := List.take_of_length_le (by simp)
      rw [hte] at hIL ⊢
      have HIL := Lib.hid hIL
      rw [List.length_map]
      clear hIL hte
      go_wp2_with fail
      go_ret
      exact ⟨B, d, rfl, by have := HIL.out.arr; rwa [List.length_map] at this, HIL.out.new, HIL.out.fr⟩
theorem ints_same {S T : Nat → Prop} {A B : Option Addr} {c d : Nat} {xs : List Int} (w : World) (h : Rd w S 1 A xs.length c (ints xs)) (h' : Rd w T 1 B xs.length d (ints xs)) :
    Calls Try.prog 20 #[.slice A xs.length c, .slice B xs.length d] w fun e w' => e = .returned (.bool true) ∧ ∃ n, w' = w.drewN n := by
  have hl : xs.length ≤ 9223372036854775807 := by have := h.2.1; have := h.2.2.1; simp only [maxLen] at this; omega
  go_enter Try.func20, Try.ntmps20
  go_wp2_with fail
  go_loopg [13] xs.length (fun g v13 wr => ∃ j n : Nat, j ≤ xs.length ∧ g = xs.length - j ∧ v13 = .int .i64 j ∧ wr = w.drewN n)
  case atStart => exact ⟨0, 0, Nat.zero_le _, rfl, rfl, rfl⟩
  case round =>
    obtain ⟨j, n, hj, rfl, rfl, rfl⟩ := hrel
    by_cases hjl : j < xs.length
    · obtain ⟨b, off, rfl, c0⟩ := int_cell h hjl
      obtain ⟨b', off', rfl, c1⟩ := int_cell h' hjl
      generalize xs[j] = x at *
      have i0 : (j : Int) < (xs.length : Int) := by omega
      go_wp2_with fail
      go_quiet (fail)
      go_wp2_with fail
      go_roundg (xs.length - (j + 1))
      case measure => omega
      case rel => exact ⟨j + 1, _, by omega, rfl, by go_num, by first | rfl | assumption⟩
    · obtain rfl : j = xs.length := by omega
      go_wp2_with fail
      go_ret
      exact ⟨rfl, n, rfl⟩
end Go.Proofs.Ytmbabgaanpjmpaa
