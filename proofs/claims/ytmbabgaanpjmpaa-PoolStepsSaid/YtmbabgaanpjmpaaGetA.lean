/- slices.IndexFunc over the pages; Get: the arguments. -/
import Derived.Test.YtmbabgaanpjmpaaPages
namespace Go.Proofs.Ytmbabgaanpjmpaa
open Go.RowKit

theorem free_any {bx : Nat} {W : World} {S : Nat → Prop} {p n : Nat} {fl ck N : Int} {L : List Frm} (h : PoolRaw W S p n fl ck L) (hg : PGood n fl ck N L) {f : Frm} (hf : f ∈ L) (h0 : W.cell? ⟨bx, 0, none⟩ = some (.pointer (some ⟨p, 0, none⟩))) :
    Calls Try.prog 28 #[.int .i64 f.page, .pointer (some ⟨bx, 0, none⟩)] W fun e w' => e = .returned (.bool (f.pins == 0)) ∧ W = w' := by
  have c0 : W.cell? ⟨f.blk, 0, none⟩ = some (.int .i64 f.pins) := (h.cells hf 0).1
  obtain ⟨⟨bm, hb, hm, _⟩, _⟩ := h
  have p1 := hg.pg f hf
  have h1 : W.cell? ⟨p, 3, none⟩ = some (.map (some bm)) := hb.cell 3
  have l1 := hm.run_look elemP Try.underlying3 Try.underlying51 none trivial (zero58 _) (x := f.page) (by unfold okI; omega)
  rw [val_page hg.nd hf] at l1
  have l1' : (Instr.lookup 51 (.map (some bm)) (.int .i64 f.page) false).run Try.prog W = .ok (.pointer (some ⟨f.blk, 0, none⟩)) W := l1
  clear hb hm hg hf p1 l1
  generalize f.page = x at *
  generalize f.blk = fb at *
  generalize f.pins = fp at *
  go_enter Try.func28, Try.ntmps28
  go_wp2_with fail
  go_ret
  exact ⟨rfl, rfl⟩

theorem int_cell {w : World} {S : Nat → Prop} {A : Option Addr} {c : Nat} {xs : List Int} (h : Rd w S 1 A xs.length c (ints xs)) {j : Nat} (hj : j < xs.length) :
    ∃ b off, A = some ⟨b, off, none⟩ ∧ w.cell? ⟨b, off + j, none⟩ = some (.int .i64 xs[j]) := by
  obtain ⟨b, off, u, rfl, _, _, hu, hcu⟩ := h.cell_at hj 0 (by omega)
  simp only [Nat.mul_one, Nat.add_zero] at hu hcu
  have hux : u = .int .i64 xs[j] := by
    simp only [ints, List.getElem?_map, List.getElem?_eq_getElem hj, Option.map_some, Option.some.injEq] at hu
    exact hu.symm
  subst hux
  exact ⟨b, off, rfl, hcu⟩

def freeF (L : List Frm) : Option Nat := L.findIdx? fun f => f.pins == 0
def idxV (o : Option Nat) : Int := match o with
  | none => -1
  | some i => i
theorem index_any {bx : Nat} {W : World} {S : Nat → Prop} {p n : Nat} {fl ck N : Int} {L : List Frm} (h : PoolRaw W S p n fl ck L) (hg : PGood n fl ck N L) (h0 : W.cell? ⟨bx, 0, none⟩ = some (.pointer (some ⟨p, 0, none⟩)))
    {T : Nat → Prop} {A : Option Addr} {c : Nat} (hr : Rd W T 1 A L.length c (ints (L.map (·.page)))) :
    Calls Try.prog 27 #[.slice A L.length c, .func (.func 28) #[] #[.pointer (some ⟨bx, 0, none⟩)]] W fun e w' => e = .returned (.int .i64 (idxV (freeF L))) ∧ W = w' := by
  have hlen : L.length ≤ 64 := by have := hg.len; have := hg.n2; omega
  have hr' : Rd W T 1 A (L.map (·.page)).length c (ints (L.map (·.page))) := by rw [List.length_map]; exact hr
  have H := Lib.hid h
  have HG := Lib.hid hg
  clear h hg hr
  go_enter Try.func27, Try.ntmps27
  go_wp2_with fail
  go_loopg [8] L.length (fun g v8 wr => ∃ j : Nat, j ≤ L.length ∧ g = L.length - j ∧ v8 = .int .i64 j ∧ wr = W ∧ ∀ i (hi : i < L.length), i < j → (L[i].pins == 0) = false)
  case atStart => exact ⟨0, Nat.zero_le _, rfl, rfl, rfl, fun i _ hi => by omega⟩
  case round =>
    obtain ⟨j, hj, rfl, rfl, rfl, hbef⟩ := hrel
    by_cases hjl : j < L.length
    · obtain ⟨b, off, rfl, y0⟩ := int_cell hr' (j := j) (by rw [List.length_map]; exact hjl)
      rw [List.getElem_map] at y0
      have hcl := free_any H.out HG.out (List.getElem_mem hjl) h0
      cases hp : (L[j].pins == 0) with
      | true =>
        have HF : Hid (freeF L = some j) := Lib.hid (by
          unfold freeF
          rw [List.findIdx?_eq_some_iff_getElem]
          exact ⟨hjl, hp, fun i hi => by simpa using hbef i (by omega) hi⟩)
        rw [hp] at hcl
        clear hbef hp
        generalize L[j].page = pg at *
        go_wp2_with fail
        refine hcl.mono ?_
        rintro e w' ⟨rfl, rfl⟩
        go_wp2_with fail
        go_ret
        exact ⟨by rw [HF.out]; rfl, rfl⟩
      | false =>
        have HN : Hid (∀ i (hi : i < L.length), i < j + 1 → (L[i].pins == 0) = false) := Lib.hid (fun i hi hij => by
          by_cases e : i = j
          · subst e; exact hp
          · exact hbef i hi (by omega))
        rw [hp] at hcl
        clear hbef hp
        generalize L[j].page = pg at *
        go_wp2_with fail
        refine hcl.mono ?_
        rintro e w' ⟨rfl, rfl⟩
        go_wp2_with fail
        go_roundg (L.length - (j + 1))
        case measure => omega
        case rel => exact ⟨j + 1, by omega, rfl, by go_num, rfl, HN.out⟩
    · obtain rfl : j = L.length := by omega
      have HF : Hid (freeF L = none) := Lib.hid (by
        unfold freeF
        rw [List.findIdx?_eq_none_iff]
        intro f hf
        obtain ⟨i, hi, rfl⟩ := List.getElem_of_mem hf
        exact hbef i hi hi)
      clear hbef
      go_wp2_with fail
      go_ret
      exact ⟨by rw [HF.out]; rfl, rfl⟩

structure Got where
  hit : Bool
  write : Bool
  out : Int
  need : Int
def gotV (g : Got) : Value := .agg #[.bool g.hit, .bool g.write, .int .i64 g.out, .int .i64 g.need]
def got0 : Got := ⟨false, false, 0, 0⟩

theorem get_bad (q : Option Addr) (x : Int) (w : World) (h : x < 1 ∨ 4096 < x) :
    Calls Try.prog 11 #[.pointer q, .int .i64 x] w fun e w' => e = .returned (.tuple #[gotV got0, .int .i64 1]) ∧ Fr NoB w w' := by
  rcases h with h1 | h1
  · go_enter Try.func11, Try.ntmps11
    go_wp2_with fail
    refine bodyPost_ret (v := .tuple #[gotV got0, .int .i64 1]) (by simp [results, Try.results11, go_sem, gotV, got0]) rfl ⟨rfl, ((Fr.refl _ _).alloc _).alloc _⟩
  · have h2 : ¬ x < 1 := by omega
    go_enter Try.func11, Try.ntmps11
    go_wp2_with fail
    refine bodyPost_ret (v := .tuple #[gotV got0, .int .i64 1]) (by simp [results, Try.results11, go_sem, gotV, got0]) rfl ⟨rfl, ((Fr.refl _ _).alloc _).alloc _⟩
theorem get_nil (x : Int) (w : World) (h1 : 1 ≤ x) (h2 : x ≤ 4096) :
    Calls Try.prog 11 #[.pointer none, .int .i64 x] w fun e w' => e = .returned (.tuple #[gotV got0, .int .i64 5]) ∧ Fr NoB w w' := by
  have d1 : decide (x < 1) = false := decide_eq_false (by omega)
  have d2 : decide (4096 < x) = false := decide_eq_false (by omega)
  go_enter Try.func11, Try.ntmps11
  go_wp2_with fail
  refine bodyPost_ret (v := .tuple #[gotV got0, .int .i64 5]) (by simp [results, Try.results11, go_sem, gotV, got0]) rfl ⟨rfl, ((Fr.refl _ _).alloc _).alloc _⟩
end Go.Proofs.Ytmbabgaanpjmpaa
