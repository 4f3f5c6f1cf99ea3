/- Lists of structs of three ints that came in. -/
import Derived.Test.YtmbabgaanpjmpaaSpeaks
import Derived.Test.YtmbabgaanpjmpaaLawFrame
import Derived.Test.YtmbabgaanpjmpaaMid
namespace Go.Proofs.Ytmbabgaanpjmpaa
open Go.ChangeShapes Go.WideShapes Go.ChangeAt Go.RowKit Go.Deep

structure Step3 where
  kind : Int
  a : Int
  b : Int
def Step3.ok (s : Step3) : Prop := okI s.kind ∧ okI s.a ∧ okI s.b

def scells (s : Step3) : List Value := [.int .i64 s.kind, .int .i64 s.a, .int .i64 s.b]
def StepsIn (w : World) (N : Nat) (A : Option Addr) (c : Nat) (ss : List Step3) : Prop := Rd w (fun k => k < N) 3 A ss.length c (ss.map scells).flatten ∧ ∀ s ∈ ss, s.ok

theorem StepsIn.fr {w w1 : World} {N : Nat} {A : Option Addr} {c : Nat} {ss : List Step3} (h : StepsIn w N A c ss) (hf : Fr NoB w w1) : StepsIn w1 N A c ss := ⟨Rd.fr h.1 hf (fun _ _ _ h => h), h.2⟩

theorem StepsIn.step {w : World} {N : Nat} {A : Option Addr} {c : Nat} {ss : List Step3} (h : StepsIn w N A c ss) {k : Nat} (hk : k < ss.length) :
    ∃ b off x y z, ss[k]? = some ⟨x, y, z⟩ ∧ A = some ⟨b, off, none⟩ ∧ w.cell? ⟨b, off + k * 3, none⟩ = some (.int .i64 x) ∧ w.cell? ⟨b, off + k * 3 + 1, none⟩ = some (.int .i64 y) ∧ w.cell? ⟨b, off + k * 3 + 2, none⟩ = some (.int .i64 z) ∧ okI x ∧ okI y ∧ okI z := by
  obtain ⟨b, off, rfl, _, _, hat⟩ := h.1.spot (by omega) (by omega)
  have h2 : ∀ cs ∈ ss.map scells, cs.length = 3 := by
    intro cs hcs
    obtain ⟨m, _, rfl⟩ := List.mem_map.1 hcs
    rfl
  have cell : ∀ i u, (scells ss[k])[i]? = some u → i < 3 → w.cell? ⟨b, off + (k * 3 + i), none⟩ = some u := by
    intro i u hu hi
    have := hat (k * 3 + i) u (by rw [flat_get (cs := scells ss[k]) h2 (by simp [hk]) hi]; exact hu)
    rwa [addr_lit] at this
  obtain ⟨o1, o2, o3⟩ := h.2 _ (List.getElem_mem hk)
  exact ⟨b, off, _, _, _, List.getElem?_eq_getElem hk, rfl, cell 0 _ rfl (by omega), cell 1 _ rfl (by omega), cell 2 _ rfl (by omega), o1, o2, o3⟩

theorem scells3 : Try.prog.cellsOf 3 = 1 := by kernel_rfl

/-- A slice of such structs that was read. -/
theorem steps_in {H : Type} {enc : TypeId × Value → H} {w : World} {base : Nat} {spare : Nat → Bool} {held : Bool} {fuel : Nat} {cs : List Value} {x : DataW H × List MemPlace} {T E : TypeId} (hT : Try.prog.underlying T = some (.slice E))
    (hE : ∀ {base : Nat} {spare : Nat → Bool} {held : Bool} {n : Nat} {cs : List Value} {x : DataW H × List MemPlace}, DataW.trod enc Try.prog w base spare held n E cs = some x → cs.length = 3 → ∃ p : Step3, cs = scells p ∧ p.ok) (hc : Try.prog.cellsOf E = 3)
    (h : DataW.trod enc Try.prog w base spare held fuel T cs = some x) :
    ∃ A c, ∃ ss : List Step3, cs = [.slice A ss.length c] ∧ StepsIn w w.heap.size A c ss := by
  rcases open_slice hT h with ⟨rfl, _⟩ | ⟨a, len, cap, m, n, D, Pl, rfl, _, hl, hm, hmm, _, hx⟩
  · exact ⟨none, 0, [], rfl, Rd.none_ _ _ _, fun s hs => by simp at hs⟩
  · have hlm : len ≤ m := by rw [hmm]; split <;> omega
    rw [hc] at hx
    have hex : ∀ i, i < len → ∃ p : Step3, (∀ j u, (scells p)[j]? = some u → w.cell? (a.add (i * 3 + j)) = some u) ∧ p.ok := fun i hi => by
      obtain ⟨cs', hc', ht⟩ := hx i (by omega)
      obtain ⟨_, hcl, hat⟩ := World.cells?_some hc'
      obtain ⟨p, rfl, hok⟩ := hE ht hcl
      refine ⟨p, fun j u hu => ?_, hok⟩
      have hj : j < 3 := by
        have := (List.getElem?_eq_some_iff.1 hu).1
        simpa [scells] using this
      rw [← Go.Deep.add_add, hat j hj]
      exact hu
    haveI : Inhabited Step3 := ⟨⟨0, 0, 0⟩⟩
    obtain ⟨f, hf⟩ := choose_lt (α := Step3) hex
    have hbl : ((List.range len).map f).length = len := by simp
    have h2 : ∀ cs ∈ ((List.range len).map f).map scells, cs.length = 3 := by
      intro cs hcs
      obtain ⟨m, _, rfl⟩ := List.mem_map.1 hcs
      rfl
    refine ⟨some a, cap, (List.range len).map f, by rw [hbl], ?_, fun s hs => ?_⟩
    rotate_left
    · obtain ⟨i, hi, rfl⟩ := List.mem_map.1 hs
      exact (hf i (List.mem_range.1 hi)).2
    refine ⟨by rw [flat_len h2, List.length_map], by rw [hbl]; exact hl, hm, (fun h => by cases h), fun a' ha h0 => ?_⟩
    cases ha
    rw [hbl] at h0
    have hcell : ∀ j u, (((List.range len).map f).map scells).flatten[j]? = some u → w.cell? (a.add j) = some u := by
      intro j u hu
      have hj : j < len * 3 := by
        have := (List.getElem?_eq_some_iff.1 hu).1
        rw [flat_len h2] at this
        simpa using this
      have hi : j / 3 < len := by omega
      have e : j = j / 3 * 3 + j % 3 := by omega
      rw [e] at hu ⊢
      rw [flat_get (cs := scells (f (j / 3))) h2 (by simp [hi]) (by omega)] at hu
      exact (hf (j / 3) hi).1 _ _ hu
    have hb : a.block < w.heap.size := by
      have := World.block_lt_of_cell? w _ ((hf 0 h0).1 0 _ rfl)
      rwa [addr_block] at this
    exact ⟨hb, hb, hcell⟩
theorem int_read {H : Type} {enc : TypeId × Value → H} {w : World} {base : Nat} {spare : Nat → Bool} {held : Bool} {n : Nat} {c : Value} {y : DataW H × List MemPlace} (g : DataW.trod enc Try.prog w base spare held n 3 [c] = some y) : ∃ z, c = .int .i64 z ∧ okI z := by
  obtain ⟨z, e0, _, hw⟩ := DataW.trod_int Try.underlying3 g
  simp only [List.cons.injEq, and_true] at e0
  exact ⟨z, e0, wf_okI hw⟩
theorem step29 {H : Type} {enc : TypeId × Value → H} {w : World} {base : Nat} {spare : Nat → Bool} {held : Bool} {n : Nat} {cs : List Value} {x : DataW H × List MemPlace} (h : DataW.trod enc Try.prog w base spare held n 29 cs = some x) (hl : cs.length = 3) : ∃ p : Step3, cs = scells p ∧ p.ok := by
  obtain ⟨ys, n', hn', hy, hlen, hyl, hf⟩ := DataW.trod_struct Try.underlying29 h
  match cs, hl with
  | [c0, c1, c2], _ =>
    match ys, hyl with
    | [y0, y1, y2], _ =>
      obtain ⟨z0, e0, o0⟩ := int_read (enc := enc) (w := w) (base := base) (spare := spare) (held := held) (n := n') (c := c0) (y := y0) (by simpa [scells3] using hf 0 _ rfl)
      obtain ⟨z1, e1, o1⟩ := int_read (enc := enc) (w := w) (base := base) (spare := spare) (held := held) (n := n') (c := c1) (y := y1) (by simpa [scells3] using hf 1 _ rfl)
      obtain ⟨z2, e2, o2⟩ := int_read (enc := enc) (w := w) (base := base) (spare := spare) (held := held) (n := n') (c := c2) (y := y2) (by simpa [scells3] using hf 2 _ rfl)
      subst e0 e1 e2
      exact ⟨⟨z0, z1, z2⟩, rfl, o0, o1, o2⟩
theorem step29_cells : Try.prog.cellsOf 29 = 3 := by kernel_rfl
end Go.Proofs.Ytmbabgaanpjmpaa
