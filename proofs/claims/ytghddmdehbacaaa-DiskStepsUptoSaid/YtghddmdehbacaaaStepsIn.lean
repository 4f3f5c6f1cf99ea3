/- A list of steps that came in. -/
import Derived.Test.YtghddmdehbacaaaSpeaks
import Derived.Test.YtghddmdehbacaaaLawUpto
import Derived.Test.YtghddmdehbacaaaLawFrame
namespace Go.Proofs.Ytghddmdehbacaaa
open Go.ChangeShapes Go.WideShapes Go.ChangeAt Go.RowKit Go.Deep

structure StepS where
  kind : Int
  a : Int
  c : Int
  b : List UInt8

def StepCells (w : World) (N : Nat) (cs : List Value) (s : StepS) : Prop :=
  ∃ A c, cs = [.int .i64 s.kind, .int .i64 s.a, .int .i64 s.c, .slice A s.b.length c] ∧ Rd w (fun k => k < N) 1 A s.b.length c (bv s.b)

def StepsIn (w : World) (N : Nat) (A : Option Addr) (c : Nat) (ss : List StepS) : Prop :=
  ∃ css : List (List Value), Rd w (fun k => k < N) 4 A ss.length c css.flatten ∧ css.length = ss.length ∧ ∀ (i : Nat) (cs : List Value) (s : StepS), css[i]? = some cs → ss[i]? = some s → StepCells w N cs s

theorem StepsIn.fr {w w1 : World} {N : Nat} {A : Option Addr} {c : Nat} {ss : List StepS} (h : StepsIn w N A c ss) (hf : Fr NoB w w1) : StepsIn w1 N A c ss := by
  obtain ⟨css, h1, h2, h3⟩ := h
  refine ⟨css, h1.fr hf (fun _ _ _ h => h), h2, fun i cs s hc hs => ?_⟩
  obtain ⟨A', c', e, h4⟩ := h3 i cs s hc hs
  exact ⟨A', c', e, h4.fr hf (fun _ _ _ h => h)⟩

theorem StepsIn.at_ {w : World} {N : Nat} {A : Option Addr} {c : Nat} {ss : List StepS} (h : StepsIn w N A c ss) {k : Nat} (hk : k < ss.length) :
    ∃ b off A' c', A = some ⟨b, off, none⟩ ∧ w.cell? ⟨b, off + k * 4, none⟩ = some (.int .i64 (ss[k]).kind) ∧ w.cell? ⟨b, off + k * 4 + 1, none⟩ = some (.int .i64 (ss[k]).a) ∧
      w.cell? ⟨b, off + k * 4 + 2, none⟩ = some (.int .i64 (ss[k]).c) ∧ w.cell? ⟨b, off + k * 4 + 3, none⟩ = some (.slice A' (ss[k]).b.length c') ∧ Rd w (fun k => k < N) 1 A' (ss[k]).b.length c' (bv (ss[k]).b) := by
  obtain ⟨css, h1, h2, h3⟩ := h
  obtain ⟨b, off, rfl, _, _, hat⟩ := h1.spot (by omega) (by omega)
  have hck : css[k]? = some css[k] := List.getElem?_eq_getElem (by omega)
  obtain ⟨A', c', e, hr⟩ := h3 k _ _ hck (List.getElem?_eq_getElem hk)
  rw [e] at hck
  have h4 : ∀ cs ∈ css, cs.length = 4 := by
    intro cs hcs
    obtain ⟨i, hi⟩ := List.getElem?_of_mem hcs
    have hil : i < ss.length := by have := (List.getElem?_eq_some_iff.1 hi).1; omega
    obtain ⟨_, _, rfl, _⟩ := h3 i cs _ hi (List.getElem?_eq_getElem hil)
    rfl
  have cell : ∀ j u, ([.int .i64 (ss[k]).kind, .int .i64 (ss[k]).a, .int .i64 (ss[k]).c, .slice A' (ss[k]).b.length c'] : List Value)[j]? = some u → j < 4 → w.cell? ⟨b, off + (k * 4 + j), none⟩ = some u := by
    intro j u hu hj
    have := hat (k * 4 + j) u (by rw [flat_get h4 hck hj]; exact hu)
    rwa [addr_lit] at this
  exact ⟨b, off, A', c', rfl, cell 0 _ rfl (by omega), cell 1 _ rfl (by omega), cell 2 _ rfl (by omega), cell 3 _ rfl (by omega), hr⟩

theorem StepsIn.step {w : World} {N : Nat} {A : Option Addr} {c : Nat} {ss : List StepS} (h : StepsIn w N A c ss) {k : Nat} (hk : k < ss.length) :
    ∃ b off A' c' x y z l, ss[k]? = some ⟨x, y, z, l⟩ ∧ A = some ⟨b, off, none⟩ ∧ w.cell? ⟨b, off + k * 4, none⟩ = some (.int .i64 x) ∧ w.cell? ⟨b, off + k * 4 + 1, none⟩ = some (.int .i64 y) ∧
      w.cell? ⟨b, off + k * 4 + 2, none⟩ = some (.int .i64 z) ∧ w.cell? ⟨b, off + k * 4 + 3, none⟩ = some (.slice A' l.length c') ∧ Rd w (fun k => k < N) 1 A' l.length c' (bv l) := by
  obtain ⟨b, off, A', c', h1, h2, h3, h4, h5, h6⟩ := h.at_ hk
  exact ⟨b, off, A', c', _, _, _, _, List.getElem?_eq_getElem hk, h1, h2, h3, h4, h5, h6⟩

theorem scells5 : Try.prog.cellsOf 5 = 1 := by kernel_rfl
theorem scells3 : Try.prog.cellsOf 3 = 1 := by kernel_rfl
theorem scells27 : Try.prog.cellsOf 27 = 1 := by kernel_rfl
theorem cells29 : Try.prog.cellsOf 29 = 4 := by kernel_rfl

/-- A []Step that was read. -/
theorem steps_in {H : Type} {enc : TypeId × Value → H} {w : World} {base : Nat} {spare : Nat → Bool} {held : Bool} {fuel : Nat} {cs : List Value} {x : DataW H × List MemPlace} (h : DataW.trod enc Try.prog w base spare held fuel 22 cs = some x) :
    ∃ A c, ∃ ss : List StepS, cs = [.slice A ss.length c] ∧ StepsIn w w.heap.size A c ss ∧ ss.length ≤ Rows.uptoBulk x.1 := by
  rcases open_slice Try.underlying22 h with ⟨rfl, _⟩ | ⟨a, len, cap, m, n, D, Pl, rfl, _, hl, hm, hmm, hxe, hx⟩
  · exact ⟨none, 0, [], rfl, ⟨[], Rd.none_ _ _ _, rfl, fun i v b hv _ => by simp at hv⟩, Nat.zero_le _⟩
  · have hlm : len ≤ m := by rw [hmm]; split <;> omega
    rw [cells29] at hx
    have hex : ∀ i, i < len → ∃ p : List Value × StepS, StepCells w w.heap.size p.1 p.2 ∧ ∀ j u, p.1[j]? = some u → w.cell? (a.add (i * 4 + j)) = some u := fun i hi => by
      obtain ⟨cs', hc, ht⟩ := hx i (by omega)
      obtain ⟨ys, n', hn', hy, hlen, hyl, hf⟩ := DataW.trod_struct Try.underlying29 ht
      obtain ⟨_, hcl, hat⟩ := World.cells?_some hc
      match cs', hcl with
      | [c0, c1, c2, c3], _ =>
        match ys, hyl with
        | [y0, y1, y2, y3], _ =>
          have g0 : DataW.trod enc Try.prog w base spare held n' 3 [c0] = some y0 := by simpa [scells3] using hf 0 _ rfl
          have g1 : DataW.trod enc Try.prog w base spare held n' 3 [c1] = some y1 := by simpa [scells3] using hf 1 _ rfl
          have g2 : DataW.trod enc Try.prog w base spare held n' 3 [c2] = some y2 := by simpa [scells3] using hf 2 _ rfl
          have g3 : DataW.trod enc Try.prog w base spare held n' 27 [c3] = some y3 := by simpa [scells27] using hf 3 _ rfl
          obtain ⟨z0, e0, _, _⟩ := DataW.trod_int Try.underlying3 g0
          obtain ⟨z1, e1, _, _⟩ := DataW.trod_int Try.underlying3 g1
          obtain ⟨z2, e2, _, _⟩ := DataW.trod_int Try.underlying3 g2
          obtain ⟨A', c', l, e3, hr⟩ := bytes_rd Try.underlying27 Try.underlying5 scells5 g3
          simp only [List.cons.injEq, and_true] at e0 e1 e2 e3
          subst e0 e1 e2 e3
          refine ⟨([.int .i64 z0, .int .i64 z1, .int .i64 z2, .slice A' l.length c'], ⟨z0, z1, z2, l⟩), ⟨A', c', rfl, hr⟩, fun j u hu => ?_⟩
          have hj : j < 4 := by
            have := (List.getElem?_eq_some_iff.1 hu).1
            simpa using this
          rw [← Go.Deep.add_add, hat j hj]
          exact hu
    haveI : Inhabited (List Value × StepS) := ⟨([], ⟨0, 0, 0, []⟩)⟩
    obtain ⟨f, hf⟩ := choose_lt (α := List Value × StepS) hex
    have hbl : ((List.range len).map fun i => (f i).2).length = len := by simp
    have h4 : ∀ cs ∈ (List.range len).map (fun i => (f i).1), cs.length = 4 := by
      intro cs hcs
      obtain ⟨i, hi, rfl⟩ := List.mem_map.1 hcs
      obtain ⟨_, _, e, _⟩ := (hf i (by simpa using hi)).1
      rw [e]
      rfl
    refine ⟨some a, cap, (List.range len).map fun i => (f i).2, by rw [hbl], ⟨(List.range len).map fun i => (f i).1, ?_, by simp, ?_⟩, ?_⟩
    · refine ⟨by rw [flat_len h4, hbl]; simp, by rw [hbl]; exact hl, hm, (fun h => by cases h), fun a' ha h0 => ?_⟩
      cases ha
      rw [hbl] at h0
      have hcell : ∀ j u, ((List.range len).map (fun i => (f i).1)).flatten[j]? = some u → w.cell? (a.add j) = some u := by
        intro j u hu
        have hj : j < len * 4 := by
          have := (List.getElem?_eq_some_iff.1 hu).1
          rw [flat_len h4] at this
          simpa using this
        have hi : j / 4 < len := by omega
        have e : j = j / 4 * 4 + j % 4 := by omega
        rw [e] at hu ⊢
        rw [flat_get (cs := (f (j / 4)).1) h4 (by simp [hi]) (by omega)] at hu
        exact (hf (j / 4) hi).2 _ _ hu
      have hb : a.block < w.heap.size := by
        obtain ⟨_, _, e, _⟩ := (hf 0 h0).1
        have := World.block_lt_of_cell? w _ ((hf 0 h0).2 0 _ (by rw [e]; rfl))
        rwa [addr_block] at this
      exact ⟨hb, hb, hcell⟩
    · intro i v b hv hb
      have hi : i < len := by
        have := (List.getElem?_eq_some_iff.1 hb).1
        simpa using this
      simp [hi] at hv hb
      subst hv hb
      exact (hf i hi).1
    · rw [hbl, hxe]
      have := bulk_slice_le (H := H) ((List.range len).map D) ((List.range (m - len)).map fun j => D (len + j))
      simp only [List.length_map, List.length_range] at this
      exact Nat.le_trans (Nat.le_succ _) this
end Go.Proofs.Ytghddmdehbacaaa
