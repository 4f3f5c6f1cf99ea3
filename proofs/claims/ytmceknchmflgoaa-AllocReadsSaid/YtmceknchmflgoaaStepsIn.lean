/- A list of steps that came in; an array of bools. -/
import Derived.Test.YtmceknchmflgoaaSpeaks
import Derived.Test.YtmceknchmflgoaaLawFrame
namespace Go.Proofs.Ytmceknchmflgoaa
open Go.ChangeShapes Go.WideShapes Go.ChangeAt Go.RowKit Go.Deep

structure StepS where
  kind : Int
  a : Int

def scells (s : StepS) : List Value := [.int .i64 s.kind, .int .i64 s.a]
def StepsIn (w : World) (N : Nat) (A : Option Addr) (c : Nat) (ss : List StepS) : Prop := Rd w (fun k => k < N) 2 A ss.length c (ss.map scells).flatten

theorem StepsIn.fr {w w1 : World} {N : Nat} {A : Option Addr} {c : Nat} {ss : List StepS} (h : StepsIn w N A c ss) (hf : Fr NoB w w1) : StepsIn w1 N A c ss := Rd.fr h hf (fun _ _ _ h => h)

theorem StepsIn.step {w : World} {N : Nat} {A : Option Addr} {c : Nat} {ss : List StepS} (h : StepsIn w N A c ss) {k : Nat} (hk : k < ss.length) :
    ∃ b off x y, ss[k]? = some ⟨x, y⟩ ∧ A = some ⟨b, off, none⟩ ∧ w.cell? ⟨b, off + k * 2, none⟩ = some (.int .i64 x) ∧ w.cell? ⟨b, off + k * 2 + 1, none⟩ = some (.int .i64 y) := by
  obtain ⟨b, off, rfl, _, _, hat⟩ := h.spot (by omega) (by omega)
  have h2 : ∀ cs ∈ ss.map scells, cs.length = 2 := by
    intro cs hcs
    obtain ⟨m, _, rfl⟩ := List.mem_map.1 hcs
    rfl
  have cell : ∀ i u, (scells ss[k])[i]? = some u → i < 2 → w.cell? ⟨b, off + (k * 2 + i), none⟩ = some u := by
    intro i u hu hi
    have := hat (k * 2 + i) u (by rw [flat_get (cs := scells ss[k]) h2 (by simp [hk]) hi]; exact hu)
    rwa [addr_lit] at this
  exact ⟨b, off, _, _, List.getElem?_eq_getElem hk, rfl, cell 0 _ rfl (by omega), cell 1 _ rfl (by omega)⟩

theorem scells3 : Try.prog.cellsOf 3 = 1 := by kernel_rfl
theorem scells5 : Try.prog.cellsOf 5 = 1 := by kernel_rfl
theorem cells32 : Try.prog.cellsOf 32 = 2 := by kernel_rfl

/-- A []Step that was read. -/
theorem steps_in {H : Type} {enc : TypeId × Value → H} {w : World} {base : Nat} {spare : Nat → Bool} {held : Bool} {fuel : Nat} {cs : List Value} {x : DataW H × List MemPlace} (h : DataW.trod enc Try.prog w base spare held fuel 22 cs = some x) :
    ∃ A c, ∃ ss : List StepS, cs = [.slice A ss.length c] ∧ StepsIn w w.heap.size A c ss := by
  rcases open_slice Try.underlying22 h with ⟨rfl, _⟩ | ⟨a, len, cap, m, n, D, Pl, rfl, _, hl, hm, hmm, _, hx⟩
  · exact ⟨none, 0, [], rfl, Rd.none_ _ _ _⟩
  · have hlm : len ≤ m := by rw [hmm]; split <;> omega
    rw [cells32] at hx
    have hex : ∀ i, i < len → ∃ p : StepS, ∀ j u, (scells p)[j]? = some u → w.cell? (a.add (i * 2 + j)) = some u := fun i hi => by
      obtain ⟨cs', hc, ht⟩ := hx i (by omega)
      obtain ⟨ys, n', hn', hy, hlen, hyl, hf⟩ := DataW.trod_struct Try.underlying32 ht
      obtain ⟨_, hcl, hat⟩ := World.cells?_some hc
      match cs', hcl with
      | [c0, c1], _ =>
        match ys, hyl with
        | [y0, y1], _ =>
          have g0 : DataW.trod enc Try.prog w base spare held n' 3 [c0] = some y0 := by simpa [scells3] using hf 0 _ rfl
          have g1 : DataW.trod enc Try.prog w base spare held n' 3 [c1] = some y1 := by simpa [scells3] using hf 1 _ rfl
          obtain ⟨z0, e0, _, _⟩ := DataW.trod_int Try.underlying3 g0
          obtain ⟨z1, e1, _, _⟩ := DataW.trod_int Try.underlying3 g1
          simp only [List.cons.injEq, and_true] at e0 e1
          subst e0 e1
          refine ⟨⟨z0, z1⟩, fun j u hu => ?_⟩
          have hj : j < 2 := by
            have := (List.getElem?_eq_some_iff.1 hu).1
            simpa [scells] using this
          rw [← Go.Deep.add_add, hat j hj]
          exact hu
    haveI : Inhabited StepS := ⟨⟨0, 0⟩⟩
    obtain ⟨f, hf⟩ := choose_lt (α := StepS) hex
    have hbl : ((List.range len).map f).length = len := by simp
    have h2 : ∀ cs ∈ ((List.range len).map f).map scells, cs.length = 2 := by
      intro cs hcs
      obtain ⟨m, _, rfl⟩ := List.mem_map.1 hcs
      rfl
    refine ⟨some a, cap, (List.range len).map f, by rw [hbl], ?_⟩
    refine ⟨by rw [flat_len h2, List.length_map], by rw [hbl]; exact hl, hm, (fun h => by cases h), fun a' ha h0 => ?_⟩
    cases ha
    rw [hbl] at h0
    have hcell : ∀ j u, (((List.range len).map f).map scells).flatten[j]? = some u → w.cell? (a.add j) = some u := by
      intro j u hu
      have hj : j < len * 2 := by
        have := (List.getElem?_eq_some_iff.1 hu).1
        rw [flat_len h2] at this
        simpa using this
      have hi : j / 2 < len := by omega
      have e : j = j / 2 * 2 + j % 2 := by omega
      rw [e] at hu ⊢
      rw [flat_get (cs := scells (f (j / 2))) h2 (by simp [hi]) (by omega)] at hu
      exact hf (j / 2) hi _ _ hu
    have hb : a.block < w.heap.size := by
      have := World.block_lt_of_cell? w _ (hf 0 h0 0 _ rfl)
      rwa [addr_block] at this
    exact ⟨hb, hb, hcell⟩

/-- An array of bools: page 0 is none. -/
def boolsV (us : List Bool) : Array Value := (Value.bool false :: us.map Value.bool).toArray
theorem boolsV_size (us : List Bool) : (boolsV us).size = us.length + 1 := by simp [boolsV]
theorem bools_cell {w : World} {g : Nat} {us : List Bool} (h : Bk w g 4 (boolsV us)) {k : Nat} (hk : k < us.length) : w.cell? ⟨g, k + 1, none⟩ = some (.bool us[k]) := by
  rw [h.cell]
  simp [boolsV, hk]
theorem bools_set {w : World} {g : Nat} {us : List Bool} (h : Bk w g 4 (boolsV us)) (k : Nat) (u : Bool) : Bk (w.setCell ⟨g, k + 1, none⟩ (.bool u)) g 4 (boolsV (us.set k u)) := by
  have := h.set (k + 1) (.bool u)
  have e : (boolsV us).setIfInBounds (k + 1) (.bool u) = boolsV (us.set k u) := by simp [boolsV, List.map_set]
  rwa [e] at this
def mbools (n : Nat) : Array Value := madeCells #[.bool false] (n * 1)
theorem mbools_eq (k : Nat) : mbools (k + 1) = boolsV (List.replicate k false) := by
  apply Array.ext
  · simp [mbools, size_madeCells, boolsV]
  · intro i h1 h2
    have e : (mbools (k + 1))[i] = .bool false := by simp [mbools, madeCells, Nat.mod_one]
    rw [e]
    unfold boolsV
    cases i with
    | zero => rfl
    | succ i => simp
theorem info4 : (Try.prog.info? 4).map (fun i => (i.zero, i.size, i.bytes)) = some (some (.bool false), 1, 1) := by kernel_rfl
theorem run_mbools (k : Nat) (hk : k ≤ 4096) (u : World) : (Instr.makeSlice 44 (.int .i64 ((k : Int) + 1)) (.int .i64 ((k : Int) + 1))).run Try.prog u = .ok (.slice (some ⟨u.heap.size, 0, none⟩) (k + 1) (k + 1)) (u.alloc (.cells (mbools (k + 1)) 4)) := by
  obtain ⟨i0, hi0, hz0, hz1, hz2⟩ := info_parts info4
  have h := run_make (P := Try.prog) u 44 4 i0 (.bool false) Try.underlying44 hi0 hz0 .i64 .i64 ((k : Int) + 1) ((k : Int) + 1) (by omega) (Int.le_refl _) (by rw [hz2]; omega) (by omega)
  rw [hz1, show ((k : Int) + 1).toNat = k + 1 by omega] at h
  exact h
end Go.Proofs.Ytmceknchmflgoaa
