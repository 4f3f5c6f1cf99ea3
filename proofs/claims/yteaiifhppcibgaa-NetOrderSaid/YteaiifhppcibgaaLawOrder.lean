/-
  latticelaw04.NetOrder: for every input the call returns true, and each argument reads afterwards as it read before. No conditions.
-/
import Derived.Test.YteaiifhppcibgaaOrder
import Derived.Test.YteaiifhppcibgaaLawFrame
namespace Go.Proofs.Yteaiifhppcibgaa
open Go.ChangeShapes Go.WideShapes Go.ChangeAt Go.RowKit Go.Deep

theorem cells5 : Try.prog.cellsOf 5 = 1 := by kernel_rfl
theorem cells29 : Try.prog.cellsOf 29 = 1 := by kernel_rfl

/-- A [][]byte that was read. -/
theorem rows_in {H : Type} {enc : TypeId × Value → H} {w : World} {base : Nat} {spare : Nat → Bool} {held : Bool} {fuel : Nat} {cs : List Value} {x : DataW H × List MemPlace} (h : DataW.trod enc Try.prog w base spare held fuel 41 cs = some x) :
    ∃ A c, ∃ bs : List (List UInt8), cs = [.slice A bs.length c] ∧ BytesIn w w.heap.size A c bs := by
  rcases open_slice1 Try.underlying41 cells29 h with ⟨rfl, _⟩ | ⟨a, len, cap, m, n, V, D, Pl, rfl, _, hl, hm, hmm, _, hx⟩
  · exact ⟨none, 0, [], rfl, [], Rd.none_ _ _ _, fun i v b hv _ => by simp at hv⟩
  · have hlm : len ≤ m := by rw [hmm]; split <;> omega
    have hex : ∀ i, i < len → ∃ p : Option Addr × Nat × List UInt8, V i = .slice p.1 p.2.2.length p.2.1 ∧ Rd w (fun k => k < w.heap.size) 1 p.1 p.2.2.length p.2.1 (bv p.2.2) := fun i hi => by
      obtain ⟨A', c', l, e, hr⟩ := bytes_rd Try.underlying29 Try.underlying5 cells5 (hx i (by omega)).2
      exact ⟨(A', c', l), by simpa using e, hr⟩
    obtain ⟨f, hf⟩ := choose_lt (α := Option Addr × Nat × List UInt8) hex
    have hbl : ((List.range len).map fun i => (f i).2.2).length = len := by simp
    refine ⟨some a, cap, (List.range len).map fun i => (f i).2.2, by rw [hbl], (List.range len).map V, ?_, ?_⟩
    · refine ⟨by simp, by rw [hbl]; exact hl, hm, (fun h => by cases h), fun a' ha h0 => ?_⟩
      cases ha
      rw [hbl] at h0
      have hb : a.block < w.heap.size := by
        have := World.block_lt_of_cell? w _ (hx 0 (by omega)).1
        rwa [addr_block] at this
      refine ⟨hb, hb, fun j u hu => ?_⟩
      have hj : j < len := by
        have := (List.getElem?_eq_some_iff.1 hu).1
        simpa using this
      rw [(hx j (by omega)).1, ← hu]
      simp [hj]
    · intro i v b hv hb
      have hi : i < len := by
        have := (List.getElem?_eq_some_iff.1 hb).1
        simpa using this
      simp [hi] at hv hb
      subst hv hb
      exact ⟨_, _, (hf i hi).1, (hf i hi).2⟩

set_option maxRecDepth 100000 in
theorem netOrder_lifted (os : Os) (started : os.Started) (H : Type) (enc : TypeId × Value → H) :
    ReturnsInHanded {} Try.checked os 4 .any (Rows.netOrderSpec.pre6 enc Try.prog Try.f4 Rows.netOrderRow.domain false) (Rows.netOrderSpec.post enc Try.prog Try.f4 false true false false) := by
  refine law_lifted 4 Try.f4 Rows.netOrderSpec Try.func4 (by kernel_rfl) rfl ?_ rfl ?_ os started
    (ChangeSpec.witness6 (enc := enc) (C := Try.checked) false ⟨#[], #[.slice none 0 0], []⟩ 8 (by kernel_rfl) (by kernel_rfl) (by kernel_rfl) (by kernel_rfl)) ?_
  · intro t ht
    obtain rfl : t = 41 := by simpa [Try.f4] using ht
    exact ⟨by kernel_rfl, of_decide_eq_true (by kernel_rfl)⟩
  · intro ds hd
    match ds, hd with
    | [d], _ => exact ⟨rfl, rfl, rfl⟩
  · intro W base vs ds ps hval _ hA _
    obtain ⟨v0, vs0, d0, ds0, p0, q0, rfl, rfl, rfl, h0, r0⟩ := trodAll_cons (t := 41) (ts := []) hA
    obtain ⟨rfl, rfl, rfl⟩ := trodAll_nil r0
    obtain ⟨a0, len, cap, rfl⟩ := okWide_slice Try.underlying41 (hval 0 41 v0 rfl rfl)
    obtain ⟨fuel, hf⟩ := h0
    obtain ⟨A, c, bs, e, hb⟩ := rows_in hf
    have e' : Value.slice a0 len cap = .slice A bs.length c := by simpa [Value.cells] using e
    rw [e']
    by_cases hl : bs.length ≤ 300
    · exact order_any A c bs W hb hl
    · exact order_long A c bs.length W (by omega)

theorem netOrder_holds : Rows.NetOrderSaid :=
  OpenClaim.holds_of_wide 4 Try.f4 rfl rfl rfl rfl rfl rfl rfl ⟨rfl, rfl, rfl, rfl, rfl⟩ rfl rfl rfl rfl rfl (by kernel_rfl) Try.func4 (by kernel_rfl)
    (of_decide_eq_true (by kernel_rfl)) (by unfold Func.isWrapper; first | (rw [if_pos (by decide +kernel)]; kernel_rfl) | (rw [if_neg (by decide +kernel)]; exact ⟨rfl, rfl⟩))
    (fun os started H enc _ => netOrder_lifted os started H enc)
#print axioms netOrder_holds
end Go.Proofs.Yteaiifhppcibgaa
