/- What Send and Copy leave: the net with one message more. -/
import Derived.Test.YteaiifhppcibgaaSend
namespace Go.Proofs.Yteaiifhppcibgaa
open Go.RowKit

theorem Arr.bk {w : World} {e : TypeId} {size n c : Nat} {A : Option Addr} {xs : List Value} (h : Arr w e size A n c xs) {k : Nat} (hk : InB A k) : ∃ cur, Bk w k e cur := by
  rcases h.2 with ⟨rfl, _⟩ | ⟨g, cur, rfl, hb, _⟩
  · exact (InB.none_ k hk).elim
  · rw [InB.some_] at hk
    subst hk
    exact ⟨cur, hb⟩

theorem MsgIs.bk {w : World} {cs : List Value} {m : Msg} (h : MsgIs w cs m) {k : Nat} (hk : CellsB cs k) : ∃ cur, Bk w k 5 cur := by
  obtain ⟨A, c, rfl, ha⟩ := h
  obtain ⟨x, y, A2, n, c2, he, hk⟩ := hk
  simp only [List.cons.injEq, Value.slice.injEq, and_true] at he
  obtain ⟨_, _, rfl, _, _⟩ := he
  exact ha.bk hk

theorem netAt_push {S : Nat → Prop} {n : Nat} {nodes : Int} {L : List Msg} {w w1 w3 : World} {A : Option Addr} {c : Nat} {css : List (List Value)} (m : Msg)
    (hbk : Bk w n 60 #[.int .i64 nodes, .slice A L.length c]) (harr : Arr w 36 3 A L.length c css.flatten) (hl : css.length = L.length)
    (hm : ∀ (k : Nat) (cs : List Value) (m : Msg), css[k]? = some cs → L[k]? = some m → MsgIs w cs m) (hA : ∀ k, InB A k → S k) (hc : ∀ cs ∈ css, ∀ k, CellsB cs k → S k)
    (hp : css.Pairwise (fun x y => ∀ k, CellsB x k → ¬ CellsB y k)) (hS : S n) (hlt : ∀ k, S k → k < w.heap.size) (hfew : L.length < 1024)
    (hf1 : Fr NoB w w1) {A1 : Option Addr} {c1 : Nat} (ha1 : Arr w1 5 1 A1 m.b.length c1 (bv m.b)) (hn1 : ∀ k, InB A1 k → w.heap.size ≤ k)
    {o : Obj} {A3 : Option Addr} {c3 : Nat} (ha3 : Arr w3 36 3 A3 (L.length + 1) c3 (css.flatten ++ [.int .i64 m.f, .int .i64 m.t, .slice A1 m.b.length c1])) (hf3 : Fr (InB A) (w1.alloc o) w3)
    (hn3 : ∀ k, InB A3 k → InB A k ∨ (w1.alloc o).heap.size ≤ k) :
    ∃ S', NetAt (w3.setCell ⟨n, 1, none⟩ (.slice A3 (L.length + 1) c3)) S' n nodes (L ++ [m]) ∧ Fr S w (w3.setCell ⟨n, 1, none⟩ (.slice A3 (L.length + 1) c3)) ∧ Gr S S' w := by
  have hnw := hbk.lt
  have hs1 := hf1.size
  have hs2 : (w1.alloc o).heap.size = w1.heap.size + 1 := by simp
  have hs3 := hf3.size
  -- no block of bytes, nor the net's own, is the array's
  have noA : ∀ k t cur, Bk w k t cur → t ≠ 36 → ¬ InB A k := fun k t cur hb hne hk => by
    obtain ⟨cur', hb'⟩ := harr.bk hk
    exact hb.types hb' hne rfl
  have hf2 : Fr NoB w (w1.alloc o) := hf1.alloc o
  have hf03 : Fr (InB A) w w3 := (hf2.mono (fun _ _ h => h.elim)).trans hf3
  have hb3 : Bk w3 n 60 #[.int .i64 nodes, .slice A L.length c] := hbk.fr hf03 (noA n 60 _ hbk (by decide))
  have hb4 := hb3.set 1 (.slice A3 (L.length + 1) c3)
  have hf34 : Fr (fun k => k = n) w3 (w3.setCell ⟨n, 1, none⟩ (.slice A3 (L.length + 1) c3)) := Fr.setCell (S := fun k => k = n) (p := ⟨n, 1, none⟩) (Fr.refl _ w3) (.inl rfl) _
  have hf04 : Fr S w (w3.setCell ⟨n, 1, none⟩ (.slice A3 (L.length + 1) c3)) :=
    (hf03.mono (fun k _ h => hA k h)).join hf34 (fun k _ h => by subst h; exact hS)
  have hnA3 : ¬ InB A3 n := fun h => by
    rcases hn3 n h with h | h
    · exact noA n 60 _ hbk (by decide) h
    · omega
  have ha1' : Arr w3 5 1 A1 m.b.length c1 (bv m.b) := by
    refine (ha1.fr (T := NoB) ((Fr.refl _ _).alloc o) (fun _ _ h => h)).fr hf3 fun k hk hkA => ?_
    have := hlt k (hA k hkA)
    have := hn1 k hk
    omega
  have hn1n : ∀ k, InB A1 k → k ≠ n := fun k hk e => by have := hn1 k hk; omega
  refine ⟨fun k => S k ∨ (w.heap.size ≤ k ∧ k < w3.heap.size), ⟨⟨A3, c3, css ++ [[.int .i64 m.f, .int .i64 m.t, .slice A1 m.b.length c1]], ?_, ?_, ?_, ?_, ?_, ?_, ?_⟩, .inl hS, ?_, ?_⟩, hf04, ?_⟩
  · simpa using hb4
  · rw [List.flatten_append]
    have := ha3.fr hf34 (fun k hk e => by subst e; exact hnA3 hk)
    simpa using this
  · simp [hl]
  · intro k cs m' h1 h2
    by_cases hk : k < L.length
    · rw [List.getElem?_append_left (by omega)] at h1 h2
      have hM := hm k cs m' h1 h2
      refine (hM.fr hf03 fun j hj => ?_).fr hf34 fun j hj e => ?_
      · obtain ⟨cur, hb⟩ := hM.bk hj
        exact noA j 5 cur hb (by decide)
      · subst e
        obtain ⟨cur, hb⟩ := hM.bk hj
        exact hb.types hbk (by decide) rfl
    · have hkk : k = L.length := by
        have := (List.getElem?_eq_some_iff.1 h2).1
        simp at this
        omega
      subst hkk
      rw [← hl] at h1
      simp at h1 h2
      subst h1; subst h2
      exact MsgIs.fr (w := w3) ⟨A1, c1, rfl, ha1'⟩ hf34 fun j hj e => by
        subst e
        obtain ⟨x, y, A2, n2, c2, he, hk⟩ := hj
        simp only [List.cons.injEq, Value.slice.injEq, and_true] at he
        obtain ⟨_, _, rfl, _, _⟩ := he
        exact hn1n _ hk rfl
  · intro k hk
    rcases hn3 k hk with h | h
    · exact .inl (hA k h)
    · exact .inr ⟨by omega, ha3.lt k hk⟩
  · intro cs hcs k hk
    rcases List.mem_append.1 hcs with h | h
    · exact .inl (hc cs h k hk)
    · simp only [List.mem_singleton] at h
      subst h
      obtain ⟨x, y, A2, n2, c2, he, hk⟩ := hk
      simp only [List.cons.injEq, Value.slice.injEq, and_true] at he
      obtain ⟨_, _, rfl, _, _⟩ := he
      exact .inr ⟨hn1 k hk, ha1'.lt k hk⟩
  · rw [List.pairwise_append]
    refine ⟨hp, by simp, fun x hx y hy k hk hk' => ?_⟩
    simp only [List.mem_singleton] at hy
    subst hy
    obtain ⟨x', y', A2, n2, c2, he, hk'⟩ := hk'
    simp only [List.cons.injEq, Value.slice.injEq, and_true] at he
    obtain ⟨_, _, rfl, _, _⟩ := he
    have := hn1 k hk'
    have := hlt k (hc x hx k hk)
    omega
  · intro k hk
    rcases hk with h | h
    · have := hlt k h
      have := hf04.size
      omega
    · simpa using h.2
  · simp; omega
  · intro k hk
    rcases hk with h | h
    · exact .inl h
    · exact .inr h.1
end Go.Proofs.Yteaiifhppcibgaa
