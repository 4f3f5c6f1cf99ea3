/- NetOnce: the law on lists: what is in flight is, in some order, what was sent and has not come. -/
import Derived.Test.YteaiifhppcibgaaSpeaks
namespace Go.Proofs.Yteaiifhppcibgaa
open Go.RowKit

/-- What was sent and has not come. -/
def rem : List Msg → List Bool → List Msg
  | m :: l, false :: c => m :: rem l c
  | _ :: l, true :: c => rem l c
  | _, _ => []

theorem rem_snoc : ∀ {l : List Msg} {c : List Bool} (m : Msg), l.length = c.length → rem (l ++ [m]) (c ++ [false]) = rem l c ++ [m] := by
  intro l
  induction l with
  | nil =>
    intro c m h
    obtain rfl : c = [] := List.eq_nil_of_length_eq_zero h.symm
    rfl
  | cons x l ih =>
    intro c m h
    cases c with
    | nil => simp at h
    | cons y c =>
      simp at h
      cases y <;> simp [rem, ih m h]

theorem rem_set : ∀ {l : List Msg} {c : List Bool} {i : Nat} {m : Msg}, l[i]? = some m → c[i]? = some false → (rem l c).Perm (m :: rem l (c.set i true)) := by
  intro l
  induction l with
  | nil => intro c i m h; simp at h
  | cons x l ih =>
    intro c i m h hc
    cases c with
    | nil => simp at hc
    | cons y c =>
      cases i with
      | zero =>
        simp at h hc
        subst h hc
        simp [rem]
      | succ i =>
        simp at h hc
        have := ih h hc
        cases y
        · simp only [rem, List.set_cons_succ]
          exact (List.Perm.cons x this).trans (List.Perm.swap _ _ _)
        · simpa only [rem, List.set_cons_succ] using this

theorem mem_rem : ∀ {l : List Msg} {c : List Bool} {m : Msg}, m ∈ rem l c → ∃ i : Nat, l[i]? = some m ∧ c[i]? = some false := by
  intro l
  induction l with
  | nil => intro c m h; cases c <;> simp [rem] at h
  | cons x l ih =>
    intro c m h
    cases c with
    | nil => simp [rem] at h
    | cons y c =>
      cases y
      · simp only [rem, List.mem_cons] at h
        rcases h with rfl | h
        · exact ⟨0, rfl, rfl⟩
        · obtain ⟨i, h1, h2⟩ := ih h
          exact ⟨i + 1, h1, h2⟩
      · simp only [rem] at h
        obtain ⟨i, h1, h2⟩ := ih h
        exact ⟨i + 1, h1, h2⟩

theorem cons_erase_perm {α : Type} : ∀ {l : List α} {k : Nat} (h : k < l.length), (l[k] :: l.eraseIdx k).Perm l := by
  intro l
  induction l with
  | nil => intro k h; simp at h
  | cons x l ih =>
    intro k h
    cases k with
    | zero => exact List.Perm.refl _
    | succ k =>
      simp only [List.getElem_cons_succ, List.eraseIdx_cons_succ]
      exact (List.Perm.swap _ _ _).trans (List.Perm.cons x (ih (by simpa using h)))

/-- A message that is picked was sent and had not come; behind the pick the rest is in flight. -/
theorem once_pick {L sent : List Msg} {came : List Bool} {k i : Nat} {m : Msg} (hp : L.Perm (rem sent came)) (hk : L[k]? = some m) (hi : sent[i]? = some m) (hc : came[i]? = some false) :
    (L.eraseIdx k).Perm (rem sent (came.set i true)) := by
  have hkl := (List.getElem?_eq_some_iff.1 hk).1
  have he : L[k] = m := (List.getElem?_eq_some_iff.1 hk).2
  have h1 := cons_erase_perm hkl
  rw [he] at h1
  exact ((h1.trans hp).trans (rem_set hi hc)).cons_inv
theorem once_there {L sent : List Msg} {came : List Bool} {k : Nat} {m : Msg} (hp : L.Perm (rem sent came)) (hk : L[k]? = some m) : ∃ i : Nat, sent[i]? = some m ∧ came[i]? = some false :=
  mem_rem (hp.mem_iff.1 (List.mem_of_getElem? hk))

/-- The search's state: behind j of those that were sent. -/
def Found (sent : List Msg) (came : List Bool) (m : Msg) (j : Nat) (f : Bool) (came' : List Bool) : Prop :=
  (f = false ∧ came' = came ∧ ∀ i : Nat, i < j → sent[i]? = some m → came[i]? = some false → False) ∨ (f = true ∧ ∃ i : Nat, i < j ∧ sent[i]? = some m ∧ came[i]? = some false ∧ came' = came.set i true)

theorem Found.start (sent : List Msg) (came : List Bool) (m : Msg) : Found sent came m 0 false came := .inl ⟨rfl, rfl, fun i h => by omega⟩
theorem Found.keep {sent : List Msg} {came came' : List Bool} {m : Msg} {j : Nat} (h : Found sent came m j true came') : Found sent came m (j + 1) true came' := by
  rcases h with ⟨h, _⟩ | ⟨_, i, h1, h2⟩
  · cases h
  · exact .inr ⟨rfl, i, by omega, h2⟩
theorem Found.miss {sent : List Msg} {came came' : List Bool} {m : Msg} {j : Nat} (h : Found sent came m j false came') (hn : sent[j]? = some m → came[j]? = some false → False) : Found sent came m (j + 1) false came' := by
  rcases h with ⟨_, h1, h2⟩ | ⟨h, _⟩
  · refine .inl ⟨rfl, h1, fun i hi => ?_⟩
    rcases Nat.lt_or_ge i j with h | h
    · exact h2 i h
    · obtain rfl : i = j := by omega
      exact hn
  · cases h
theorem Found.hit {sent : List Msg} {came came' : List Bool} {m : Msg} {j : Nat} (h : Found sent came m j false came') (h1 : sent[j]? = some m) (h2 : came[j]? = some false) : Found sent came m (j + 1) true (came'.set j true) := by
  rcases h with ⟨_, rfl, _⟩ | ⟨h, _⟩
  · exact .inr ⟨rfl, j, by omega, h1, h2, rfl⟩
  · cases h
theorem Found.same {sent : List Msg} {came came' : List Bool} {m : Msg} {j : Nat} (h : Found sent came m j false came') : came' = came := by
  rcases h with ⟨_, h, _⟩ | ⟨h, _⟩
  · exact h
  · cases h
theorem Found.len {sent : List Msg} {came came' : List Bool} {m : Msg} {j : Nat} {f : Bool} (h : Found sent came m j f came') : came'.length = came.length := by
  rcases h with ⟨_, rfl, _⟩ | ⟨_, i, _, _, _, rfl⟩
  · rfl
  · simp
theorem Found.stop {L sent : List Msg} {came came' : List Bool} {m : Msg} {k : Nat} (h : Found sent came m sent.length false came') (hp : L.Perm (rem sent came)) (hk : L[k]? = some m) : False := by
  rcases h with ⟨_, _, h⟩ | ⟨h, _⟩
  · obtain ⟨i, h1, h2⟩ := once_there hp hk
    exact h i (List.getElem?_eq_some_iff.1 h1).1 h1 h2
  · cases h
theorem Found.done {L sent : List Msg} {came came' : List Bool} {m : Msg} {k j : Nat} (h : Found sent came m j true came') (hp : L.Perm (rem sent came)) (hk : L[k]? = some m) : (L.eraseIdx k).Perm (rem sent came') := by
  rcases h with ⟨h, _⟩ | ⟨_, i, _, h1, h2, rfl⟩
  · cases h
  · exact once_pick hp hk h1 h2
end Go.Proofs.Yteaiifhppcibgaa
