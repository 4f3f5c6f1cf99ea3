/- What a crash leaves, in lists. -/
import Derived.Test.YtghddmdehbacaaaWrite
namespace Go.Proofs.Ytghddmdehbacaaa

def tornF (q : List (Nat × List UInt8)) (keep torn : Nat) (l : List (List UInt8)) : List (List UInt8) :=
  match q[keep]? with
  | none => l
  | some p => l.set p.1 (p.2.take torn ++ (l[p.1]?.getD []).drop torn)
def las2F (las : List (List UInt8)) (q : List (Nat × List UInt8)) (keep torn : Nat) : List (List UInt8) := tornF q keep torn (apply (q.take keep) las)
def sees (L : List (List UInt8)) (q : List (Nat × List UInt8)) (s : List (List UInt8)) : List (List UInt8) := q.foldl (fun l p => l.set p.1 (L[p.1]?.getD [])) s

theorem tornF_len (q : List (Nat × List UInt8)) (keep torn : Nat) (l : List (List UInt8)) : (tornF q keep torn l).length = l.length := by
  unfold tornF
  split <;> simp
theorem las2F_len (las : List (List UInt8)) (q : List (Nat × List UInt8)) (keep torn : Nat) : (las2F las q keep torn).length = las.length := by
  unfold las2F
  rw [tornF_len, apply_len]
theorem sees_len (L : List (List UInt8)) (q : List (Nat × List UInt8)) : ∀ s, (sees L q s).length = s.length := by
  induction q with
  | nil => intro s; rfl
  | cons p r ih => intro s; simp only [sees, List.foldl_cons] at ih ⊢; rw [ih]; simp
theorem sees_snoc (L : List (List UInt8)) (q : List (Nat × List UInt8)) (p : Nat × List UInt8) (s : List (List UInt8)) : sees L (q ++ [p]) s = (sees L q s).set p.1 (L[p.1]?.getD []) := by simp [sees]
theorem apply_get_not {q : List (Nat × List UInt8)} {i : Nat} : ∀ {las : List (List UInt8)}, (∀ p ∈ q, p.1 ≠ i) → (apply q las)[i]? = las[i]? := by
  induction q with
  | nil => intro las _; rfl
  | cons p r ih =>
    intro las h
    simp only [apply, List.foldl_cons] at ih ⊢
    rw [ih fun x hx => h x (List.mem_cons_of_mem _ hx), List.getElem?_set_ne (h p List.mem_cons_self)]
theorem sees_get_not {L : List (List UInt8)} {q : List (Nat × List UInt8)} {i : Nat} : ∀ {s : List (List UInt8)}, (∀ p ∈ q, p.1 ≠ i) → (sees L q s)[i]? = s[i]? := by
  induction q with
  | nil => intro las _; rfl
  | cons p r ih =>
    intro las h
    simp only [sees, List.foldl_cons] at ih ⊢
    rw [ih fun x hx => h x (List.mem_cons_of_mem _ hx), List.getElem?_set_ne (h p List.mem_cons_self)]
theorem sees_get {L : List (List UInt8)} {q : List (Nat × List UInt8)} {i : Nat} : ∀ {s : List (List UInt8)}, i < s.length → (∃ p ∈ q, p.1 = i) → (sees L q s)[i]? = some (L[i]?.getD []) := by
  induction q with
  | nil => intro s _ h; obtain ⟨p, hp, _⟩ := h; cases hp
  | cons p r ih =>
    intro s hs h
    by_cases hr : ∃ x ∈ r, x.1 = i
    · simp only [sees, List.foldl_cons] at ih ⊢
      exact ih (by simpa using hs) hr
    · obtain ⟨x, hx, rfl⟩ := h
      rcases List.mem_cons.1 hx with rfl | hx
      · have := sees_get_not (L := L) (q := r) (i := x.1) (s := s.set x.1 (L[x.1]?.getD [])) (fun y hy e => hr ⟨y, hy, e⟩)
        simp only [sees, List.foldl_cons] at this ⊢
        rw [this, List.getElem?_set_self hs]
      · exact (hr ⟨x, hx, rfl⟩).elim
theorem tornF_get_not {q : List (Nat × List UInt8)} {keep torn : Nat} {l : List (List UInt8)} {i : Nat} (h : ∀ p ∈ q, p.1 ≠ i) : (tornF q keep torn l)[i]? = l[i]? := by
  unfold tornF
  split
  · rfl
  · rename_i p hp
    rw [List.getElem?_set_ne (h p (List.mem_of_getElem? hp))]
/-- Behind a crash what is seen is what lasts. -/
theorem sees_all (las : List (List UInt8)) (q : List (Nat × List UInt8)) (keep torn : Nat) : sees (las2F las q keep torn) q (apply q las) = las2F las q keep torn := by
  apply List.ext_getElem?
  intro i
  by_cases hi : i < las.length
  · by_cases h : ∃ p ∈ q, p.1 = i
    · rw [sees_get (by rw [apply_len]; exact hi) h, List.getElem?_eq_getElem (by rw [las2F_len]; exact hi)]
      rfl
    · have h' : ∀ p ∈ q, p.1 ≠ i := fun p hp e => h ⟨p, hp, e⟩
      rw [sees_get_not h', apply_get_not h']
      unfold las2F
      rw [tornF_get_not h', apply_get_not fun p hp => h' p (List.mem_of_mem_take hp)]
  · rw [List.getElem?_eq_none (by rw [sees_len, apply_len]; omega), List.getElem?_eq_none (by rw [las2F_len]; omega)]
theorem las2F_all {las : List (List UInt8)} {q : List (Nat × List UInt8)} {keep torn : Nat} (h : ∀ s ∈ las, s.length = 256) (hq : ∀ p ∈ q, p.1 < las.length ∧ p.2.length = 256) (ht : torn ≤ 256) : ∀ s ∈ las2F las q keep torn, s.length = 256 := by
  have h1 : ∀ s ∈ apply (q.take keep) las, s.length = 256 := apply_all h fun p hp => (hq p (List.mem_of_mem_take hp)).2
  intro s hs
  unfold las2F tornF at hs
  split at hs
  · exact h1 s hs
  · rename_i p hp
    rcases List.mem_or_eq_of_mem_set hs with h' | h'
    · exact h1 s h'
    · subst h'
      have hpm := hq p (List.mem_of_getElem? hp)
      have hl : p.1 < (apply (q.take keep) las).length := by rw [apply_len]; exact hpm.1
      rw [List.getElem?_eq_getElem hl]
      have := h1 _ (List.getElem_mem hl)
      simp only [Option.getD_some, List.length_append, List.length_take, List.length_drop, hpm.2, this]
      omega
theorem apply_take_succ {q : List (Nat × List UInt8)} {j : Nat} {p : Nat × List UInt8} (h : q[j]? = some p) (las : List (List UInt8)) : apply (q.take (j + 1)) las = (apply (q.take j) las).set p.1 p.2 := by
  rw [List.take_succ_eq_append_getElem (List.getElem?_eq_some_iff.1 h).1, (List.getElem?_eq_some_iff.1 h).2, apply_snoc]
theorem sees_take_succ {L : List (List UInt8)} {q : List (Nat × List UInt8)} {j : Nat} {p : Nat × List UInt8} (h : q[j]? = some p) (s : List (List UInt8)) : sees L (q.take (j + 1)) s = (sees L (q.take j) s).set p.1 (L[p.1]?.getD []) := by
  rw [List.take_succ_eq_append_getElem (List.getElem?_eq_some_iff.1 h).1, (List.getElem?_eq_some_iff.1 h).2, sees_snoc]

def crashF (las : List (List UInt8)) (q : List (Nat × List UInt8)) (keep torn : Int) : Int × List (List UInt8) × List (Nat × List UInt8) :=
  if 0 ≤ keep ∧ keep ≤ q.length ∧ 0 ≤ torn ∧ torn ≤ 256 then (0, las2F las q keep.toNat torn.toNat, []) else (1, las, q)

/-- The whole queue, or nothing of what is torn. -/
theorem las2F_whole (las : List (List UInt8)) (q : List (Nat × List UInt8)) (torn : Nat) : las2F las q q.length torn = apply q las := by
  unfold las2F tornF
  rw [List.getElem?_eq_none (Nat.le_refl _), List.take_length]
theorem las2F_zero (las : List (List UInt8)) (q : List (Nat × List UInt8)) (keep : Nat) (hq : ∀ p ∈ q, p.1 < las.length) : las2F las q keep 0 = apply (q.take keep) las := by
  unfold las2F tornF
  split
  · rfl
  · rename_i p hp
    have hl : p.1 < (apply (q.take keep) las).length := by rw [apply_len]; exact hq p (List.mem_of_getElem? hp)
    rw [List.getElem?_eq_getElem hl]
    simp
end Go.Proofs.Ytghddmdehbacaaa
