/- Elements of many cells: rows that stay as long as they are (Row), and the operations on them: alloc, load, store, build, a slice of one element, copy. -/
import Derived.Test.YtmbabgaanpjmpaaPlan
import Derived.Deep.MidRow
import Derived.Laws.MakeOwn
namespace Go.Proofs.Ytmbabgaanpjmpaa
open Go.RowKit

theorem flat_len {α : Type} {css : List (List α)} {s : Nat} (h : ∀ cs ∈ css, cs.length = s) : css.flatten.length = css.length * s := by
  induction css with
  | nil => simp
  | cons c r ih =>
    simp only [List.flatten_cons, List.length_append, List.length_cons]
    rw [ih fun cs hc => h cs (List.mem_cons_of_mem _ hc), h c List.mem_cons_self, Nat.add_mul]
    omega
theorem flat_get {α : Type} {s : Nat} : ∀ {css : List (List α)} {k j : Nat} {cs : List α}, (∀ cs ∈ css, cs.length = s) → css[k]? = some cs → j < s → css.flatten[k * s + j]? = cs[j]? := by
  intro css
  induction css with
  | nil => intro k j cs _ h; simp at h
  | cons c r ih =>
    intro k j cs h hk hj
    have hc := h c List.mem_cons_self
    cases k with
    | zero =>
      simp at hk
      subst hk
      rw [List.flatten_cons, List.getElem?_append_left (by omega)]
      simp
    | succ k =>
      simp at hk
      rw [List.flatten_cons, List.getElem?_append_right (by rw [hc, Nat.add_mul]; omega), hc, ← ih (fun cs hc => h cs (List.mem_cons_of_mem _ hc)) hk hj]
      congr 1
      rw [Nat.add_mul]
      omega
theorem flat_take {α : Type} {s : Nat} : ∀ {css : List (List α)} {k : Nat}, (∀ cs ∈ css, cs.length = s) → css.flatten.take (k * s) = (css.take k).flatten := by
  intro css
  induction css with
  | nil => intro k _; simp
  | cons c r ih =>
    intro k h
    have hc := h c List.mem_cons_self
    cases k with
    | zero => simp
    | succ k =>
      simp only [List.take_succ_cons, List.flatten_cons]
      rw [List.take_append, List.take_of_length_le (by rw [hc, Nat.add_mul]; omega), ← ih (fun cs hc => h cs (List.mem_cons_of_mem _ hc)), hc]
      congr 2
      rw [Nat.add_mul]
      omega
theorem flat_drop {α : Type} {s : Nat} : ∀ {css : List (List α)} {k : Nat}, (∀ cs ∈ css, cs.length = s) → css.flatten.drop (k * s) = (css.drop k).flatten := by
  intro css
  induction css with
  | nil => intro k _; simp
  | cons c r ih =>
    intro k h
    have hc := h c List.mem_cons_self
    cases k with
    | zero => simp
    | succ k =>
      simp only [List.drop_succ_cons, List.flatten_cons]
      rw [List.drop_append, List.drop_of_length_le (by rw [hc, Nat.add_mul]; omega), ← ih (fun cs hc => h cs (List.mem_cons_of_mem _ hc)), hc, List.nil_append]
      congr 1
      rw [Nat.add_mul]
      omega


section
variable {S : Nat → Prop} {w w1 : World} {g : Nat} {t : TypeId}
theorem Bk.setCells {b : Nat} : ∀ (vs : List Value) (o : Nat) {w : World} {cs : Array Value}, Bk w g t cs → ∃ cs', Bk (w.setCells b o vs) g t cs' ∧ cs'.size = cs.size
  | [], _, _, cs, h => ⟨cs, h, rfl⟩
  | v :: r, o, w, cs, h => by
    by_cases hb : g = b
    · subst hb
      obtain ⟨cs', h1, h2⟩ := Bk.setCells r (o + 1) (h.set o v)
      exact ⟨cs', h1, by simpa using h2⟩
    · exact Bk.setCells r (o + 1) (h.far (p := ⟨b, o, none⟩) hb v)
theorem Bk.setCells_far {b : Nat} (hb : g ≠ b) : ∀ (vs : List Value) (o : Nat) {w : World} {cs : Array Value}, Bk w g t cs → Bk (w.setCells b o vs) g t cs
  | [], _, _, _, h => h
  | v :: r, o, _, _, h => Bk.setCells_far hb r (o + 1) (h.far (p := ⟨b, o, none⟩) hb v)
theorem size_setCells (b : Nat) : ∀ (vs : List Value) (o : Nat) (w : World), (w.setCells b o vs).heap.size = w.heap.size
  | [], _, _ => rfl
  | v :: r, o, w => by rw [World.setCells, size_setCells b r]; simp
theorem Fr.setCells {b : Nat} (hb : S b ∨ w.heap.size ≤ b) : ∀ (vs : List Value) (o : Nat) {w1 : World}, Fr S w w1 → Fr S w (w1.setCells b o vs)
  | [], _, _, h => h
  | v :: r, o, _, h => Fr.setCells hb r (o + 1) (h.setCell (p := ⟨b, o, none⟩) hb v)
theorem Bk.rangeAt {cs : Array Value} (h : Bk w g t cs) (o n : Nat) : w.rangeAt g o ((cs.toList.drop o).take n) := fun j v hv => by
  have := At.of_bk (o := o) (n := n) h rfl j v hv
  rwa [addr_lit] at this
theorem Bk.there {cs : Array Value} (h : Bk w g t cs) {o n : Nat} (hn : o + n ≤ cs.size) : w.there g o n := fun j hj => by
  rw [h.cell]
  exact ⟨by simp; omega, h.frozen _⟩
theorem there_fr {o n : Nat} (h : w.there g o n) (hf : Fr S w w1) (hn : ¬ S g) : w1.there g o n := fun j hj => by
  obtain ⟨h1, h2⟩ := h j hj
  obtain ⟨u, hu⟩ := Option.isSome_iff_exists.1 h1
  have hb := World.block_lt_of_cell? w _ hu
  exact ⟨by rw [hf.cell hb hn]; exact h1, by rw [hf.frozen hb hn]; exact h2⟩
theorem rangeAt_fr {o : Nat} {cs : List Value} (h : w.rangeAt g o cs) (hf : Fr S w w1) (hn : ¬ S g) : w1.rangeAt g o cs := fun j v hv => hf.cell_some (h j v hv) hn
theorem there_sub {o n o' n' : Nat} (h : w.there g o n) (h1 : o ≤ o') (h2 : o' + n' ≤ o + n) : w.there g o' n' := fun j hj => by
  have := h (o' - o + j) (by omega)
  rwa [show o + (o' - o + j) = o' + j by omega] at this
theorem rangeAt_at {o : Nat} {cs : List Value} (h : w.rangeAt g o cs) : At w ⟨g, o, none⟩ cs := fun j v hv => by
  rw [addr_lit]
  exact h j v hv
theorem at_rangeAt {o : Nat} {cs : List Value} (h : At w ⟨g, o, none⟩ cs) : w.rangeAt g o cs := fun j v hv => by
  have := h j v hv
  rwa [addr_lit] at this
theorem rangeAt_take {o n : Nat} {cs : List Value} (h : w.rangeAt g o cs) : w.rangeAt g o (cs.take n) := fun j v hv => h j v (by
  rw [List.getElem?_take] at hv
  split at hv
  · exact hv
  · cases hv)
theorem rangeAt_drop {o n : Nat} {cs : List Value} (h : w.rangeAt g o cs) : w.rangeAt g (o + n) (cs.drop n) := fun j v hv => by
  rw [List.getElem?_drop] at hv
  have := h (n + j) v hv
  rwa [← Nat.add_assoc] at this
theorem rangeAt_append {o : Nat} {cs ds : List Value} (h : w.rangeAt g o cs) (k : w.rangeAt g (o + cs.length) ds) : w.rangeAt g o (cs ++ ds) := fun j v hv => by
  by_cases hj : j < cs.length
  · exact h j v (by rwa [List.getElem?_append_left hj] at hv)
  · rw [List.getElem?_append_right (by omega)] at hv
    have := k _ v hv
    rwa [show o + cs.length + (j - cs.length) = o + j by omega] at this
end

/-- Elements of s cells each in block g: it stays as long as it is. -/
structure Row (w : World) (g : Nat) (e : TypeId) (s : Nat) (css : List (List Value)) : Prop where
  blk : ∃ cur, Bk w g e cur
  here : w.there g 0 (css.length * s)
  at_ : ∀ (i : Nat) (cs : List Value), css[i]? = some cs → w.rangeAt g (i * s) cs
  len : ∀ cs ∈ css, cs.length = s

section
variable {S : Nat → Prop} {w w1 : World} {g : Nat} {e : TypeId} {s : Nat} {css : List (List Value)}
theorem Row.lt (h : Row w g e s css) : g < w.heap.size := h.blk.choose_spec.lt
theorem Row.fr (h : Row w g e s css) (hf : Fr S w w1) (hn : ¬ S g) : Row w1 g e s css := by
  obtain ⟨⟨cur, hb⟩, h1, h2, h3⟩ := h
  exact ⟨⟨cur, hb.fr hf hn⟩, there_fr h1 hf hn, fun i cs hc => rangeAt_fr (h2 i cs hc) hf hn, h3⟩
theorem Row.spot (h : Row w g e s css) {i : Nat} (hi : i < css.length) : w.there g (i * s) s := by
  have : (i + 1) * s ≤ css.length * s := Nat.mul_le_mul_right _ hi
  rw [Nat.add_mul] at this
  exact there_sub h.here (by omega) (by omega)
/-- The first cells of one element are stored. -/
theorem Row.put (h : Row w g e s css) {i : Nat} {cs : List Value} (hi : css[i]? = some cs) (vs : List Value) (hv : vs.length ≤ s) : Row (w.setCells g (i * s) vs) g e s (css.set i (vs ++ cs.drop vs.length)) := by
  have hil : i < css.length := (List.getElem?_eq_some_iff.1 hi).1
  have hsp := h.spot hil
  have hlen : cs.length = s := h.len cs (List.mem_of_getElem? hi)
  refine ⟨?_, ?_, ?_, ?_⟩
  · obtain ⟨cur, hb⟩ := h.blk
    obtain ⟨cur', hb', _⟩ := hb.setCells (b := g) vs (i * s)
    exact ⟨cur', hb'⟩
  · rw [List.length_set]
    exact World.there_setCells h.here _ _ _
  · intro j ds hj
    by_cases hji : j = i
    · subst hji
      rw [List.getElem?_set_self hil] at hj
      cases hj
      refine rangeAt_append (World.rangeAt_setCells_same w g (j * s) vs (there_sub hsp (Nat.le_refl _) (by omega))) ?_
      exact World.rangeAt_setCells_apart (rangeAt_drop (h.at_ j cs hi)) g (j * s) vs (.inr (.inr (Nat.le_refl _)))
    · rw [List.getElem?_set_ne (Ne.symm hji)] at hj
      have hd := h.len ds (List.mem_of_getElem? hj)
      refine World.rangeAt_setCells_apart (h.at_ j ds hj) g (i * s) vs (.inr ?_)
      rcases Nat.lt_or_gt_of_ne hji with h' | h'
      · have : (j + 1) * s ≤ i * s := Nat.mul_le_mul_right _ h'
        rw [Nat.add_mul] at this
        omega
      · have : (i + 1) * s ≤ j * s := Nat.mul_le_mul_right _ h'
        rw [Nat.add_mul] at this
        omega
  · intro ds hds
    rcases List.mem_or_eq_of_mem_set hds with h' | h'
    · exact h.len ds h'
    · subst h'
      simp
      omega
theorem Row.store (h : Row w g e s css) {i : Nat} (hi : i < css.length) (vs : List Value) (hv : vs.length = s) : Row (w.setCells g (i * s) vs) g e s (css.set i vs) := by
  have := h.put (List.getElem?_eq_getElem hi) vs (Nat.le_of_eq hv)
  rwa [List.drop_of_length_le (by rw [h.len _ (List.getElem_mem hi), hv]; exact Nat.le_refl _), List.append_nil] at this
/-- A new row. -/
theorem Row.made (w : World) (e : TypeId) (z : Array Value) (n : Nat) : Row (w.alloc (.cells (madeCells z (n * z.size)) e)) w.heap.size e z.size (List.replicate n z.toList) := by
  have hb := Bk.new w e (madeCells z (n * z.size))
  refine ⟨⟨_, hb⟩, hb.there (by simp [size_madeCells]), ?_, ?_⟩
  · intro i cs hi j v hv
    rw [List.getElem?_replicate] at hi
    split at hi
    · rename_i hin
      cases hi
      rw [hb.cell]
      have hj : j < z.size := by simpa using (List.getElem?_eq_some_iff.1 hv).1
      have : (i + 1) * z.size ≤ n * z.size := Nat.mul_le_mul_right _ hin
      rw [Nat.add_mul] at this
      rw [Array.getElem?_toList] at hv
      have e1 : (i * z.size + j) % z.size = j := by rw [Nat.mul_comm, Nat.mul_add_mod]; exact Nat.mod_eq_of_lt hj
      have e2 := (Array.getElem?_eq_some_iff.1 hv).2
      rw [Array.getElem?_eq_some_iff]
      refine ⟨by simp [size_madeCells]; omega, ?_⟩
      simp [madeCells, e1, ← e2, hj]
    · cases hi
  · intro cs hc
    rw [(List.mem_replicate.1 hc).2]
    simp
end

/-! ### The operations -/
section
variable {P : Program} {ops : Array Oper} {rest : List Oper} {o : Oper} {a : Act} {w : World} {K : Act → World → Prop} {Q : Exit → Act → World → Prop}

theorem run_alloc_z (t : TypeId) (z : Value) (hz : (P.info? t).map (·.zero) = some (some z)) : (Instr.alloc t true (.tuple #[])).run P w = .ok (.pointer (some ⟨w.heap.size, 0, none⟩)) (w.alloc (.cells z.cells t)) := by
  cases hq : P.info? t with
  | none => simp [hq] at hz
  | some i =>
    have hz' : i.zero = some z := by simpa [hq] using hz
    simp [Instr.alloc, zeroValue, typeInfo, hq, hz', newVar, newRow]
theorem wp_alloc_z (t : TypeId) (z : Value) (ho : o.op = .alloc t) (hz : (P.info? t).map (·.zero) = some (some z)) (h : K (a.put o.dst (.pointer (some ⟨w.heap.size, 0, none⟩))) (w.alloc (.cells z.cells t))) : o.wp P a w K Q := by
  unfold Oper.wp execOp
  simp only [ho, Sem.run_bind, run_alloc_z (P := P) (w := w) t z hz, Result.andThen_ok, Sem.run_pure]
  exact h
theorem wpList_alloc_z (hgd : o.guard = none) (t : TypeId) (z : Value) (ho : o.op = .alloc t) (hz : (P.info? t).map (·.zero) = some (some z))
    (h : wpList P ops Q rest (a.put o.dst (.pointer (some ⟨w.heap.size, 0, none⟩))) (w.alloc (.cells z.cells t))) : wpList P ops Q (o :: rest) a w :=
  wpList_plain hgd fun _ hK => wp_alloc_z t z ho hz (hK _ _ h)

/-- A load for a plan: under S. -/
theorem exec_load_mid {ev : Operand → Value} (ty : TypeId) (x : Operand) (ho : o.op = .load ty x) (b off : Nat) (hx : ev x = .pointer (some ⟨b, off, none⟩)) (cs : List Value) (d : TypeDesc) (hc : w.rangeAt b off cs)
    (hu : P.underlying ty = some d) (hd : d.isRow = true) (hi : (P.info? ty).map (·.size) = some cs.length) : (execOp ev o).run P w = .ok (.value (.agg cs.toArray)) w := by
  unfold execOp
  simp only [ho, hx, Instr.loadAt, Instr.sureAddr, Sem.run_bind, Sem.run_pure, Result.andThen_ok, run_loadVar_mid w b off ty cs d hc hu hd hi]
/-- A store in a region that draws. -/
theorem step_store_mid {E : Prop} (hgd : o.guard = none) (ty : TypeId) (x y : Operand) (ho : o.op = .store ty x y) (b off : Nat) (cells : Array Value) (hx : a.eval x = .pointer (some ⟨b, off, none⟩)) (hy : a.eval y = .agg cells)
    (ht : w.there b off cells.size) (hi : (P.info? ty).map (·.size) = some cells.size) (h1 : cells.all (·.oneCell') = true) (h : K (a.put o.dst undef) (w.setCells b off cells.toList)) :
    if Region.wanted o (yielded ops a.tmps) = true then Oper.wp P o a w K Q else E := by
  have hw : Region.wanted o (yielded ops a.tmps) = true := by simp [Region.wanted, hgd]
  rw [if_pos hw]
  exact wp_store_mid ty x y ho b off cells hx hy ht hi h1 h

/-- build: one field of one cell, and one of many behind it. -/
theorem fold_set : ∀ (A : List Value) (k off : Nat) (cells : Array Value), off + A.length ≤ cells.size → ∀ j, ((A.zipIdx k).foldl (fun cs (p : Value × Nat) => cs.setIfInBounds (off + (p.2 - k)) p.1) cells)[j]? = if off ≤ j ∧ j < off + A.length then A[j - off]? else cells[j]? := by
  intro A
  induction A with
  | nil => intro k off cells h j; simp; omega
  | cons v r ih =>
    intro k off cells h j
    have h' : off + r.length + 1 ≤ cells.size := by simpa [Nat.add_assoc] using h
    have e : ((r.zipIdx (k + 1)).foldl (fun cs (p : Value × Nat) => cs.setIfInBounds (off + (p.2 - k)) p.1) (cells.setIfInBounds (off + (k - k)) v)) =
        ((r.zipIdx (k + 1)).foldl (fun cs (p : Value × Nat) => cs.setIfInBounds ((off + 1) + (p.2 - (k + 1))) p.1) (cells.setIfInBounds (off + (k - k)) v)) := by
      have : ∀ (l : List (Value × Nat)) (c : Array Value), (∀ p ∈ l, k + 1 ≤ p.2) → l.foldl (fun cs (p : Value × Nat) => cs.setIfInBounds (off + (p.2 - k)) p.1) c = l.foldl (fun cs (p : Value × Nat) => cs.setIfInBounds ((off + 1) + (p.2 - (k + 1))) p.1) c := by
        intro l
        induction l with
        | nil => intro c _; rfl
        | cons p l ih2 =>
          intro c hp
          have hp0 := hp p List.mem_cons_self
          simp only [List.foldl_cons]
          rw [show off + (p.2 - k) = off + 1 + (p.2 - (k + 1)) by omega]
          exact ih2 _ fun q hq => hp q (List.mem_cons_of_mem _ hq)
      exact this _ _ fun p hp => (List.mem_zipIdx hp).1
    rw [List.zipIdx_cons, List.foldl_cons, e, ih (k + 1) (off + 1) _ (by simp; omega) j]
    simp only [Nat.sub_self, Nat.add_zero, Array.getElem?_setIfInBounds, List.length_cons]
    by_cases h1 : off + 1 ≤ j ∧ j < off + 1 + r.length
    · rw [if_pos h1, if_pos ⟨by omega, by omega⟩, show j - off = (j - (off + 1)) + 1 by omega, List.getElem?_cons_succ]
    · rw [if_neg h1]
      by_cases h2 : off = j
      · subst h2
        rw [if_pos rfl, if_pos (by omega), if_pos ⟨Nat.le_refl _, by omega⟩, Nat.sub_self]
        rfl
      · rw [if_neg h2, if_neg (by omega)]

/-- The cells of a part are put in. -/
def putIn (cells : Array Value) (off : Nat) (A : Array Value) : Array Value := A.zipIdx.foldl (fun cs (p : Value × Nat) => cs.setIfInBounds (off + p.2) p.1) cells
theorem putIn_get (cells : Array Value) (off : Nat) (A : Array Value) (h : off + A.size ≤ cells.size) (j : Nat) : (putIn cells off A)[j]? = if off ≤ j ∧ j < off + A.size then A[j - off]? else cells[j]? := by
  have key := fold_set A.toList 0 off cells (by simpa using h) j
  have e : putIn cells off A = (A.toList.zipIdx 0).foldl (fun cs (p : Value × Nat) => cs.setIfInBounds (off + (p.2 - 0)) p.1) cells := by
    unfold putIn
    rw [← Array.foldl_toList, Array.toList_zipIdx]
    rfl
  rw [e, key]
  simp
theorem putIn_size (cells : Array Value) (off : Nat) (A : Array Value) (h : off + A.size ≤ cells.size) : (putIn cells off A).size = cells.size := by
  have key := putIn_get cells off A h
  have h1 : ∀ j, j < (putIn cells off A).size ↔ j < cells.size := fun j => by
    have := key j
    constructor
    · intro hj
      rw [Array.getElem?_eq_getElem hj] at this
      split at this
      · omega
      · rcases Nat.lt_or_ge j cells.size with h' | h'
        · exact h'
        · rw [Array.getElem?_eq_none h'] at this
          cases this
    · intro hj
      rcases Nat.lt_or_ge j (putIn cells off A).size with h' | h'
      · exact h'
      · rw [Array.getElem?_eq_none h'] at this
        split at this
        · rw [Array.getElem?_eq_getElem (by omega)] at this
          cases this
        · rw [Array.getElem?_eq_getElem hj] at this
          cases this
  have a1 := h1 (putIn cells off A).size
  have a2 := h1 cells.size
  omega
theorem fill_step (place : Nat → Option (Nat × Nat)) (cells : Array Value) (i : Nat) (v : Value) (rest : List (Nat × Value)) (off : Nat) (h : place i = some (off, v.cells.size)) (hle : off + v.cells.size ≤ cells.size) :
    Instr.fill place cells ((i, v) :: rest) = Instr.fill place (putIn cells off v.cells) rest := by
  have h1 : ¬ (off + v.cells.size > cells.size) := by omega
  simp [Instr.fill, h, h1, putIn]

theorem fill_two (u : Value) (A : Array Value) (hu : u.cells = #[u]) (zero : Array Value) (hz : zero.size = A.size + 1) (place : Nat → Option (Nat × Nat)) (h0 : place 0 = some (0, 1)) (h1 : place 1 = some (1, A.size)) :
    Instr.fill place zero [(0, u), (1, .agg A)] = some (#[u] ++ A) := by
  have s0 : 0 + u.cells.size ≤ zero.size := by rw [hu]; simp; omega
  have s1 : 1 + (Value.agg A).cells.size ≤ (putIn zero 0 u.cells).size := by rw [putIn_size _ _ _ s0]; simp [Value.cells]; omega
  rw [fill_step place zero 0 u _ 0 (by rw [h0, hu]; rfl) s0, fill_step place _ 1 (.agg A) _ 1 (by rw [h1]; rfl) s1]
  simp only [Instr.fill]
  congr 1
  apply Array.ext_getElem?
  intro j
  have g1 : (putIn (putIn zero 0 u.cells) 1 A)[j]? = if 1 ≤ j ∧ j < 1 + A.size then A[j - 1]? else (putIn zero 0 u.cells)[j]? := putIn_get _ _ _ s1 j
  have g0 : (putIn zero 0 u.cells)[j]? = if 0 ≤ j ∧ j < 0 + 1 then (#[u] : Array Value)[j - 0]? else zero[j]? := by
    have := putIn_get _ _ _ s0 j
    rw [hu] at this ⊢
    exact this
  have e : (putIn (putIn zero 0 u.cells) 1 (Value.agg A).cells)[j]? = (putIn (putIn zero 0 u.cells) 1 A)[j]? := rfl
  rw [e, g1, g0]
  by_cases hj : j = 0
  · subst hj
    rw [if_neg (by omega), if_pos (by omega), Array.getElem?_append_left (by simp)]
  · by_cases hj2 : j < 1 + A.size
    · rw [if_pos ⟨by omega, hj2⟩, Array.getElem?_append_right (by simp; omega)]
      simp
    · rw [if_neg (by omega), if_neg (by omega), Array.getElem?_eq_none (by omega), Array.getElem?_eq_none (by simp; omega)]

/-- A slice of one element. -/
theorem fill_one (v : Value) (zero : Array Value) (hz : zero.size = v.cells.size) (place : Nat → Option (Nat × Nat)) (h0 : place 0 = some (0, v.cells.size)) : Instr.fill place zero [(0, v)] = some v.cells := by
  have s0 : 0 + v.cells.size ≤ zero.size := by omega
  rw [fill_step place zero 0 v _ 0 h0 s0]
  simp only [Instr.fill]
  congr 1
  apply Array.ext_getElem?
  intro j
  rw [putIn_get _ _ _ s0]
  by_cases hj2 : j < v.cells.size
  · rw [if_pos ⟨by omega, by omega⟩]
    simp
  · rw [if_neg (by omega), Array.getElem?_eq_none (by omega), Array.getElem?_eq_none (by omega)]

/-- 'T{u, arr}' of a struct of one cell and an array. -/
theorem exec_build_two {ev : Operand → Value} (t : TypeId) (x y : Operand) (ho : o.op = .build t #[(0, x), (1, y)]) (u : Value) (A : Array Value) (hx : ev x = u) (hu : u.cells = #[u]) (hy : ev y = .agg A)
    (f0 f1 : Field) (hut : P.underlying t = some (.struct #[f0, f1])) (h0 : f0.offset = 0) (h1 : f1.offset = 1) (hs0 : (P.info? f0.type).map (·.size) = some 1) (hs1 : (P.info? f1.type).map (·.size) = some A.size)
    (z : Value) (hz : (P.info? t).map (·.zero) = some (some z)) (hzs : z.cells.size = A.size + 1) (w : World) : (execOp ev o).run P w = .ok (.value (.agg (#[u] ++ A))) w := by
  obtain ⟨i, hi, hiz⟩ : ∃ i, P.info? t = some i ∧ i.zero = some z := by
    cases hq : P.info? t with
    | none => simp [hq] at hz
    | some i => exact ⟨i, rfl, by simpa [hq] using hz⟩
  obtain ⟨i0, hi0, hi0z⟩ : ∃ i, P.info? f0.type = some i ∧ i.size = 1 := by
    cases hq : P.info? f0.type with
    | none => simp [hq] at hs0
    | some i => exact ⟨i, rfl, by simpa [hq] using hs0⟩
  obtain ⟨i1, hi1, hi1z⟩ : ∃ i, P.info? f1.type = some i ∧ i.size = A.size := by
    cases hq : P.info? f1.type with
    | none => simp [hq] at hs1
    | some i => exact ⟨i, rfl, by simpa [hq] using hs1⟩
  have hf := fill_two u A hu z.cells hzs (fun i => ([(f0.offset, i0.size), (f1.offset, i1.size)] : List (Nat × Nat))[i]?) (by simp [h0, hi0z]) (by simp [h1, hi1z])
  unfold execOp
  simp [ho, hx, hy, Instr.build, zeroValue, typeInfo, hi, hiz, run_underlying hut, sizeOf, hi0, hi1, hf]

theorem run_buildSlice_one (t e : TypeId) (v : Value) (ht : P.underlying t = some (.slice e)) (z : Value) (hz : (P.info? e).map (·.zero) = some (some z)) (hs : (P.info? e).map (·.size) = some v.cells.size) (h0 : 0 < v.cells.size) (h24 : v.cells.size ≤ 16777216) :
    (Instr.buildSlice t 1 #[(0, v)]).run P w = .ok (.slice (some ⟨w.heap.size, 0, none⟩) 1 1) (w.alloc (.cells v.cells e)) := by
  obtain ⟨i, hi, hiz, his⟩ : ∃ i, P.info? e = some i ∧ i.zero = some z ∧ i.size = v.cells.size := by
    cases hq : P.info? e with
    | none => simp [hq] at hz
    | some i => exact ⟨i, rfl, by simpa [hq] using hz, by simpa [hq] using hs⟩
  have n1 : ¬ (16777216 < v.cells.size) := by omega
  have n2 : ¬ v.cells.size = 0 := by omega
  have hf := fill_one v ((Array.range v.cells.size).map (fun x => z.cells[x % z.cells.size]!)) (by simp) (fun i => some (i * v.cells.size, v.cells.size)) (by simp)
  simp only [Instr.buildSlice, run_underlying ht, zeroValue, typeInfo, sizeOf, newRow, Sem.run_bind, Sem.run_pure, Result.andThen_ok, Nat.one_mul]
  simp [hi, hiz, his, n1, n2]
  rw [hf]
  simp
theorem wp_buildSlice_one (t e : TypeId) (x : Operand) (ho : o.op = .buildSlice t 1 #[(0, x)]) (v : Value) (hx : a.eval x = v) (ht : P.underlying t = some (.slice e)) (z : Value) (hz : (P.info? e).map (·.zero) = some (some z)) (hs : (P.info? e).map (·.size) = some v.cells.size)
    (h0 : 0 < v.cells.size) (h24 : v.cells.size ≤ 16777216) (h : K (a.put o.dst (.slice (some ⟨w.heap.size, 0, none⟩) 1 1)) (w.alloc (.cells v.cells e))) : o.wp P a w K Q := by
  have hr := run_buildSlice_one (P := P) (w := w) t e v ht z hz hs h0 h24
  unfold Oper.wp execOp
  simp only [ho, List.map_toArray, List.map_cons, List.map_nil, hx, Sem.run_bind, hr, Result.andThen_ok, Sem.run_pure]
  exact h

/-- 'copy(dst, src)' from what reads. -/
theorem run_copy_rd (dT sT ty e : TypeId) (hu : P.underlying dT = some (.slice e)) (hs : (P.info? e).map (·.size) = some 1) (b off dLen dCap : Nat) {S : Nat → Prop} {A : Option Addr} {n c : Nat} {xs : List Value} (hsrc : Rd w S 1 A n c xs)
    (hd : w.there b off (Nat.min n dLen)) (h1 : ∀ u ∈ xs, u.oneCell' = true) :
    (Builtin.copy_ #[dT, sT] ty #[.slice (some ⟨b, off, none⟩) dLen dCap, .slice A n c]).run P w = .ok (goInt (Nat.min n dLen)) (w.setCells b off (xs.take dLen)) := by
  have hlen : xs.length = n := by simpa using hsrc.1
  cases A with
  | none =>
    obtain ⟨rfl, rfl⟩ := hsrc.2.2.2.1 rfl
    have : xs = [] := List.eq_nil_of_length_eq_zero hlen
    subst this
    have := run_copy_none (P := P) w dT sT ty e (some ⟨b, off, none⟩) none dLen dCap 0 0 hu hs (by simp)
    simpa [World.setCells] using this
  | some a =>
    have hl : (xs.take dLen).length = Nat.min n dLen := by rw [List.length_take, hlen]; exact Nat.min_comm _ _
    have := run_copy_cells (P := P) w dT sT ty e b off dLen dCap a n c (xs.take dLen) hu hs hl (fun j v hv => by
        have hj := (List.getElem?_eq_some_iff.1 hv).1
        rw [hl] at hj
        have : j < n := Nat.lt_of_lt_of_le hj (Nat.min_le_left _ _)
        refine (hsrc.2.2.2.2 a rfl (by omega)).2.2 j v ?_
        rw [List.getElem?_take] at hv
        split at hv
        · exact hv
        · cases hv)
      (fun j hj => (hd j (by rwa [hl] at hj)).1) (fun j hj => (hd j (by rwa [hl] at hj)).2) (fun v hv => h1 v (List.mem_of_mem_take hv))
    rw [hl] at this
    exact this
theorem wp_copy_rd {x y : Operand} {dT sT : TypeId} (ho : o.op = .call { callee := .builtin .copy, args := #[x, y], argTypes := #[dT, sT] }) (e : TypeId) (hu : P.underlying dT = some (.slice e)) (hs : (P.info? e).map (·.size) = some 1) (b off dLen dCap : Nat)
    {S : Nat → Prop} {A : Option Addr} {n c : Nat} {xs : List Value} (hx : a.eval x = .slice (some ⟨b, off, none⟩) dLen dCap) (hy : a.eval y = .slice A n c) (hsrc : Rd w S 1 A n c xs)
    (hd : w.there b off (Nat.min n dLen)) (h1 : ∀ u ∈ xs, u.oneCell' = true) (h : K (a.put o.dst (goInt (Nat.min n dLen))) (w.setCells b off (xs.take dLen))) : o.wp P a w K Q := by
  have hr := run_copy_rd (P := P) dT sT o.type e hu hs b off dLen dCap hsrc hd h1
  unfold Oper.wp execOp
  simp only [ho, resolve, invoke, builtin, Sem.run_bind, Sem.run_pure, Result.andThen_ok, List.map_toArray, List.map_cons, List.map_nil, hx, hy, hr]
  exact h
theorem wpList_copy_rd (hgd : o.guard = none) {x y : Operand} {dT sT : TypeId} (ho : o.op = .call { callee := .builtin .copy, args := #[x, y], argTypes := #[dT, sT] }) (e : TypeId) (hu : P.underlying dT = some (.slice e)) (hs : (P.info? e).map (·.size) = some 1) (b off dLen dCap : Nat)
    {S : Nat → Prop} {A : Option Addr} {n c : Nat} {xs : List Value} (hx : a.eval x = .slice (some ⟨b, off, none⟩) dLen dCap) (hy : a.eval y = .slice A n c) (hsrc : Rd w S 1 A n c xs)
    (hd : w.there b off (Nat.min n dLen)) (h1 : ∀ u ∈ xs, u.oneCell' = true) (h : wpList P ops Q rest (a.put o.dst (goInt (Nat.min n dLen))) (w.setCells b off (xs.take dLen))) : wpList P ops Q (o :: rest) a w :=
  wpList_plain hgd fun _ hK => wp_copy_rd ho e hu hs b off dLen dCap hx hy hsrc hd h1 (hK _ _ h)
theorem step_wp {E : Prop} (hgd : o.guard = none) (h : o.wp P a w K Q) : if Region.wanted o (yielded ops a.tmps) = true then Oper.wp P o a w K Q else E := by
  have hw : Region.wanted o (yielded ops a.tmps) = true := by simp [Region.wanted, hgd]
  rw [if_pos hw]
  exact h
end
end Go.Proofs.Ytmbabgaanpjmpaa
