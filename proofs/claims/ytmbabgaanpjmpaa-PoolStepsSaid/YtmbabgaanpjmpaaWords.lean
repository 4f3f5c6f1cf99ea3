/- Words for memory: what a step may turn (Fr), a block that is known whole (Bk), a slice that reads as cells (Rd), an array that may be appended to (Arr), and append on it. -/
import Derived.Test.YtmbabgaanpjmpaaRows
import Derived.WalkKit
import Derived.Laws.OwnMore
import Derived.Deep.AppendLies
import Derived.Deep.Draws
import Derived.RegionTactic
import Derived.Lib.Hide
import Derived.Deep.RegionHeld3
import Derived.Deep.RegionLaw
import Derived.BigQuiet
import Derived.Deep.QuietTactic
import Derived.Lib.SlBytesConst
import Derived.WalkSpells
namespace Go.Proofs.Ytmbabgaanpjmpaa
open Go.RowKit

/-- Blocks of S may have turned, and new blocks may be there; nothing else has turned. -/
structure Fr (S : Nat → Prop) (w w' : World) : Prop where
  os : w'.os = w.os
  tape : w'.tape = w.tape
  output : w'.output = w.output
  size : w.heap.size ≤ w'.heap.size
  block : ∀ k, k < w.heap.size → ¬ S k → w'.heap[k]? = w.heap[k]?

def NoB : Nat → Prop := fun _ => False

section
variable {S T : Nat → Prop} {w w1 w2 : World}
theorem Fr.refl (S : Nat → Prop) (w : World) : Fr S w w := ⟨rfl, rfl, rfl, Nat.le_refl _, fun _ _ _ => rfl⟩
theorem Fr.join (h : Fr S w w1) (k : Fr T w1 w2) (hs : ∀ j, j < w.heap.size → T j → S j) : Fr S w w2 :=
  ⟨k.os.trans h.os, k.tape.trans h.tape, k.output.trans h.output, Nat.le_trans h.size k.size,
   fun j hj hn => (k.block j (Nat.lt_of_lt_of_le hj h.size) (fun ht => hn (hs j hj ht))).trans (h.block j hj hn)⟩
theorem Fr.trans (h : Fr S w w1) (k : Fr S w1 w2) : Fr S w w2 := h.join k fun _ _ hj => hj
theorem Fr.mono (h : Fr S w w1) (hs : ∀ j, j < w.heap.size → S j → T j) : Fr T w w1 :=
  ⟨h.os, h.tape, h.output, h.size, fun j hj hn => h.block j hj (fun a => hn (hs j hj a))⟩
theorem Fr.drew (h : Fr S w w1) : Fr S w w1.drew := ⟨h.os, h.tape, h.output, h.size, h.block⟩
theorem Fr.drewN (h : Fr S w w1) (n : Nat) : Fr S w (w1.drewN n) := ⟨h.os, h.tape, h.output, h.size, h.block⟩
theorem Fr.alloc (h : Fr S w w1) (o : Obj) : Fr S w (w1.alloc o) :=
  h.join (T := NoB) ⟨rfl, rfl, rfl, by simp, fun k hk _ => Below.heap_alloc _ _ _ hk⟩ (fun _ _ h => h.elim)
theorem Fr.setCell (h : Fr S w w1) {p : Addr} (hp : S p.block ∨ w.heap.size ≤ p.block) (u : Value) : Fr S w (w1.setCell p u) :=
  h.join (T := fun k => k = p.block) ⟨rfl, rfl, rfl, by simp, fun k _ hk => Below.heap_setCell _ _ _ _ hk⟩ (fun j hj e => by
    subst e
    rcases hp with h | h
    · exact h
    · omega)
theorem Fr.of_below {B : Nat} (h : Below B w w1) (hB : w.heap.size ≤ B) : Fr NoB w w1 :=
  ⟨h.os, h.tape, h.output, h.size, fun k hk _ => h.block k (by omega)⟩
theorem Fr.below {B : Nat} (h : Fr S w w1) (hB : B ≤ w.heap.size) (hs : ∀ k, k < B → ¬ S k) : Below B w w1 :=
  ⟨h.os, h.tape, h.output, h.size, fun k hk => h.block k (by omega) (hs k hk)⟩
theorem Fr.cell (h : Fr S w w1) {p : Addr} (hp : p.block < w.heap.size) (hn : ¬ S p.block) : w1.cell? p = w.cell? p := World.cell?_of_block (h.block _ hp hn)
theorem Fr.cell_some (h : Fr S w w1) {p : Addr} {u : Value} (hc : w.cell? p = some u) (hn : ¬ S p.block) : w1.cell? p = some u :=
  (h.cell (World.block_lt_of_cell? w p hc) hn).trans hc
theorem Fr.frozen (h : Fr S w w1) {p : Addr} (hp : p.block < w.heap.size) (hn : ¬ S p.block) : w1.frozen? p = w.frozen? p := World.frozen?_of_block (h.block _ hp hn)
end

/-- Block g is just these cells, none frozen. -/
def Bk (w : World) (g : Nat) (t : TypeId) (cs : Array Value) : Prop := w.heap[g]? = some (.cells cs t (0, 0))

section
variable {S : Nat → Prop} {w w1 : World} {g : Nat} {t : TypeId} {cs : Array Value}
theorem Bk.lt (h : Bk w g t cs) : g < w.heap.size := by
  rcases Nat.lt_or_ge g w.heap.size with hl | hl
  · exact hl
  · unfold Bk at h
    rw [Array.getElem?_eq_none hl] at h
    cases h
theorem Bk.cell (h : Bk w g t cs) (i : Nat) : w.cell? ⟨g, i, none⟩ = cs[i]? := cell_of_row w g i cs t (0, 0) h
theorem Bk.frozen (h : Bk w g t cs) (i : Nat) : w.frozen? ⟨g, i, none⟩ = false := by
  unfold Bk at h
  simp [World.frozen?, h]
theorem Bk.new (w : World) (t : TypeId) (cs : Array Value) : Bk (w.alloc (.cells cs t)) w.heap.size t cs := heap_alloc_new w _
theorem Bk.drew (h : Bk w g t cs) : Bk w.drew g t cs := h
theorem Bk.drewN (h : Bk w g t cs) (n : Nat) : Bk (w.drewN n) g t cs := h
theorem Bk.alloc (h : Bk w g t cs) (o : Obj) : Bk (w.alloc o) g t cs := (Below.heap_alloc w o g h.lt).trans h
theorem Bk.set (h : Bk w g t cs) (i : Nat) (u : Value) : Bk (w.setCell ⟨g, i, none⟩ u) g t (cs.setIfInBounds i u) := by
  unfold Bk at h ⊢
  simp [World.setCell, Array.getElem?_modify, h]
theorem Bk.far (h : Bk w g t cs) {p : Addr} (hp : g ≠ p.block) (u : Value) : Bk (w.setCell p u) g t cs := (Below.heap_setCell w p u g hp).trans h
theorem Bk.fr (h : Bk w g t cs) (hf : Fr S w w1) (hn : ¬ S g) : Bk w1 g t cs := (hf.block g h.lt hn).trans h
theorem Bk.types {t' : TypeId} {cs' : Array Value} {g' : Nat} (h : Bk w g t cs) (h' : Bk w g' t' cs') (hne : t ≠ t') : g ≠ g' := by
  rintro rfl
  unfold Bk at h h'
  rw [h] at h'
  injection h' with h'
  injection h' with _ e
  exact hne e
end

theorem addr_block (a : Addr) (n : Nat) : (a.add n).block = a.block := by unfold Addr.add; split <;> rfl
theorem addr_add (a : Addr) (i j : Nat) : (a.add i).add j = a.add (i + j) := by
  unfold Addr.add
  by_cases hi : i = 0 <;> by_cases hj : j = 0 <;> simp [hi, hj, Nat.add_assoc]
theorem addr_lit (b o i : Nat) : (⟨b, o, none⟩ : Addr).add i = ⟨b, o + i, none⟩ := Addr.add_lit b o i

/-- The cells from address a on are xs. -/
def At (w : World) (a : Addr) (xs : List Value) : Prop := ∀ j u, xs[j]? = some u → w.cell? (a.add j) = some u

theorem At.keep {w w1 : World} {a : Addr} {xs : List Value} (h : At w a xs) (hk : ∀ p : Addr, p.block = a.block → w1.cell? p = w.cell? p) : At w1 a xs :=
  fun j u hu => (hk _ (addr_block a j)).trans (h j u hu)
theorem At.nil (w : World) (a : Addr) : At w a [] := fun j u hu => by simp at hu
theorem At.fr {S : Nat → Prop} {w w1 : World} {a : Addr} {xs : List Value} (h : At w a xs) (hf : Fr S w w1) (hn : ¬ S a.block) : At w1 a xs :=
  fun j u hu => hf.cell_some (h j u hu) (by rw [addr_block]; exact hn)
theorem At.one (w : World) (b o : Nat) (u : Value) (h : w.cell? ⟨b, o, none⟩ = some u) : At w ⟨b, o, none⟩ [u] := by
  intro j v hj
  match j, hj with
  | 0, hj => simp at hj; subst hj; rw [addr_lit]; exact h
theorem At.of_bk {w : World} {g : Nat} {t : TypeId} {cs : Array Value} {xs : List Value} {o n : Nat} (h : Bk w g t cs) (hx : (cs.toList.drop o).take n = xs) : At w ⟨g, o, none⟩ xs := by
  intro j u hu
  subst hx
  rw [addr_lit, h.cell]
  have hj := (List.getElem?_eq_some_iff.1 hu).1
  simp only [List.length_take, List.length_drop, Array.length_toList] at hj
  rw [List.getElem?_take, if_pos (by omega), List.getElem?_drop] at hu
  rw [← hu]
  simp

/-- The slice value '.slice A n c' holds the cells xs (n elements of so many cells), in a block of S. -/
def Rd (w : World) (S : Nat → Prop) (size : Nat) (A : Option Addr) (n c : Nat) (xs : List Value) : Prop :=
  xs.length = n * size ∧ n ≤ c ∧ c ≤ maxLen ∧ (A = none → n = 0 ∧ c = 0) ∧ ∀ a, A = some a → 0 < n → S a.block ∧ a.block < w.heap.size ∧ At w a xs

section
variable {S T : Nat → Prop} {w w1 : World} {size n c : Nat} {A : Option Addr} {xs : List Value}
theorem Rd.none_ (w : World) (S : Nat → Prop) (size : Nat) : Rd w S size none 0 0 [] := ⟨by simp, Nat.le_refl _, by simp [maxLen], fun _ => ⟨rfl, rfl⟩, fun _ h => by cases h⟩
theorem Rd.keep (h : Rd w S size A n c xs) (hk : ∀ p : Addr, p.block < w.heap.size → S p.block → w1.cell? p = w.cell? p) (hs : w.heap.size ≤ w1.heap.size) : Rd w1 S size A n c xs :=
  ⟨h.1, h.2.1, h.2.2.1, h.2.2.2.1, fun a ha hn => by
    obtain ⟨h1, h2, h3⟩ := h.2.2.2.2 a ha hn
    exact ⟨h1, by omega, h3.keep fun p hp => hk p (by omega) (by rw [hp]; exact h1)⟩⟩
theorem Rd.fr (h : Rd w S size A n c xs) (hf : Fr T w w1) (hn : ∀ k, k < w.heap.size → S k → ¬ T k) : Rd w1 S size A n c xs :=
  h.keep (fun _ hp hs => hf.cell hp (hn _ hp hs)) hf.size
theorem Rd.mono (h : Rd w S size A n c xs) (hs : ∀ k, S k → T k) : Rd w T size A n c xs :=
  ⟨h.1, h.2.1, h.2.2.1, h.2.2.2.1, fun a ha hn => by
    obtain ⟨h1, h2, h3⟩ := h.2.2.2.2 a ha hn
    exact ⟨hs _ h1, h2, h3⟩⟩
theorem Rd.drew (h : Rd w S size A n c xs) : Rd w.drew S size A n c xs := h
theorem Rd.drewN (h : Rd w S size A n c xs) (k : Nat) : Rd (w.drewN k) S size A n c xs := h
theorem Rd.alloc (h : Rd w S size A n c xs) (o : Obj) : Rd (w.alloc o) S size A n c xs := h.keep (fun p hp _ => World.cell?_alloc_lt w o p hp) (by simp)
/-- Element k's cell j. -/
theorem Rd.cell_at (h : Rd w S size A n c xs) {k : Nat} (hk : k < n) (j : Nat) (hj : j < size) :
    ∃ b off u, A = some ⟨b, off, none⟩ ∧ S b ∧ b < w.heap.size ∧ xs[k * size + j]? = some u ∧ w.cell? ⟨b, off + (k * size + j), none⟩ = some u := by
  cases A with
  | none => have := h.2.2.2.1 rfl; omega
  | some a =>
    obtain ⟨h1, h2, h3⟩ := h.2.2.2.2 a rfl (by omega)
    have hl : k * size + j < xs.length := by
      rw [h.1]
      have : (k + 1) * size ≤ n * size := Nat.mul_le_mul_right _ hk
      rw [Nat.add_mul] at this
      omega
    have hc := h3 _ _ (List.getElem?_eq_getElem hl)
    obtain ⟨b, off, spot⟩ := a
    have h0 := h3 0 _ (List.getElem?_eq_getElem (by omega))
    have hspot : spot = none := by simpa [Addr.add] using World.cell?_spot h0
    subst hspot
    rw [addr_lit] at hc
    exact ⟨b, off, _, rfl, h1, h2, List.getElem?_eq_getElem hl, hc⟩
theorem Rd.spot (h : Rd w S size A n c xs) (hn : 0 < n) (hs : 0 < size) : ∃ b off, A = some ⟨b, off, none⟩ ∧ S b ∧ b < w.heap.size ∧ At w ⟨b, off, none⟩ xs := by
  obtain ⟨b, off, u, rfl, h1, h2, _, _⟩ := h.cell_at (k := 0) hn 0 hs
  exact ⟨b, off, rfl, h1, h2, (h.2.2.2.2 _ rfl hn).2.2⟩
end

/-- An array that may be appended to: nil, or the head of a block of its own. -/
def Arr (w : World) (e : TypeId) (size : Nat) (A : Option Addr) (n c : Nat) (xs : List Value) : Prop :=
  xs.length = n * size ∧ ((A = none ∧ n = 0 ∧ c = 0) ∨ ∃ g cur, A = some ⟨g, 0, none⟩ ∧ Bk w g e cur ∧ n ≤ c ∧ c ≤ maxLen ∧ c * size ≤ cur.size ∧ cur.toList.take (n * size) = xs)

/-- Blocks that an address lies in. -/
def InB (A : Option Addr) : Nat → Prop := fun k => A.map (·.block) = some k

section
variable {S T : Nat → Prop} {w w1 : World} {e : TypeId} {size n c : Nat} {A : Option Addr} {xs : List Value}
theorem InB.some_ (a : Addr) (k : Nat) : InB (some a) k ↔ a.block = k := by simp [InB]
theorem InB.none_ (k : Nat) : ¬ InB none k := by simp [InB]
theorem Arr.none_ (w : World) (e : TypeId) (size : Nat) : Arr w e size none 0 0 [] := ⟨by simp, .inl ⟨rfl, rfl, rfl⟩⟩
theorem Arr.fr (h : Arr w e size A n c xs) (hf : Fr T w w1) (hn : ∀ k, InB A k → ¬ T k) : Arr w1 e size A n c xs := by
  refine ⟨h.1, ?_⟩
  rcases h.2 with h2 | ⟨g, cur, rfl, hb, h2⟩
  · exact .inl h2
  · exact .inr ⟨g, cur, rfl, hb.fr hf (hn g (by simp [InB])), h2⟩
theorem Arr.rd (h : Arr w e size A n c xs) : Rd w (InB A) size A n c xs := by
  rcases h.2 with ⟨rfl, rfl, rfl⟩ | ⟨g, cur, rfl, hb, h1, h2, h3, h4⟩
  · exact ⟨h.1, Nat.le_refl _, by simp [maxLen], fun _ => ⟨rfl, rfl⟩, fun _ h => by cases h⟩
  · refine ⟨h.1, h1, h2, fun h => (by cases h), fun a ha _ => ?_⟩
    cases ha
    exact ⟨by simp [InB], hb.lt, At.of_bk (o := 0) (n := n * size) hb (by simpa using h4)⟩
theorem Arr.lt (h : Arr w e size A n c xs) : ∀ k, InB A k → k < w.heap.size := by
  intro k hk
  rcases h.2 with ⟨rfl, _⟩ | ⟨g, cur, rfl, hb, _⟩
  · exact (InB.none_ k hk).elim
  · rw [InB.some_] at hk
    subst hk
    exact hb.lt
theorem Arr.made (w : World) (cur : Array Value) (n c : Nat) (hn : n ≤ c) (hm : c ≤ maxLen) (hs : c * size ≤ cur.size) :
    Arr (w.alloc (.cells cur e)) e size (some ⟨w.heap.size, 0, none⟩) n c (cur.toList.take (n * size)) :=
  ⟨by rw [List.length_take, Array.length_toList]; exact Nat.min_eq_left (Nat.le_trans (Nat.mul_le_mul_right _ hn) hs), .inr ⟨_, cur, rfl, Bk.new w e cur, hn, hm, hs, rfl⟩⟩
end

section
variable {P : Program} (w : World)

/-- append, whatever room there is: the value in some world; what may have turned is its own block. -/
theorem run_append_arr (t ty e : TypeId) (i : TypeInfo) (z : Value) (size bytes : Nat) (ht : P.underlying t = some (.slice e)) (hi : P.info? e = some i) (hz : i.zero = some z)
    (hsize : i.size = size) (hby : i.bytes = bytes) (hzs : z.cells.size = size)
    {A : Option Addr} {n c : Nat} {xs : List Value} (harr : Arr w e size A n c xs)
    {S : Nat → Prop} {B : Option Addr} {m d : Nat} {news : List Value} (hsrc : Rd w S size B m d news) (h1 : ∀ u ∈ news, u.oneCell' = true)
    (h63 : n + m ≤ maxLen) (hbytes : (n + m) * bytes ≤ 140737488355328) :
    ∃ A' c' w', (Builtin.append_ #[t, t] ty #[.slice A n c, .slice B m d]).run P w = .ok (.slice A' (n + m) c') w' ∧ Arr w' e size A' (n + m) c' (xs ++ news) ∧ Fr (InB A) w w' ∧
      (∀ k, InB A' k → InB A k ∨ w.heap.size ≤ k) ∧ (∀ a, A = some a → At w' a xs) := by
  subst hsize
  subst hby
  have hlen : (xs ++ news).length = (n + m) * i.size := by rw [List.length_append, harr.1, hsrc.1, Nat.add_mul]
  have hsmall : n + m ≤ 9223372036854775807 := by simp only [maxLen] at h63; omega
  have old : ∀ a, A = some a → At w a xs := by
    intro a ha
    rcases harr.2 with ⟨rfl, _⟩ | ⟨g, cur, rfl, hb, _, _, _, htake⟩
    · cases ha
    · cases ha
      exact At.of_bk (o := 0) (n := n * i.size) hb (by simpa using htake)
  cases B with
  | none =>
    obtain ⟨rfl, rfl⟩ := hsrc.2.2.2.1 rfl
    have hn : news = [] := List.eq_nil_of_length_eq_zero (by simpa using hsrc.1)
    subst hn
    refine ⟨A, c, w, ?_, by simpa using harr, Fr.refl _ _, fun k hk => .inl hk, old⟩
    rcases harr.2 with ⟨rfl, rfl, rfl⟩ | ⟨g, cur, rfl, _, hnc, _⟩
    · simp [Builtin.append_, run_underlying ht, sizeOf, typeInfo, hi, Builtin.lenOf, Builtin.firstCells]
    · simp [Builtin.append_, run_underlying ht, sizeOf, typeInfo, hi, Builtin.lenOf, Builtin.firstCells, hnc, storeCells]
  | some a =>
    have hcells : ∀ j u, news[j]? = some u → w.cell? (a.add j) = some u := by
      intro j u hu
      rcases Nat.eq_zero_or_pos m with h0 | h0
      · subst h0
        have hn : news = [] := List.eq_nil_of_length_eq_zero (by simpa using hsrc.1)
        subst hn
        simp at hu
      · exact (hsrc.2.2.2.2 a rfl h0).2.2 j u hu
    have grown : ∀ (old : Nat), old < n + m →
        Arr (w.drew.alloc (.cells (xs.toArray ++ news.toArray ++ Builtin.zeroCells z.cells (grownCap w (n + m) old e - (n + m))) e)) e i.size
          (some ⟨w.heap.size, 0, none⟩) (n + m) (grownCap w (n + m) old e) (xs ++ news) := by
      intro old ho
      have hge := grownCap_ge w (n + m) old e
      have hcm : grownCap w (n + m) old e ≤ maxLen := grownCap_le_maxLen w (n + m) old e h63
      refine ⟨hlen, .inr ⟨w.heap.size, _, rfl, heap_alloc_new w.drew _, hge, hcm, ?_, ?_⟩⟩
      · simp only [Array.size_append, List.size_toArray, size_zeroCells, hzs, harr.1, hsrc.1, ← Nat.add_mul]
        refine Nat.mul_le_mul_right _ ?_
        omega
      · simp only [Array.toList_append, List.append_assoc]
        rw [← List.append_assoc, ← hlen]
        exact List.take_left
    have fresh : ∀ (o : Obj), Fr (InB A) w (w.drew.alloc o) := fun o => ((Fr.refl _ _).drew).alloc o
    rcases harr.2 with ⟨rfl, rfl, rfl⟩ | ⟨g, cur, rfl, hb, hnc, hcm, hcs, htake⟩
    · have hx : xs = [] := List.eq_nil_of_length_eq_zero (by simpa using harr.1)
      subst hx
      by_cases hm : m = 0
      · subst hm
        have hn : news = [] := List.eq_nil_of_length_eq_zero (by simpa using hsrc.1)
        subst hn
        refine ⟨none, 0, w, ?_, Arr.none_ w e i.size, Fr.refl _ _, fun k hk => .inl hk, fun _ h => by cases h⟩
        simp [Builtin.append_, run_underlying ht, sizeOf, typeInfo, hi, Builtin.lenOf, Builtin.firstCells, loadCells, loadCellsFrom]
      · have hr := run_append_nil (P := P) w t ty e i z ht hi hz a m d news hsrc.1 hcells (by omega) (by omega) (by have hb := hbytes; simp only [Nat.zero_add] at hb; omega)
        have hgr := grown 0 (by omega)
        simp only [Nat.zero_add, List.nil_append, Array.empty_append] at hgr ⊢
        exact ⟨_, _, _, hr, hgr, fresh _, fun k hk => .inr (by rw [InB.some_] at hk; exact Nat.le_of_eq hk), fun _ h => by cases h⟩
    · have hb' : w.heap[g]? = some (.cells cur e (0, 0)) := hb
      by_cases hroom : n + m ≤ c
      · have hfit : n * i.size + news.length ≤ cur.size := by
          rw [hsrc.1, ← Nat.add_mul]
          exact Nat.le_trans (Nat.mul_le_mul_right _ hroom) hcs
        have hr := run_append_room (P := P) w t ty e i ht hi g n c cur hb' a m d news hsrc.1 hcells h1 hroom hfit
        refine ⟨_, _, _, hr, ⟨hlen, .inr ⟨g, _, rfl, setRow_heap w g cur _ e _ hb', hroom, hcm, ?_, ?_⟩⟩, ⟨rfl, rfl, rfl, by simp, fun k _ hk => setRow_other w g k _ (fun e => hk (by simp [InB, e]))⟩, fun k hk => .inl hk, ?_⟩
        · simp only [List.size_toArray, List.length_append, List.length_take, List.length_drop, Array.length_toList]
          omega
        · rw [htake, ← hlen]
          exact List.take_left
        · intro a ha
          cases ha
          have hb2 : Bk (w.setRow g (cur.toList.take (n * i.size) ++ news ++ cur.toList.drop (n * i.size + news.length)).toArray) g e (cur.toList.take (n * i.size) ++ news ++ cur.toList.drop (n * i.size + news.length)).toArray := setRow_heap w g cur _ e _ hb'
          refine At.of_bk (o := 0) (n := n * i.size) hb2 ?_
          simp only [List.drop_zero, htake]
          rw [List.append_assoc, ← harr.1]
          exact List.take_left
      · have holds : ∀ j u, xs[j]? = some u → w.cell? ((⟨g, 0, none⟩ : Addr).add j) = some u := At.of_bk (o := 0) (n := n * i.size) hb (by simpa using htake)
        have hr := run_append_grow (P := P) w t ty e i z ht hi hz ⟨g, 0, none⟩ n c xs harr.1 holds a m d news hsrc.1 hcells (by omega) (by omega) (growslice_fits (by omega) hbytes)
        have hgr := grown c (by omega)
        exact ⟨_, _, _, hr, hgr, fresh _, fun k hk => .inr (by rw [InB.some_] at hk; exact Nat.le_of_eq hk),
          fun a ha => (old a ha).keep fun p hp => by
            cases ha
            exact World.cell?_alloc_lt w.drew _ p (by rw [hp]; exact hb.lt)⟩

/-- The same as one operation. -/
theorem wp_append_arr {o : Oper} {a : Act} {K : Act → World → Prop} {Q : Exit → Act → World → Prop} (s x : Operand) (t : TypeId)
    (ho : o.op = .call { callee := .builtin .append, args := #[s, x], argTypes := #[t, t] })
    (e : TypeId) (i : TypeInfo) (z : Value) (size bytes : Nat) (ht : P.underlying t = some (.slice e)) (hi : P.info? e = some i) (hz : i.zero = some z)
    (hsize : i.size = size) (hby : i.bytes = bytes) (hzs : z.cells.size = size)
    (A : Option Addr) (n c : Nat) (xs : List Value) (hs : a.eval s = .slice A n c) (harr : Arr w e size A n c xs)
    (S : Nat → Prop) (B : Option Addr) (m d : Nat) (news : List Value) (hx : a.eval x = .slice B m d) (hsrc : Rd w S size B m d news) (h1 : ∀ u ∈ news, u.oneCell' = true)
    (h63 : n + m ≤ maxLen) (hbytes : (n + m) * bytes ≤ 140737488355328)
    (h : ∀ A' c' w', Arr w' e size A' (n + m) c' (xs ++ news) → Fr (InB A) w w' → (∀ k, InB A' k → InB A k ∨ w.heap.size ≤ k) → (∀ a, A = some a → At w' a xs) → K (a.put o.dst (.slice A' (n + m) c')) w') : o.wp P a w K Q := by
  obtain ⟨A', c', w', hr, h2, h3, h4, h5⟩ := run_append_arr (P := P) w t o.type e i z size bytes ht hi hz hsize hby hzs harr hsrc h1 h63 hbytes
  unfold Oper.wp execOp
  simp only [ho, resolve, invoke, builtin, Sem.run_bind, Sem.run_pure, Result.andThen_ok, List.map_toArray, List.map_cons, List.map_nil, hs, hx, hr]
  exact h A' c' w' h2 h3 h4 h5

/-- .. in a region whose order is the text's. -/
theorem wpList_append_arr {ops : Array Oper} {rest : List Oper} {o : Oper} {a : Act} {Q : Exit → Act → World → Prop} (hgd : o.guard = none) (s x : Operand) (t : TypeId)
    (ho : o.op = .call { callee := .builtin .append, args := #[s, x], argTypes := #[t, t] })
    (e : TypeId) (i : TypeInfo) (z : Value) (size bytes : Nat) (ht : P.underlying t = some (.slice e)) (hi : P.info? e = some i) (hz : i.zero = some z)
    (hsize : i.size = size) (hby : i.bytes = bytes) (hzs : z.cells.size = size)
    (A : Option Addr) (n c : Nat) (xs : List Value) (hs : a.eval s = .slice A n c) (harr : Arr w e size A n c xs)
    (S : Nat → Prop) (B : Option Addr) (m d : Nat) (news : List Value) (hx : a.eval x = .slice B m d) (hsrc : Rd w S size B m d news) (h1 : ∀ u ∈ news, u.oneCell' = true)
    (h63 : n + m ≤ maxLen) (hbytes : (n + m) * bytes ≤ 140737488355328)
    (h : ∀ A' c' w', Arr w' e size A' (n + m) c' (xs ++ news) → Fr (InB A) w w' → (∀ k, InB A' k → InB A k ∨ w.heap.size ≤ k) → (∀ a, A = some a → At w' a xs) → wpList P ops Q rest (a.put o.dst (.slice A' (n + m) c')) w') : wpList P ops Q (o :: rest) a w :=
  wpList_plain hgd fun _ hK => wp_append_arr w s x t ho e i z size bytes ht hi hz hsize hby hzs A n c xs hs harr S B m d news hx hsrc h1 h63 hbytes fun A' c' w' h2 h3 h4 h5 => hK _ _ (h A' c' w' h2 h3 h4 h5)

/-- .. in a region that draws its order. -/
theorem step_append_arr {ops : Array Oper} {o : Oper} {a : Act} {K : Act → World → Prop} {Q : Exit → Act → World → Prop} {E : Prop} (hgd : o.guard = none) (s x : Operand) (t : TypeId)
    (ho : o.op = .call { callee := .builtin .append, args := #[s, x], argTypes := #[t, t] })
    (e : TypeId) (i : TypeInfo) (z : Value) (size bytes : Nat) (ht : P.underlying t = some (.slice e)) (hi : P.info? e = some i) (hz : i.zero = some z)
    (hsize : i.size = size) (hby : i.bytes = bytes) (hzs : z.cells.size = size)
    (A : Option Addr) (n c : Nat) (xs : List Value) (hs : a.eval s = .slice A n c) (harr : Arr w e size A n c xs)
    (S : Nat → Prop) (B : Option Addr) (m d : Nat) (news : List Value) (hx : a.eval x = .slice B m d) (hsrc : Rd w S size B m d news) (h1 : ∀ u ∈ news, u.oneCell' = true)
    (h63 : n + m ≤ maxLen) (hbytes : (n + m) * bytes ≤ 140737488355328)
    (h : ∀ A' c' w', Arr w' e size A' (n + m) c' (xs ++ news) → Fr (InB A) w w' → (∀ k, InB A' k → InB A k ∨ w.heap.size ≤ k) → (∀ a, A = some a → At w' a xs) → K (a.put o.dst (.slice A' (n + m) c')) w') :
    if Region.wanted o (yielded ops a.tmps) = true then Oper.wp P o a w K Q else E := by
  have hw : Region.wanted o (yielded ops a.tmps) = true := by simp [Region.wanted, hgd]
  rw [if_pos hw]
  exact wp_append_arr w s x t ho e i z size bytes ht hi hz hsize hby hzs A n c xs hs harr S B m d news hx hsrc h1 h63 hbytes h
end

/-- Bytes as cells. -/
def bv (l : List UInt8) : List Value := l.map fun x => Value.int .u8 (x.toNat : Int)
theorem bv_len (l : List UInt8) : (bv l).length = l.length := by simp [bv]
theorem bv_one (l : List UInt8) : ∀ u ∈ bv l, u.oneCell' = true := by
  intro u hu
  obtain ⟨x, _, rfl⟩ := List.mem_map.1 hu
  rfl

/-- 'string(b)'. -/
theorem run_conv_rd {P : Program} (w : World) (src dst e : TypeId) (hs : P.underlying src = some (.slice e)) (he : P.underlying e = some (.int .u8)) (hd : P.underlying dst = some .string)
    {S : Nat → Prop} {A : Option Addr} {c : Nat} (l : List UInt8) (h : Rd w S 1 A l.length c (bv l)) : (convert src dst (.slice A l.length c)).run P w = .ok (.string ⟨l.toArray⟩) w := by
  cases A with
  | none =>
    obtain ⟨h0, _⟩ := h.2.2.2.1 rfl
    have hl : l = [] := List.eq_nil_of_length_eq_zero h0
    subst hl
    exact run_convert_bytes_nil (P := P) w src e hs he _ _ dst hd
  | some a =>
    refine run_convert_bytes_back w src dst e a c l hs he hd fun j hj => ?_
    refine (h.2.2.2.2 a rfl (by omega)).2.2 j _ ?_
    simp [bv, List.getElem?_eq_getElem hj]

/-- A new row of bytes, its mark whatever. -/
theorem rd_bytes_new (w : World) (e : TypeId) (l : List UInt8) (fr : Nat × Nat) (hl : l.length ≤ maxLen) :
    Rd (w.alloc (.cells (bv l).toArray e fr)) (fun k => k = w.heap.size) 1 (some ⟨w.heap.size, 0, none⟩) l.length l.length (bv l) := by
  refine ⟨by simp [bv], Nat.le_refl _, hl, (fun h => by cases h), fun a ha _ => ?_⟩
  cases ha
  refine ⟨rfl, by simp, fun j u hu => ?_⟩
  rw [addr_lit, Nat.zero_add, World.cell?_alloc_mark]
  simpa using hu

end Go.Proofs.Ytmbabgaanpjmpaa
