/- The document's disk: contracts of New, Lasts, Read, Write. -/
import Derived.Test.YtghddmdehbacaaaRefFull
namespace Go.Proofs.Ytghddmdehbacaaa
open Go.RowKit

section
variable {T U V : Nat → Prop} {w w1 : World} {p : Nat} {L : List (List UInt8)} {q : List (Nat × List UInt8)}
theorem LIs.fr {v : Value} {s : List UInt8} (h : LIs w U v s) (hf : Fr V w w1) (hn : ∀ k, U k → ¬ V k) : LIs w1 U v s := by
  obtain ⟨A, c, e, hl, hr⟩ := h
  exact ⟨A, c, e, hl, hr.fr hf (fun k _ h => hn k h)⟩
theorem LIs.mono {U' : Nat → Prop} {v : Value} {s : List UInt8} (h : LIs w U v s) (hn : ∀ k, U k → U' k) : LIs w U' v s := by
  obtain ⟨A, c, e, hl, hr⟩ := h
  exact ⟨A, c, e, hl, hr.mono hn⟩
theorem QIs.fr {cs : List Value} {x : Nat × List UInt8} (h : QIs w U cs x) (hf : Fr V w w1) (hn : ∀ k, U k → ¬ V k) : QIs w1 U cs x := by
  obtain ⟨A, c, e, hl, hr⟩ := h
  exact ⟨A, c, e, hl, hr.fr hf (fun k _ h => hn k h)⟩
theorem QIs.mono {U' : Nat → Prop} {cs : List Value} {x : Nat × List UInt8} (h : QIs w U cs x) (hn : ∀ k, U k → U' k) : QIs w U' cs x := by
  obtain ⟨A, c, e, hl, hr⟩ := h
  exact ⟨A, c, e, hl, hr.mono hn⟩
theorem RefAt.fr (h : RefAt w T U p L q) (hf : Fr V w w1) (hT : ∀ k, T k → ¬ V k) (hU : ∀ k, U k → ¬ V k) : RefAt w1 T U p L q := by
  obtain ⟨⟨gl, Aq, cq, vs, css, hb, hg, hvs, hL, ha, hc, hq, tg, tq⟩, h1, h2, h3, h4, h5, h6, h7⟩ := h
  have hs := hf.size
  exact ⟨⟨gl, Aq, cq, vs, css, hb.fr hf (hT p h1), hg.fr hf (hT gl tg), hvs, fun i v s hv hl => (hL i v s hv hl).fr hf hU, ha.fr hf (fun k hk => hT k (tq k hk)), hc, fun i cs x h h' => (hq i cs x h h').fr hf hU, tg, tq⟩, h1, h2,
    fun k hk => by have := h3 k hk; omega, fun k hk => by have := h4 k hk; omega, h5, h6, h7⟩
theorem RefAt.words (h : RefAt w T U p L q) : ∃ gl Aq cq, w.cell? ⟨p, 0, none⟩ = some (.slice (some ⟨gl, 0, none⟩) L.length L.length) ∧ w.cell? ⟨p, 1, none⟩ = some (.slice Aq q.length cq) := by
  obtain ⟨⟨gl, Aq, cq, vs, css, hb, _⟩, _⟩ := h
  exact ⟨gl, Aq, cq, hb.cell 0, hb.cell 1⟩
/-- The cells of a write in the queue. -/
theorem css_q {css : List (List Value)} (hc : css.length = q.length) (hq : ∀ (i : Nat) cs x, css[i]? = some cs → q[i]? = some x → QIs w U cs x) : ∀ cs ∈ css, cs.length = 2 := by
  intro cs hcs
  obtain ⟨k, hk⟩ := List.getElem?_of_mem hcs
  have hkl : k < q.length := by have := (List.getElem?_eq_some_iff.1 hk).1; omega
  obtain ⟨A, c, rfl, _⟩ := hq k cs _ hk (List.getElem?_eq_getElem hkl)
  rfl
theorem q_cells {Aq : Option Addr} {cq : Nat} {css : List (List Value)} (ha : Arr w 62 2 Aq q.length cq css.flatten) (hc : css.length = q.length) (hq : ∀ (i : Nat) cs x, css[i]? = some cs → q[i]? = some x → QIs w U cs x) {j : Nat} {x : Nat × List UInt8} (hj : q[j]? = some x) :
    ∃ g A c, Aq = some ⟨g, 0, none⟩ ∧ w.cell? ⟨g, j * 2, none⟩ = some (.int .i64 x.1) ∧ w.cell? ⟨g, j * 2 + 1, none⟩ = some (.slice A 256 c) ∧ x.2.length = 256 ∧ Rd w U 1 A 256 c (bv x.2) := by
  have hjl : j < q.length := (List.getElem?_eq_some_iff.1 hj).1
  have h2 := css_q hc hq
  obtain ⟨A, c, e, hl, hr⟩ := hq j css[j] x (List.getElem?_eq_getElem (by omega)) hj
  have hcs' : css[j]? = some [.int .i64 x.1, .slice A 256 c] := by rw [List.getElem?_eq_getElem (by omega), e]
  rcases ha.2 with ⟨_, h', _⟩ | ⟨g, cur, rfl, hb, hnc, _, _, htk⟩
  · omega
  · have hat : At w ⟨g, 0, none⟩ css.flatten := At.of_bk (o := 0) (n := q.length * 2) hb (by simpa using htk)
    have cell : ∀ i u, ([.int .i64 x.1, .slice A 256 c] : List Value)[i]? = some u → i < 2 → w.cell? ⟨g, j * 2 + i, none⟩ = some u := by
      intro i u hu hi
      have := hat (j * 2 + i) u (by rw [flat_get h2 hcs' hi]; exact hu)
      rw [addr_lit] at this
      simpa using this
    exact ⟨g, A, c, rfl, cell 0 _ rfl (by omega), cell 1 _ rfl (by omega), hl, hr⟩
end

/-- New. -/
def RefNewPost (m : Int) (w : World) (e : Ending) (w' : World) : Prop :=
  (1 ≤ m ∧ m ≤ 8192 ∧ ∃ p T, w.heap.size ≤ p ∧ e = .returned (.tuple #[.pointer (some ⟨p, 0, none⟩), .int .i64 0]) ∧ RefAt w' T NoB p (List.replicate m.toNat []) [] ∧ Up w.heap.size T ∧ Fr NoB w w') ∨
  (¬ (1 ≤ m ∧ m ≤ 8192) ∧ e = .returned (.tuple #[.pointer none, .int .i64 1]) ∧ Fr NoB w w')

theorem info27 : (Try.prog.info? 27).map (fun i => (i.zero, i.size, i.bytes)) = some (some (.slice none 0 0), 1, 24) := by kernel_rfl
def nils (m : Nat) : Array Value := madeCells #[.slice none 0 0] (m * 1)
theorem nils_size (m : Nat) : (nils m).size = m := by simp [nils, size_madeCells]
theorem nils_get {m i : Nat} {v : Value} (h : (nils m)[i]? = some v) : v = .slice none 0 0 := by
  unfold nils madeCells at h
  rw [Array.getElem?_map, Option.map_eq_some_iff] at h
  obtain ⟨j, _, rfl⟩ := h
  show (#[Value.slice none 0 0] : Array Value)[j % 1]! = _
  rw [Nat.mod_one]
  rfl

theorem refNew_any (m : Int) (w : World) : Calls Try.prog 15 #[.int .i64 m] w (RefNewPost m w) := by
  obtain ⟨i0, hi0, hz0, hz1, hz2⟩ := info_parts info27
  by_cases h1 : m < 1
  · go_enter Try.func15, Try.ntmps15
    go_wp2
    go_ret2
    exact .inr ⟨by omega, rfl, Fr.refl _ _⟩
  by_cases h2 : 8192 < m
  · go_enter Try.func15, Try.ntmps15
    go_wp2
    go_ret2
    exact .inr ⟨by omega, rfl, Fr.refl _ _⟩
  obtain ⟨k, rfl⟩ := Int.eq_ofNat_of_zero_le (by omega : 0 ≤ m)
  have hmk : ∀ u : World, (Instr.makeSlice 42 (.int .i64 (k : Int)) (.int .i64 (k : Int))).run Try.prog u = .ok (.slice (some ⟨u.heap.size, 0, none⟩) k k) (u.alloc (.cells (nils k) 27)) := fun u => by
    have h := run_make (P := Try.prog) u 42 27 i0 (.slice none 0 0) Try.underlying42 hi0 hz0 .i64 .i64 k k (by omega) (Int.le_refl _) (by rw [hz2]; omega) (by omega)
    rw [hz1, Int.toNat_natCast] at h
    exact h
  have hp : RefAt ((w.alloc (.cells (nils k) 27)).alloc (.cells #[.slice (some ⟨w.heap.size, 0, none⟩) k k, .slice none 0 0] 45)) (fun j => w.heap.size ≤ j ∧ j ≤ w.heap.size + 1) NoB (w.heap.size + 1) (List.replicate k []) [] := by
    have b1 := Bk.new w 27 (nils k)
    have e1 : (w.alloc (.cells (nils k) 27)).heap.size = w.heap.size + 1 := by simp
    have b2 := Bk.new (w.alloc (.cells (nils k) 27)) 45 #[.slice (some ⟨w.heap.size, 0, none⟩) k k, .slice none 0 0]
    rw [e1] at b2
    have fB : Fr NoB (w.alloc (.cells (nils k) 27)) ((w.alloc (.cells (nils k) 27)).alloc (.cells #[.slice (some ⟨w.heap.size, 0, none⟩) k k, .slice none 0 0] 45)) := (Fr.refl _ _).alloc _
    refine ⟨⟨w.heap.size, none, 0, nils k, [], by rw [List.length_replicate]; exact b2, b1.fr fB (fun h => h), by rw [nils_size, List.length_replicate], fun i v s hv hl => ?_, Arr.none_ _ _ _, rfl, by simp, by omega, fun k hk => (InB.none_ k hk).elim⟩, by omega, fun _ _ h => h, fun j hj => by simp; omega, fun j hj => hj.elim, by simp, by rw [List.length_replicate]; omega, by rw [List.length_replicate]; omega⟩
    have := nils_get hv
    subst this
    have hs := (List.mem_replicate.1 (List.mem_of_getElem? hl)).2
    subst hs
    exact ⟨none, 0, rfl, .inl rfl, Rd.none_ _ _ _⟩
  have HP := Lib.hid hp
  clear hp
  go_enter Try.func15, Try.ntmps15
  go_wp2_with fail
  go_ret2
  exact .inl ⟨by omega, by omega, w.heap.size + 1, _, by omega, rfl, HP.out, fun k hk => hk.1, ((Fr.refl NoB w).alloc _).alloc _⟩

def RefReadPost (U : Nat → Prop) (w : World) (s : List UInt8) (e : Ending) (w' : World) : Prop :=
  ∃ A c, e = .returned (.tuple #[.slice A 256 c, .int .i64 0]) ∧ Rd w' (fun k => U k ∨ w.heap.size ≤ k) 1 A 256 c (bv s) ∧ Fr NoB w w'

theorem refLasts_none {T U : Nat → Prop} {p : Nat} {L : List (List UInt8)} {q : List (Nat × List UInt8)} (i : Int) (w : World) (h : RefAt w T U p L q) (hi : hasB L.length i = false) :
    Calls Try.prog 23 #[.pointer (some ⟨p, 0, none⟩), .int .i64 i] w fun e w' => e = .returned (.tuple #[.slice none 0 0, .int .i64 6]) ∧ w = w' := by
  obtain ⟨gl, Aq, cq, c0, _⟩ := h.words
  have hi' := of_decide_eq_false hi
  clear h
  by_cases h1 : i < 0
  · go_enter Try.func23, Try.ntmps23
    go_wp2_with fail
    go_ret2
    exact ⟨rfl, rfl⟩
  · have h2 : (L.length : Int) ≤ i := by omega
    go_enter Try.func23, Try.ntmps23
    go_wp2_with fail
    go_ret2
    exact ⟨rfl, rfl⟩

theorem refLasts_some {T U : Nat → Prop} {p : Nat} {L : List (List UInt8)} {q : List (Nat × List UInt8)} (k : Nat) (s : List UInt8) (w : World) (h : RefAt w T U p L q) (hk : L[k]? = some s) :
    Calls Try.prog 23 #[.pointer (some ⟨p, 0, none⟩), .int .i64 k] w fun e w' => ∃ x, w.heap.size ≤ x ∧ e = .returned (.tuple #[.slice (some ⟨x, 0, none⟩) 256 256, .int .i64 0]) ∧ Arr w' 5 1 (some ⟨x, 0, none⟩) 256 256 (bv (full s)) ∧ Fr NoB w w' := by
  obtain ⟨⟨gl, Aq, cq, vs, css, hb, hg, hvs, hL, _⟩, _⟩ := h
  have hkl : k < L.length := (List.getElem?_eq_some_iff.1 hk).1
  have c0 : w.cell? ⟨p, 0, none⟩ = some (.slice (some ⟨gl, 0, none⟩) L.length L.length) := hb.cell 0
  obtain ⟨v, hv⟩ : ∃ v, vs[k]? = some v := ⟨_, Array.getElem?_eq_getElem (by omega)⟩
  obtain ⟨A, c, rfl, hl, hr⟩ := hL k v s hv hk
  have c1 : w.cell? ⟨gl, k, none⟩ = some (.slice A s.length c) := (hg.cell k).trans hv
  have d0 : decide ((k : Int) < 0) = false := decide_eq_false (by omega)
  have d1 : decide (L.length ≤ k) = false := decide_eq_false (by omega)
  clear hb hg
  go_enter Try.func23, Try.ntmps23
  go_wp2_with fail
  refine (full_any A c s w hr (by omega)).mono ?_
  rintro e w1 ⟨x, hx, rfl, harr, hf⟩
  go_wp2_with fail
  go_ret2
  exact ⟨x, hx, rfl, harr, hf⟩

/-- Read's state behind j of the queue. -/
def RD (wl : World) (V : Nat → Prop) (q : List (Nat × List UInt8)) (F : List (List UInt8)) (i : Nat) (g : Nat) (v6 v21 : Value) (wr : World) : Prop :=
  ∃ (j : Nat) (A : Option Addr) (c : Nat) (s : List UInt8), j ≤ q.length ∧ g = q.length - j ∧ v21 = .int .i64 j ∧ v6 = .slice A 256 c ∧ (apply (q.take j) F)[i]? = some s ∧ Rd wr V 1 A 256 c (bv s) ∧ Fr NoB wl wr

theorem refRead_some {T U : Nat → Prop} {p : Nat} {L : List (List UInt8)} {q : List (Nat × List UInt8)} (k : Nat) (s : List UInt8) (w : World) (h : RefAt w T U p L q) (hk : (apply q (L.map full))[k]? = some s) (hql : q.length ≤ 16777215) :
    Calls Try.prog 22 #[.pointer (some ⟨p, 0, none⟩), .int .i64 k] w (RefReadPost U w s) := by
  have hkl : k < L.length := by have := (List.getElem?_eq_some_iff.1 hk).1; rwa [apply_len, List.length_map] at this
  have hla := refLasts_some k L[k] w h (List.getElem?_eq_getElem hkl)
  obtain ⟨⟨gl, Aq, cq, vs, css, hb, hg, hvs, hL, ha, hc, hq, tg, tq⟩, ho, hdis, hltT, hltU, hqo, _, _⟩ := h
  have c1 : w.cell? ⟨p, 1, none⟩ = some (.slice Aq q.length cq) := hb.cell 1
  clear hb hg hL
  go_enter Try.func22, Try.ntmps22
  go_wp2_with fail
  refine hla.mono ?_
  rintro e w1 ⟨x, hx, rfl, harr, hf⟩
  have y1 := hf.cell_some c1 (fun h => h)
  have ha1 := ha.fr hf (fun _ _ h => h)
  have hq1 : ∀ (i : Nat) cs x, css[i]? = some cs → q[i]? = some x → QIs w1 U cs x := fun i cs x h h' => (hq i cs x h h').fr hf (fun _ _ h => h)
  have HN : Hid (RD w1 (fun j => U j ∨ w.heap.size ≤ j) q (L.map full) k q.length (.slice (some ⟨x, 0, none⟩) 256 256) (.int .i64 (0 : Nat)) w1) :=
    ⟨0, some ⟨x, 0, none⟩, 256, full L[k], Nat.zero_le _, rfl, rfl, rfl, by simp [apply, hkl], harr.rd.mono (fun j hj => by rw [InB.some_] at hj; simp only [] at hj; exact .inr (by omega)), Fr.refl _ _⟩
  clear harr
  go_wp2_with fail
  go_loopg [6, 21] q.length (fun g v6 v21 wr => RD w1 (fun j => U j ∨ w.heap.size ≤ j) q (L.map full) k g v6 v21 wr)
  case atStart => exact HN
  case round =>
    obtain ⟨j, A, c, t, hj, rfl, rfl, rfl, ht, hrd, hfr⟩ := hrel
    by_cases hjl : j < q.length
    · obtain ⟨y, hy⟩ : ∃ y, q[j]? = some y := ⟨_, List.getElem?_eq_getElem hjl⟩
      have hqr : ∀ (i : Nat) cs x, css[i]? = some cs → q[i]? = some x → QIs wr U cs x := fun i cs x h h' => (hq1 i cs x h h').fr hfr (fun _ _ h => h)
      obtain ⟨g, A', c', rfl, z0, z1, zl, zr⟩ := q_cells (ha1.fr hfr (fun _ _ h => h)) hc hqr hy
      have hsn := apply_take_succ hy (L.map full)
      have HS := Lib.hid hsn
      have HY := Lib.hid hy
      have HT := Lib.hid ht
      have fN : ∀ o, Fr NoB wr (wr.alloc o) := fun o => (Fr.refl _ _).alloc o
      clear hsn hy ht
      obtain ⟨y1', y2'⟩ := y
      simp only [] at z0 z1 zl zr HS
      by_cases hyk : y1' = k
      · subst hyk
        go_wp2_with fail
        go_roundg (q.length - (j + 1))
        case measure => omega
        case rel => exact ⟨j + 1, A', c', y2', by omega, rfl, by go_num, rfl, by rw [HS.out, List.getElem?_set_self (by rw [apply_len, List.length_map]; exact hkl)], (zr.mono (fun _ h => .inl h)).fr (fN _) (fun _ _ _ h => h), hfr.alloc _⟩
      · have hyk' : ((y1' : Int) == (k : Int)) = false := by simp; omega
        go_wp2_with fail
        go_roundg (q.length - (j + 1))
        case measure => omega
        case rel => exact ⟨j + 1, A, c, t, by omega, rfl, by go_num, rfl, by rw [HS.out, List.getElem?_set_ne hyk]; exact HT.out, hrd.fr (fN _) (fun _ _ _ h => h), hfr.alloc _⟩
    · obtain rfl : j = q.length := by omega
      rw [List.take_length, hk] at ht
      cases ht
      go_wp2_with fail
      go_ret2
      exact ⟨A, c, rfl, hrd, hf.trans hfr⟩

theorem refRead_none {T U : Nat → Prop} {p : Nat} {L : List (List UInt8)} {q : List (Nat × List UInt8)} (i : Int) (w : World) (h : RefAt w T U p L q) (hi : hasB L.length i = false) (hql : q.length ≤ 16777215) :
    Calls Try.prog 22 #[.pointer (some ⟨p, 0, none⟩), .int .i64 i] w (ReadNone w) := by
  have hla := refLasts_none i w h hi
  have hi' := of_decide_eq_false hi
  obtain ⟨⟨gl, Aq, cq, vs, css, hb, hg, hvs, hL, ha, hc, hq, tg, tq⟩, ho, hdis, hltT, hltU, hqo, _, _⟩ := h
  have c1 : w.cell? ⟨p, 1, none⟩ = some (.slice Aq q.length cq) := hb.cell 1
  clear hb hg hL
  go_enter Try.func22, Try.ntmps22
  go_wp2_with fail
  refine hla.mono ?_
  rintro e w1 ⟨rfl, rfl⟩
  go_wp2_with fail
  go_loopg [6, 21] q.length (fun g v6 v21 wr => ∃ j : Nat, j ≤ q.length ∧ g = q.length - j ∧ v21 = .int .i64 j ∧ v6 = .slice none 0 0 ∧ Fr NoB w wr)
  case atStart => exact ⟨0, Nat.zero_le _, rfl, rfl, rfl, Fr.refl _ _⟩
  case round =>
    obtain ⟨j, hj, rfl, rfl, rfl, hfr⟩ := hrel
    by_cases hjl : j < q.length
    · obtain ⟨y, hy⟩ : ∃ y, q[j]? = some y := ⟨_, List.getElem?_eq_getElem hjl⟩
      have hqr : ∀ (i : Nat) cs x, css[i]? = some cs → q[i]? = some x → QIs wr U cs x := fun i cs x h h' => (hq i cs x h h').fr hfr (fun _ _ h => h)
      obtain ⟨g, A', c', rfl, z0, z1, zl, zr⟩ := q_cells (ha.fr hfr (fun _ _ h => h)) hc hqr hy
      have hyl := hqo y (List.mem_of_getElem? hy)
      have hyk' : ((y.1 : Int) == i) = false := by simp; omega
      clear hy
      go_wp2_with fail
      go_roundg (q.length - (j + 1))
      case measure => omega
      case rel => exact ⟨j + 1, by omega, rfl, by go_num, rfl, hfr.alloc _⟩
    · obtain rfl : j = q.length := by omega
      go_wp2_with fail
      go_ret2
      exact ⟨rfl, hfr⟩
end Go.Proofs.Ytghddmdehbacaaa
