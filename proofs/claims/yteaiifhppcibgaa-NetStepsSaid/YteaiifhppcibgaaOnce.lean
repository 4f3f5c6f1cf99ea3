/- NetOnce: the walk. -/
import Derived.Test.YteaiifhppcibgaaStepsIn
import Derived.Test.YteaiifhppcibgaaOnceLaw
import Derived.Deep.LoopGhost
namespace Go.Proofs.Yteaiifhppcibgaa
open Go.RowKit

def mcells (m : Msg) : List Value := [.int .i64 m.f, .int .i64 m.t, .string ⟨m.b.toArray⟩]
def sentV (l : List Msg) : List Value := (l.map mcells).flatten
def cameV (l : List Bool) : List Value := l.map Value.bool

theorem info34 : (Try.prog.info? 34).map (fun i => (i.zero, i.size, i.bytes)) = some (some (.agg #[.int .i64 0, .int .i64 0, .string ByteArray.empty]), 3, 32) := by kernel_rfl
theorem info4 : (Try.prog.info? 4).map (fun i => (i.zero, i.size, i.bytes)) = some (some (.bool false), 1, 1) := by kernel_rfl

/-- The outer loop's state. -/
structure OW (ss : List StepS) (w : World) (n k : Nat) (A5 : Option Addr) (c5 : Nat) (A6 : Option Addr) (c6 : Nat) (S : Nat → Prop) (L sent : List Msg) (came : List Bool) (wr : World) : Prop where
  a5 : Arr wr 34 3 A5 sent.length c5 (sentV sent)
  a6 : Arr wr 4 1 A6 came.length c6 (cameV came)
  len : sent.length = came.length
  le : sent.length ≤ k
  net : NetAt wr S n 3 L
  perm : L.Perm (rem sent came)
  up : Up w.heap.size S
  fr : Fr NoB w wr
  i5 : ∀ j, InB A5 j → w.heap.size ≤ j ∧ ¬ S j
  i6 : ∀ j, InB A6 j → w.heap.size ≤ j ∧ ¬ S j

def OWs (ss : List StepS) (w : World) (n g : Nat) (v5 v6 v26 : Value) (wr : World) : Prop :=
  ∃ (k : Nat) (A5 : Option Addr) (c5 : Nat) (A6 : Option Addr) (c6 : Nat) (S : Nat → Prop) (L sent : List Msg) (came : List Bool), k ≤ ss.length ∧ k ≤ 300 ∧ g = ss.length - k ∧ v26 = .int .i64 k ∧
    v5 = .slice A5 sent.length c5 ∧ v6 = .slice A6 came.length c6 ∧ OW ss w n k A5 c5 A6 c6 S L sent came wr

/-- A send that went in: the two arrays grow. -/
theorem OW.ne56 {ss : List StepS} {w wr : World} {n k : Nat} {A5 : Option Addr} {c5 : Nat} {A6 : Option Addr} {c6 : Nat} {S : Nat → Prop} {L sent : List Msg} {came : List Bool}
    (h : OW ss w n k A5 c5 A6 c6 S L sent came wr) : ∀ j, InB A6 j → ¬ InB A5 j := fun j h6 h5 => by
  obtain ⟨c1, b1⟩ := h.a5.bk h5
  obtain ⟨c2, b2⟩ := h.a6.bk h6
  exact b1.types b2 (by decide) rfl

theorem OW.sent_ {ss : List StepS} {w wr W w2 w3 w4 : World} {n k : Nat} {A5 : Option Addr} {c5 : Nat} {A6 : Option Addr} {c6 : Nat} {S S2 : Nat → Prop} {L sent : List Msg} {came : List Bool} {m : Msg}
    (h : OW ss w n k A5 c5 A6 c6 S L sent came wr) (hW : Fr NoB wr W) (hn : NetAt w2 S2 n 3 (L ++ [m])) (hf2 : Fr S W w2) (hg : Gr S S2 W)
    {o3 o4 : Obj} {A7 : Option Addr} {c7 : Nat} (a7 : Arr w3 34 3 A7 (sent.length + 1) c7 (sentV sent ++ [.int .i64 m.f, .int .i64 m.t, .string ⟨m.b.toArray⟩])) (f3 : Fr (InB A5) (w2.alloc o3) w3) (i7 : ∀ j, InB A7 j → InB A5 j ∨ (w2.alloc o3).heap.size ≤ j)
    {A8 : Option Addr} {c8 : Nat} (a8 : Arr w4 4 1 A8 (came.length + 1) c8 (cameV came ++ [.bool false])) (f4 : Fr (InB A6) (w3.alloc o4) w4) (i8 : ∀ j, InB A8 j → InB A6 j ∨ (w3.alloc o4).heap.size ≤ j) :
    OW ss w n (k + 1) A7 c7 A8 c8 S2 (L ++ [m]) (sent ++ [m]) (came ++ [false]) w4 := by
  have z0 := h.fr.size
  have z1 := hW.size
  have z2 := hf2.size
  have z3 := f3.size
  have z4 := f4.size
  have e3 : (w2.alloc o3).heap.size = w2.heap.size + 1 := by simp
  have e4 : (w3.alloc o4).heap.size = w3.heap.size + 1 := by simp
  have l5 := h.a5.lt
  have l6 := h.a6.lt
  have l2 := hn.lt
  have s5 : ∀ j, InB A5 j → ¬ S2 j := fun j hj hs => by
    rcases hg j hs with h' | h'
    · exact (h.i5 j hj).2 h'
    · have := l5 j hj; omega
  have s6 : ∀ j, InB A6 j → ¬ S2 j := fun j hj hs => by
    rcases hg j hs with h' | h'
    · exact (h.i6 j hj).2 h'
    · have := l6 j hj; omega
  have ne56 : ∀ j, InB A5 j → ¬ InB A6 j := fun j h5 h6 => by
    obtain ⟨c1, b1⟩ := h.a5.bk h5
    obtain ⟨c2, b2⟩ := h.a6.bk h6
    exact b1.types b2 (by decide) rfl
  have g3 : Fr NoB w2 (w2.alloc o3) := (Fr.refl _ _).alloc o3
  have g4 : Fr NoB w3 (w3.alloc o4) := (Fr.refl _ _).alloc o4
  have a7' : Arr w4 34 3 A7 (sent.length + 1) c7 (sentV sent ++ [.int .i64 m.f, .int .i64 m.t, .string ⟨m.b.toArray⟩]) := (a7.fr g4 (fun _ _ h => h)).fr f4 (fun j hj h6 => by
    rcases i7 j hj with h' | h'
    · exact ne56 j h' h6
    · have := l6 j h6; omega)
  have n4 := (((hn.fr g3 (fun _ _ h => h)).fr f3 (fun j hj h5 => s5 j h5 hj)).fr g4 (fun _ _ h => h)).fr f4 (fun j hj h6 => s6 j h6 hj)
  refine ⟨?_, ?_, by simp [h.len], ?_, n4, ?_, hg.up h.up (by omega), ?_, ?_, ?_⟩
  · simpa [sentV, mcells] using a7'
  · simpa [cameV] using a8
  · have := h.le
    simp
    exact this
  · rw [rem_snoc _ h.len]
    exact h.perm.append_right _
  · have x2 := (h.fr.trans hW).up hf2 h.up
    have x3 := (x2.alloc o3).join f3 (fun j hj h5 => by have := (h.i5 j h5).1; omega)
    exact (x3.alloc o4).join f4 (fun j hj h6 => by have := (h.i6 j h6).1; omega)
  · intro j hj
    rcases i7 j hj with h' | h'
    · exact ⟨(h.i5 j h').1, s5 j h'⟩
    · exact ⟨by omega, fun hs => by have := l2 j hs; omega⟩
  · intro j hj
    rcases i8 j hj with h' | h'
    · exact ⟨(h.i6 j h').1, s6 j h'⟩
    · exact ⟨by omega, fun hs => by have := l2 j hs; omega⟩

/-- Nothing but the net and new blocks has turned. -/
theorem OW.turn {ss : List StepS} {w wr W w2 : World} {n k : Nat} {A5 : Option Addr} {c5 : Nat} {A6 : Option Addr} {c6 : Nat} {S S2 : Nat → Prop} {L L2 sent : List Msg} {came : List Bool}
    (h : OW ss w n k A5 c5 A6 c6 S L sent came wr) (hW : Fr NoB wr W) (hn : NetAt w2 S2 n 3 L2) (hf2 : Fr S W w2) (hg : Gr S S2 W) (hp : L2.Perm (rem sent came)) :
    OW ss w n (k + 1) A5 c5 A6 c6 S2 L2 sent came w2 := by
  have z0 := h.fr.size
  have z1 := hW.size
  have l5 := h.a5.lt
  have l6 := h.a6.lt
  refine ⟨(h.a5.fr hW (fun _ _ h => h)).fr hf2 (fun j hj => (h.i5 j hj).2), (h.a6.fr hW (fun _ _ h => h)).fr hf2 (fun j hj => (h.i6 j hj).2), h.len, by have := h.le; omega, hn, hp, hg.up h.up (by omega), (h.fr.trans hW).up hf2 h.up, ?_, ?_⟩
  · intro j hj
    refine ⟨(h.i5 j hj).1, fun hs => ?_⟩
    rcases hg j hs with h' | h'
    · exact (h.i5 j hj).2 h'
    · have := l5 j hj; omega
  · intro j hj
    refine ⟨(h.i6 j hj).1, fun hs => ?_⟩
    rcases hg j hs with h' | h'
    · exact (h.i6 j hj).2 h'
    · have := l6 j hj; omega

/-- A store into an own array of one-cell elements. -/
theorem Arr.store {w : World} {e : TypeId} {g n c : Nat} {xs : List Value} (h : Arr w e 1 (some ⟨g, 0, none⟩) n c xs) (j : Nat) (u : Value) : Arr (w.setCell ⟨g, j, none⟩ u) e 1 (some ⟨g, 0, none⟩) n c (xs.set j u) := by
  rcases h.2 with ⟨h', _⟩ | ⟨g', cur, e', hb, h1, h2, h3, h4⟩
  · cases h'
  · obtain rfl : g = g' := by simpa using e'
    refine ⟨by simpa using h.1, .inr ⟨g, _, rfl, hb.set j u, h1, h2, by simpa using h3, ?_⟩⟩
    rw [← h4]
    simp [List.take_set]

/-- The inner loop's state. -/
structure IW (w : World) (n : Nat) (A5 : Option Addr) (c5 : Nat) (A6 : Option Addr) (c6 : Nat) (S : Nat → Prop) (L sent : List Msg) (came : List Bool) (bm : Nat) (m : Msg) (A9 : Option Addr) (c9 : Nat) (wr : World) : Prop where
  a5 : Arr wr 34 3 A5 sent.length c5 (sentV sent)
  a6 : Arr wr 4 1 A6 came.length c6 (cameV came)
  net : NetAt wr S n 3 L
  box : Bk wr bm 36 #[.int .i64 m.f, .int .i64 m.t, .slice A9 m.b.length c9]
  a9 : Arr wr 5 1 A9 m.b.length c9 (bv m.b)
  fr : Fr NoB w wr
  i5 : ∀ j, InB A5 j → w.heap.size ≤ j ∧ ¬ S j
  i6 : ∀ j, InB A6 j → w.heap.size ≤ j ∧ ¬ S j

theorem IW.alloc {w wr : World} {n : Nat} {A5 : Option Addr} {c5 : Nat} {A6 : Option Addr} {c6 : Nat} {S : Nat → Prop} {L sent : List Msg} {came : List Bool} {bm : Nat} {m : Msg} {A9 : Option Addr} {c9 : Nat}
    (h : IW w n A5 c5 A6 c6 S L sent came bm m A9 c9 wr) (o : Obj) : IW w n A5 c5 A6 c6 S L sent came bm m A9 c9 (wr.alloc o) := by
  have f : Fr NoB wr (wr.alloc o) := (Fr.refl _ _).alloc o
  exact ⟨h.a5.fr f (fun _ _ h => h), h.a6.fr f (fun _ _ h => h), h.net.fr f (fun _ _ h => h), h.box.fr f (fun h => h), h.a9.fr f (fun _ _ h => h), h.fr.alloc o, h.i5, h.i6⟩

theorem IW.store {w wr : World} {n : Nat} {A5 : Option Addr} {c5 g6 : Nat} {c6 : Nat} {S : Nat → Prop} {L sent : List Msg} {came : List Bool} {bm : Nat} {m : Msg} {A9 : Option Addr} {c9 : Nat}
    (h : IW w n A5 c5 (some ⟨g6, 0, none⟩) c6 S L sent came bm m A9 c9 wr) (j : Nat) : IW w n A5 c5 (some ⟨g6, 0, none⟩) c6 S L sent (came.set j true) bm m A9 c9 (wr.setCell ⟨g6, j, none⟩ (.bool true)) := by
  have h6 : InB (some ⟨g6, 0, none⟩) g6 := by simp [InB]
  obtain ⟨cur, b6⟩ := h.a6.bk h6
  have f : Fr (fun k => k = g6) wr (wr.setCell ⟨g6, j, none⟩ (.bool true)) := Fr.setCell (S := fun k => k = g6) (p := ⟨g6, j, none⟩) (Fr.refl _ wr) (.inl rfl) _
  refine ⟨h.a5.fr f (fun k hk e => ?_), ?_, h.net.fr f (fun k hk e => ?_), h.box.fr f (fun e => ?_), h.a9.fr f (fun k hk e => ?_), ?_, h.i5, h.i6⟩
  · subst e
    obtain ⟨c1, b1⟩ := h.a5.bk hk
    exact b1.types b6 (by decide) rfl
  · have := h.a6.store j (.bool true)
    simpa [cameV, List.map_set] using this
  · subst e
    exact (h.i6 k h6).2 hk
  · subst e
    exact h.box.types b6 (by decide) rfl
  · subst e
    obtain ⟨c1, b1⟩ := h.a9.bk hk
    exact b1.types b6 (by decide) rfl
  · exact h.fr.join f (fun k hk e => by have := (h.i6 g6 h6).1; omega)

theorem IW.start {ss : List StepS} {w wr W w2 : World} {n k : Nat} {A5 : Option Addr} {c5 : Nat} {A6 : Option Addr} {c6 : Nat} {S S2 : Nat → Prop} {L L2 sent : List Msg} {came : List Bool} {m : Msg} {A9 : Option Addr} {c9 : Nat}
    (h : OW ss w n k A5 c5 A6 c6 S L sent came wr) (hW : Fr NoB wr W) (hn : NetAt w2 S2 n 3 L2) (hf2 : Fr S W w2) (hg : Gr S S2 W) (ha : Arr w2 5 1 A9 m.b.length c9 (bv m.b)) :
    IW w n A5 c5 A6 c6 S2 L2 sent came w2.heap.size m A9 c9 (w2.alloc (.cells #[.int .i64 m.f, .int .i64 m.t, .slice A9 m.b.length c9] 36)) := by
  have z1 := hW.size
  have l5 := h.a5.lt
  have l6 := h.a6.lt
  have f2 : Fr NoB w2 (w2.alloc (.cells #[.int .i64 m.f, .int .i64 m.t, .slice A9 m.b.length c9] 36)) := (Fr.refl _ _).alloc _
  refine ⟨((h.a5.fr hW (fun _ _ h => h)).fr hf2 (fun j hj => (h.i5 j hj).2)).fr f2 (fun _ _ h => h), ((h.a6.fr hW (fun _ _ h => h)).fr hf2 (fun j hj => (h.i6 j hj).2)).fr f2 (fun _ _ h => h), hn.fr f2 (fun _ _ h => h), Bk.new _ _ _, ha.fr f2 (fun _ _ h => h), ((h.fr.trans hW).up hf2 h.up).alloc _, ?_, ?_⟩
  · intro j hj
    refine ⟨(h.i5 j hj).1, fun hs => ?_⟩
    rcases hg j hs with h' | h'
    · exact (h.i5 j hj).2 h'
    · have := l5 j hj; omega
  · intro j hj
    refine ⟨(h.i6 j hj).1, fun hs => ?_⟩
    rcases hg j hs with h' | h'
    · exact (h.i6 j hj).2 h'
    · have := l6 j hj; omega

def IWs (w : World) (n : Nat) (A5 : Option Addr) (c5 : Nat) (A6 : Option Addr) (c6 : Nat) (S : Nat → Prop) (L sent : List Msg) (came : List Bool) (bm : Nat) (m : Msg) (A9 : Option Addr) (c9 : Nat) (g : Nat) (v11 v70 : Value) (wr : World) : Prop :=
  ∃ (j : Nat) (f : Bool) (came' : List Bool), j ≤ sent.length ∧ g = sent.length - j ∧ v11 = .bool f ∧ v70 = .int .i64 j ∧ Found sent came m j f came' ∧ IW w n A5 c5 A6 c6 S L sent came' bm m A9 c9 wr

theorem sentV_get {w : World} {A : Option Addr} {c : Nat} {sent : List Msg} (h : Arr w 34 3 A sent.length c (sentV sent)) {j : Nat} (hj : j < sent.length) :
    ∃ g x y z, sent[j]? = some ⟨x, y, z⟩ ∧ A = some ⟨g, 0, none⟩ ∧ w.cell? ⟨g, j * 3, none⟩ = some (.int .i64 x) ∧ w.cell? ⟨g, j * 3 + 1, none⟩ = some (.int .i64 y) ∧ w.cell? ⟨g, j * 3 + 2, none⟩ = some (.string ⟨z.toArray⟩) := by
  rcases h.2 with ⟨_, h', _⟩ | ⟨g, cur, rfl, hb, _, _, _, h4⟩
  · omega
  · have hat : At w ⟨g, 0, none⟩ (sentV sent) := At.of_bk (o := 0) (n := sent.length * 3) hb (by simpa using h4)
    have h3 : ∀ cs ∈ sent.map mcells, cs.length = 3 := by
      intro cs hcs
      obtain ⟨m, _, rfl⟩ := List.mem_map.1 hcs
      rfl
    have cell : ∀ i u, (mcells sent[j])[i]? = some u → i < 3 → w.cell? ⟨g, j * 3 + i, none⟩ = some u := by
      intro i u hu hi
      have := hat (j * 3 + i) u (by unfold sentV; rw [flat_get (cs := mcells sent[j]) h3 (by simp [hj]) hi]; exact hu)
      rw [addr_lit] at this
      simpa using this
    exact ⟨g, _, _, _, List.getElem?_eq_getElem hj, rfl, cell 0 _ rfl (by omega), cell 1 _ rfl (by omega), cell 2 _ rfl (by omega)⟩

theorem cameV_get {w : World} {A : Option Addr} {c : Nat} {came : List Bool} (h : Arr w 4 1 A came.length c (cameV came)) {j : Nat} (hj : j < came.length) :
    ∃ g y, came[j]? = some y ∧ A = some ⟨g, 0, none⟩ ∧ w.cell? ⟨g, j, none⟩ = some (.bool y) ∧ w.frozen? ⟨g, j, none⟩ = false := by
  rcases h.2 with ⟨_, h', _⟩ | ⟨g, cur, rfl, hb, _, _, _, h4⟩
  · omega
  · have hat : At w ⟨g, 0, none⟩ (cameV came) := At.of_bk (o := 0) (n := came.length * 1) hb (by simpa using h4)
    have := hat j (.bool came[j]) (by simp [cameV, hj])
    rw [addr_lit] at this
    exact ⟨g, _, List.getElem?_eq_getElem hj, rfl, by simpa using this, hb.frozen j⟩

theorem sendF_cases (nodes : Int) (L : List Msg) (f t : Int) (b : List UInt8) : sendF nodes L f t b = (0, L ++ [⟨f, t, b⟩]) ∨ ∃ x : Int, (x == 0) = false ∧ sendF nodes L f t b = (x, L) := by
  unfold sendF
  split
  · split
    · exact .inr ⟨2, rfl, rfl⟩
    · split
      · exact .inr ⟨5, rfl, rfl⟩
      · exact .inl rfl
  · exact .inr ⟨1, rfl, rfl⟩

set_option maxHeartbeats 4000000 in
set_option maxRecDepth 100000 in
theorem once_any (A : Option Addr) (c : Nat) (ss : List StepS) (w : World) (h : StepsIn w w.heap.size A c ss) :
    Calls Try.prog 3 #[.slice A ss.length c] w (LawPost w) := by
  obtain ⟨i0, hi0, ha0, ha1, ha2⟩ := info_parts info34
  obtain ⟨i4, hi4, hb0, hb1, hb2⟩ := info_parts info4
  go_enter Try.func3, Try.ntmps3
  go_wp2_with fail
  refine (new_any 3 _).mono ?_
  rintro e w1 (⟨_, _, n, S, hn, rfl, hnet, hS, hfr⟩ | ⟨hno, _⟩)
  rotate_left
  · omega
  go_wp2_with fail
  have HN : Hid (OWs ss w n ss.length (.slice none 0 0) (.slice none 0 0) (.int .i64 (0 : Nat)) w1) :=
    ⟨0, none, 0, none, 0, S, [], [], [], Nat.zero_le _, by omega, rfl, rfl, rfl, rfl, Arr.none_ _ _ _, Arr.none_ _ _ _, rfl, Nat.le_refl _, hnet, List.Perm.refl _, hS, hfr, fun j hj => (InB.none_ j hj).elim, fun j hj => (InB.none_ j hj).elim⟩
  clear hnet hS hfr
  go_loopg [5, 6, 26] ss.length (fun g v5 v6 v26 wr => OWs ss w n g v5 v6 v26 wr)
  case atStart => exact HN
  case round =>
    obtain ⟨k, A5, c5, A6, c6, S, L, sent, came, hk, hk3, rfl, rfl, rfl, rfl, hw⟩ := hrel
    by_cases hlt : k < ss.length
    · obtain ⟨b, off, A', c', kd, ka, kc, kb, _, rfl, x0, x1, x2, x3, hrd⟩ := (h.fr hw.fr).step hlt
      have hW : Fr NoB wr (wr.alloc (.cells #[.int .i64 kd, .int .i64 ka, .int .i64 kc, .slice A' kb.length c'] 31)) := (Fr.refl _ _).alloc _
      have hnW := hw.net.fr hW (fun _ _ h => h)
      have hBW : Bk (wr.alloc (.cells #[.int .i64 kd, .int .i64 ka, .int .i64 kc, .slice A' kb.length c'] 31)) wr.heap.size 31 #[.int .i64 kd, .int .i64 ka, .int .i64 kc, .slice A' kb.length c'] := Bk.new _ _ _
      have hnS : ¬ S wr.heap.size := fun h => by have := hw.net.lt _ h; omega
      have hle := hw.le
      have hle2 : came.length ≤ k := by have := hw.len; omega
      by_cases h3 : k < 300
      · by_cases hkd : kd < 2
        · go_wp2_with fail
          refine (send_any ka kc A' c' kb _ hnW (hrd.fr hW (fun _ _ _ h => h))).mono ?_
          rcases sendF_cases 3 L ka kc kb with hF | ⟨x, hx, hF⟩
          · rw [hF]
            rintro e w2 ⟨S2, rfl, hnet2, hfr2, hgr2⟩
            have b2 := hBW.fr hfr2 hnS
            have y1 : w2.cell? ⟨wr.heap.size, 1, none⟩ = some (.int .i64 ka) := b2.cell 1
            have y2 : w2.cell? ⟨wr.heap.size, 2, none⟩ = some (.int .i64 kc) := b2.cell 2
            have y3 : w2.cell? ⟨wr.heap.size, 3, none⟩ = some (.slice A' kb.length c') := b2.cell 3
            have hcv := run_conv_rd w2 29 9 5 Try.underlying29 Try.underlying5 Try.underlying9 kb ((hrd.fr hW (fun _ _ _ h => h)).fr hfr2 (fun j _ hj hs => by have := hw.up j hs; omega))
            have q5 : ∀ o, Arr (w2.alloc o) 34 3 A5 sent.length c5 (sentV sent) := fun o => ((hw.a5.fr hW (fun _ _ h => h)).fr hfr2 (fun j hj => (hw.i5 j hj).2)).fr (T := NoB) ((Fr.refl _ _).alloc o) (fun _ _ h => h)
            have hsrc : Rd (w2.alloc (.cells #[.int .i64 ka, .int .i64 kc, .string ⟨kb.toArray⟩] 34)) (fun _ => True) 3 (some ⟨w2.heap.size, 0, none⟩) 1 1 [.int .i64 ka, .int .i64 kc, .string ⟨kb.toArray⟩] :=
              (Arr.made (e := 34) (size := 3) w2 #[.int .i64 ka, .int .i64 kc, .string ⟨kb.toArray⟩] 1 1 (Nat.le_refl _) (by simp [maxLen]) (by simp)).rd.mono (fun _ _ => trivial)
            have q6 : ∀ w3 o o', Fr (InB A5) (w2.alloc o) w3 → Arr (w3.alloc o') 4 1 A6 came.length c6 (cameV came) := fun w3 o o' f3 =>
              ((((hw.a6.fr hW (fun _ _ h => h)).fr hfr2 (fun j hj => (hw.i6 j hj).2)).fr (T := NoB) ((Fr.refl _ _).alloc o) (fun _ _ h => h)).fr f3 hw.ne56).fr (T := NoB) ((Fr.refl _ _).alloc o') (fun _ _ h => h)
            have hsrc2 : ∀ w3 : World, Rd (w3.alloc (.cells #[.bool false] 4)) (fun _ => True) 1 (some ⟨w3.heap.size, 0, none⟩) 1 1 [.bool false] := fun w3 =>
              (Arr.made (e := 4) (size := 1) w3 #[.bool false] 1 1 (Nat.le_refl _) (by simp [maxLen]) (by simp)).rd.mono (fun _ _ => trivial)
            go_wp2_with (first
              | (at_builtin; refine wpList_append_arr _ rfl (.tmp 45) (.tmp 54) 27 rfl 34 i0 _ 3 32 Try.underlying27 hi0 ha0 ha1 ha2 rfl A5 _ c5 _ rfl (q5 _) (fun _ => True) _ 1 1 _ rfl hsrc (by intro u hu; simp at hu; rcases hu with rfl | rfl | rfl <;> rfl) (by simp only [maxLen]; omega) (by omega) ?_; intro A7 c7 w3 a7 f3 i7 _)
              | (at_builtin; refine wpList_append_arr _ rfl (.tmp 56) (.tmp 57) 28 rfl 4 i4 _ 1 1 Try.underlying28 hi4 hb0 hb1 hb2 rfl A6 _ c6 _ rfl (q6 _ _ _ f3) (fun _ => True) _ 1 1 _ rfl (hsrc2 _) (by intro u hu; simp at hu; subst hu; rfl) (by simp only [maxLen]; omega) (by omega) ?_; intro A8 c8 w4 a8 f4 i8 _))
            go_roundg (ss.length - (k + 1))
            case measure => omega
            case rel => exact ⟨k + 1, A7, c7, A8, c8, S2, _, _, _, by omega, by omega, rfl, by go_num, by simp, by simp, OW.sent_ hw hW hnet2 hfr2 hgr2 a7 f3 i7 a8 f4 i8⟩
          · rw [hF]
            rintro e w2 ⟨S2, rfl, hnet2, hfr2, hgr2⟩
            go_wp2_with fail
            go_roundg (ss.length - (k + 1))
            case measure => omega
            case rel => exact ⟨k + 1, A5, c5, A6, c6, S2, _, _, _, by omega, by omega, rfl, by go_num, rfl, rfl, OW.turn hw hW hnet2 hfr2 hgr2 hw.perm⟩
        · by_cases hin : 0 ≤ ka ∧ ka < L.length
          · obtain ⟨q, rfl⟩ := Int.eq_ofNat_of_zero_le hin.1
            have hq : q < L.length := by omega
            obtain ⟨m, hm⟩ : ∃ m, L[q]? = some m := ⟨_, List.getElem?_eq_getElem hq⟩
            have HM := Lib.hid hm
            have HP := Lib.hid (pick_some q m _ hnW hm)
            clear hm
            go_wp2_with fail
            refine HP.out.mono ?_
            rintro e w2 ⟨S2, A9, c9, rfl, arr9, in9, hnet2, hfr2, hgr2⟩
            have HI := Lib.hid (IW.start hw hW hnet2 hfr2 hgr2 arr9)
            have hup2 : Up w.heap.size S2 := hgr2.up hw.up (by have := hw.fr.size; have := hW.size; omega)
            have hperm := hw.perm
            have hlen := Lib.hid hw.len
            clear hnW hBW hnet2 hfr2 hgr2 arr9 in9 HP hw x0 x1 x2 x3 hrd hnS
            go_wp2_with fail
            have HJ : Hid (IWs w n A5 c5 A6 c6 S2 (L.eraseIdx q) sent came w2.heap.size m A9 c9 sent.length (.bool false) (.int .i64 (0 : Nat)) (w2.alloc (.cells #[.int .i64 m.f, .int .i64 m.t, .slice A9 m.b.length c9] 36))) :=
              ⟨0, false, came, Nat.zero_le _, rfl, rfl, rfl, Found.start _ _ _, HI.out⟩
            clear HI
            generalize w2.alloc (.cells #[.int .i64 m.f, .int .i64 m.t, .slice A9 m.b.length c9] 36) = w3 at *
            generalize w2.heap.size = bm at *
            obtain ⟨mf, mt, mb⟩ := m
            go_loopg [11, 70] sent.length (fun g v11 v70 wr => IWs w n A5 c5 A6 c6 S2 (L.eraseIdx q) sent came bm ⟨mf, mt, mb⟩ A9 c9 g v11 v70 wr)
            case atStart => exact HJ
            case round =>
              obtain ⟨j, f, came', hj, rfl, rfl, rfl, hF, hI⟩ := hrel
              by_cases hjl : j < sent.length
              · obtain ⟨g5, xf, xt, xb, hxs, rfl, y0, y1, y2⟩ := sentV_get hI.a5 hjl
                have HCL := Lib.hid hF.len
                have HXS := Lib.hid hxs
                clear hxs
                obtain ⟨g6, cj, hcj, rfl, y3, y4⟩ := cameV_get hI.a6 (j := j) (by rw [HCL.out, ← hlen.out]; exact hjl)
                have HCJ := Lib.hid hcj
                have hg6 : g6 < wr.heap.size := World.block_lt_of_cell? wr _ y3
                clear hcj
                have hjc : j < came.length := by rw [← hlen.out]; exact hjl
                have z0 : wr.cell? ⟨bm, 0, none⟩ = some (.int .i64 mf) := hI.box.cell 0
                have z1 : wr.cell? ⟨bm, 1, none⟩ = some (.int .i64 mt) := hI.box.cell 1
                have z2 : wr.cell? ⟨bm, 2, none⟩ = some (.slice A9 mb.length c9) := hI.box.cell 2
                have zl := hI.box.lt
                have hcv : ∀ o, (convert 29 9 (.slice A9 mb.length c9)).run Try.prog (wr.alloc o) = .ok (.string ⟨mb.toArray⟩) (wr.alloc o) := fun o =>
                  run_conv_rd (wr.alloc o) 29 9 5 Try.underlying29 Try.underlying5 Try.underlying9 mb (hI.a9.fr (T := NoB) ((Fr.refl _ _).alloc o) (fun _ _ h => h)).rd
                cases f with
                | true =>
                  go_wp2_with fail
                  go_roundg (sent.length - (j + 1))
                  case measure => omega
                  case rel => exact ⟨j + 1, true, came', by omega, rfl, rfl, by go_num, hF.keep, hI.alloc _⟩
                | false =>
                  cases cj with
                  | true =>
                    go_wp2_with fail
                    go_roundg (sent.length - (j + 1))
                    case measure => omega
                    case rel => exact ⟨j + 1, false, came', by omega, rfl, rfl, by go_num, hF.miss (fun h1 h2 => by rw [← hF.same, HCJ.out] at h2; cases h2), hI.alloc _⟩
                  | false =>
                    by_cases e1 : xf = mf
                    · subst e1
                      by_cases e2 : xt = mt
                      · subst e2
                        by_cases e3 : xb = mb
                        · subst e3
                          go_wp2_with fail
                          go_roundg (sent.length - (j + 1))
                          case measure => omega
                          case rel =>
                            have HG := hF.hit HXS.out (by rw [← hF.same]; exact HCJ.out)
                            first
                              | exact ⟨j + 1, true, came'.set j true, by omega, rfl, rfl, by go_num, HG, (hI.store j).alloc _⟩
                              | exact ⟨j + 1, true, came'.set j true, by omega, rfl, rfl, by go_num, HG, (hI.alloc _).store j⟩
                        · have e3' : (xb == mb) = false := by simpa using e3
                          go_wp2_with fail
                          go_roundg (sent.length - (j + 1))
                          case measure => omega
                          case rel => exact ⟨j + 1, false, came', by omega, rfl, rfl, by go_num, hF.miss (fun h1 h2 => by rw [HXS.out] at h1; injection h1 with h1; injection h1 with _ _ h1; exact e3 h1), hI.alloc _⟩
                      · have e2' : (xt == mt) = false := by simpa using e2
                        go_wp2_with fail
                        go_roundg (sent.length - (j + 1))
                        case measure => omega
                        case rel => exact ⟨j + 1, false, came', by omega, rfl, rfl, by go_num, hF.miss (fun h1 h2 => by rw [HXS.out] at h1; injection h1 with h1; injection h1 with _ h1; exact e2 h1), hI.alloc _⟩
                    · have e1' : (xf == mf) = false := by simpa using e1
                      go_wp2_with fail
                      go_roundg (sent.length - (j + 1))
                      case measure => omega
                      case rel => exact ⟨j + 1, false, came', by omega, rfl, rfl, by go_num, hF.miss (fun h1 h2 => by rw [HXS.out] at h1; injection h1 with h1; injection h1 with h1; exact e1 h1), hI.alloc _⟩
              · obtain rfl : j = sent.length := by omega
                cases f with
                | true =>
                  go_wp2_with fail
                  go_roundg (ss.length - (k + 1))
                  case measure => omega
                  case rel =>
                    have hcl := hF.len
                    have hp := hF.done hperm HM.out
                    refine ⟨k + 1, A5, c5, A6, c6, S2, L.eraseIdx q, sent, came', by omega, by omega, rfl, by go_num, rfl, by rw [hcl], ?_⟩
                    exact ⟨hI.a5, hI.a6, by rw [hcl]; exact hlen.out, by omega, hI.net, hp, hup2, hI.fr, hI.i5, hI.i6⟩
                | false => exact (hF.stop hperm HM.out).elim
          · have HP := Lib.hid (pick_none ka _ hnW hin)
            go_wp2_with fail
            refine HP.out.mono ?_
            rintro e w2 ⟨rfl, hnet2, hfr2⟩
            go_wp2_with fail
            go_roundg (ss.length - (k + 1))
            case measure => omega
            case rel =>
              have f2 : Fr NoB w2 (w2.alloc (.cells #[.int .i64 0, .int .i64 0, .slice none 0 0] 36)) := (Fr.refl _ _).alloc _
              exact ⟨k + 1, A5, c5, A6, c6, S, _, _, _, by omega, by omega, rfl, by go_num, rfl, rfl, OW.turn hw (hW.trans (hfr2.trans f2)) (hnet2.fr f2 (fun _ _ h => h)) (Fr.refl _ _) (fun _ h => .inl h) hw.perm⟩
      · go_wp2_with fail
        refine (speaks_any _).mono ?_
        rintro e w2 ⟨rfl, hfr2⟩
        go_wp2_with fail
        go_ret
        exact ⟨rfl, (hw.fr.trans hW).trans hfr2⟩
    · obtain rfl : k = ss.length := by omega
      go_wp2_with fail
      refine (speaks_any _).mono ?_
      rintro e w2 ⟨rfl, hfr2⟩
      go_wp2_with fail
      go_ret
      exact ⟨rfl, hw.fr.trans hfr2⟩
end Go.Proofs.Yteaiifhppcibgaa
