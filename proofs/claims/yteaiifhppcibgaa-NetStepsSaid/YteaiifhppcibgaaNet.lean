/- The net as a list of messages: what lies in memory; contracts of New, Len, the closure of Send. -/
import Derived.Test.YteaiifhppcibgaaClone
namespace Go.Proofs.Yteaiifhppcibgaa
open Go.RowKit

/-- A message as the document speaks of it. -/
structure Msg where
  f : Int
  t : Int
  b : List UInt8

/-- A message's three cells. -/
def MsgIs (w : World) (cs : List Value) (m : Msg) : Prop :=
  ∃ A c, cs = [.int .i64 m.f, .int .i64 m.t, .slice A m.b.length c] ∧ Arr w 5 1 A m.b.length c (bv m.b)

/-- The block that a message's bytes lie in. -/
def CellsB (cs : List Value) : Nat → Prop := fun k => ∃ x y A n c, cs = [x, y, .slice A n c] ∧ InB A k

/-- What lies in memory behind a '*net.Net': block n; the messages in their order; S: all blocks that are the net's own. -/
structure NetAt (w : World) (S : Nat → Prop) (n : Nat) (nodes : Int) (L : List Msg) : Prop where
  ex : ∃ A c css, Bk w n 60 #[.int .i64 nodes, .slice A L.length c] ∧ Arr w 36 3 A L.length c (List.flatten css) ∧ css.length = L.length ∧
    (∀ (k : Nat) (cs : List Value) (m : Msg), css[k]? = some cs → L[k]? = some m → MsgIs w cs m) ∧ (∀ k, InB A k → S k) ∧ (∀ cs ∈ css, ∀ k, CellsB cs k → S k) ∧
    css.Pairwise (fun x y => ∀ k, CellsB x k → ¬ CellsB y k)
  own : S n
  lt : ∀ k, S k → k < w.heap.size
  few : L.length ≤ 1024

theorem MsgIs.fr {T : Nat → Prop} {w w1 : World} {cs : List Value} {m : Msg} (h : MsgIs w cs m) (hf : Fr T w w1) (hn : ∀ k, CellsB cs k → ¬ T k) : MsgIs w1 cs m := by
  obtain ⟨A, c, rfl, ha⟩ := h
  exact ⟨A, c, rfl, ha.fr hf fun k hk => hn k ⟨_, _, A, _, c, rfl, hk⟩⟩

theorem NetAt.fr {S T : Nat → Prop} {w w1 : World} {n : Nat} {nodes : Int} {L : List Msg} (h : NetAt w S n nodes L) (hf : Fr T w w1) (hn : ∀ k, S k → ¬ T k) : NetAt w1 S n nodes L := by
  obtain ⟨⟨A, c, css, hb, ha, hl, hm, hA, hc, hp⟩, ho, hlt, hw⟩ := h
  refine ⟨⟨A, c, css, hb.fr hf (hn n ho), ha.fr hf fun k hk => hn k (hA k hk), hl, fun k cs m h1 h2 => (hm k cs m h1 h2).fr hf fun j hj => hn j (hc cs (List.mem_of_getElem? h1) j hj), hA, hc, hp⟩, ho, fun k hk => ?_, hw⟩
  have := hlt k hk
  have := hf.size
  omega

/-- What is new is in S' alone. -/
def Gr (S S' : Nat → Prop) (w : World) : Prop := ∀ k, S' k → S k ∨ w.heap.size ≤ k

theorem len_any (n : Nat) (nodes : Int) (A : Option Addr) (len cap : Nat) (w : World) (h : Bk w n 60 #[.int .i64 nodes, .slice A len cap]) :
    Calls Try.prog 12 #[.pointer (some ⟨n, 0, none⟩)] w fun e w' => e = .returned (.int .i64 len) ∧ w = w' := by
  have c1 := h.cell 1
  simp at c1
  go_enter Try.func12, Try.ntmps12
  go_wp2
  go_ret
  exact ⟨rfl, rfl⟩

theorem len_nil (w : World) : Calls Try.prog 12 #[.pointer none] w fun e w' => e = .returned (.int .i64 0) ∧ w = w' := by
  go_enter Try.func12, Try.ntmps12
  go_wp2
  go_ret
  exact ⟨rfl, rfl⟩

theorem len_net {S : Nat → Prop} {n : Nat} {nodes : Int} {L : List Msg} (w : World) (h : NetAt w S n nodes L) :
    Calls Try.prog 12 #[.pointer (some ⟨n, 0, none⟩)] w fun e w' => e = .returned (.int .i64 L.length) ∧ w = w' := by
  obtain ⟨⟨A, c, css, hb, _⟩, _⟩ := h
  exact len_any n nodes A _ c w hb

/-- New. -/
def NewPost (nodes : Int) (w : World) (e : Ending) (w' : World) : Prop :=
  (1 ≤ nodes ∧ nodes ≤ 7 ∧ ∃ n S, w.heap.size ≤ n ∧ e = .returned (.tuple #[.pointer (some ⟨n, 0, none⟩), .int .i64 0]) ∧ NetAt w' S n nodes [] ∧ (∀ k, S k → w.heap.size ≤ k) ∧ Fr NoB w w') ∨
  (¬ (1 ≤ nodes ∧ nodes ≤ 7) ∧ e = .returned (.tuple #[.pointer none, .int .i64 1]) ∧ Fr NoB w w')

theorem netAt_new (w : World) (nodes : Int) : NetAt (w.alloc (.cells #[.int .i64 nodes, .slice none 0 0] 60)) (fun k => k = w.heap.size) w.heap.size nodes [] :=
  ⟨⟨none, 0, [], Bk.new _ _ _, Arr.none_ _ _ _, rfl, by simp, fun k hk => (InB.none_ k hk).elim, by simp, by simp⟩, rfl, fun k hk => by simp [hk], by simp⟩

theorem new_any (nodes : Int) (w : World) : Calls Try.prog 8 #[.int .i64 nodes] w (NewPost nodes w) := by
  by_cases h1 : nodes < 1
  · go_enter Try.func8, Try.ntmps8
    go_wp2
    go_ret2
    exact .inr ⟨by omega, rfl, Fr.refl _ _⟩
  · by_cases h2 : 7 < nodes
    · go_enter Try.func8, Try.ntmps8
      go_wp2
      go_ret2
      exact .inr ⟨by omega, rfl, Fr.refl _ _⟩
    · go_enter Try.func8, Try.ntmps8
      go_wp2
      go_ret2
      exact .inl ⟨by omega, by omega, w.heap.size, _, Nat.le_refl _, rfl, netAt_new w nodes, fun k hk => by omega, (Fr.refl _ _).alloc _⟩

/-- Is i a node? -/
def nodeB (nodes i : Int) : Bool := decide (0 ≤ i ∧ i < nodes)

theorem node_any (b n : Nat) (nodes i : Int) (v : Value) (w : World) (hb : w.cell? ⟨b, 0, none⟩ = some (.pointer (some ⟨n, 0, none⟩))) (h : Bk w n 60 #[.int .i64 nodes, v]) :
    Calls Try.prog 21 #[.int .i64 i, .pointer (some ⟨b, 0, none⟩)] w fun e w' => e = .returned (.bool (nodeB nodes i)) ∧ w = w' := by
  have c0 : w.cell? ⟨n, 0, none⟩ = some (.int .i64 nodes) := h.cell 0
  by_cases h1 : 0 ≤ i
  · by_cases h2 : i < nodes
    · go_enter Try.func21, Try.ntmps21
      go_wp2
      go_ret
      exact ⟨by simp [nodeB, h1, h2], rfl⟩
    · go_enter Try.func21, Try.ntmps21
      go_wp2
      go_ret
      exact ⟨by simp [nodeB, h1]; omega, rfl⟩
  · have h1' : decide (0 ≤ i) = false := by simpa using h1
    go_enter Try.func21, Try.ntmps21
    go_wp2
    go_ret
    exact ⟨by simp [nodeB]; omega, rfl⟩
end Go.Proofs.Yteaiifhppcibgaa
