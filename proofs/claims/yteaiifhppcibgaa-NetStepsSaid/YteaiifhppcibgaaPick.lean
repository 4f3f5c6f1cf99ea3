/- The contract of Pick. -/
import Derived.Test.YteaiifhppcibgaaPush
namespace Go.Proofs.Yteaiifhppcibgaa
open Go.RowKit

theorem flat_len {α : Type} {css : List (List α)} {s : Nat} (h : ∀ cs ∈ css, cs.length = s) : css.flatten.length = css.length * s := by
  induction css with
  | nil => simp
  | cons c r ih =>
    simp only [List.flatten_cons, List.length_append, List.length_cons]
    rw [ih fun cs hc => h cs (List.mem_cons_of_mem _ hc), h c List.mem_cons_self, Nat.add_mul]
    omega
theorem flat_get {α : Type} {s : Nat} : ∀ {css : List (List α)} {k j : Nat} {cs : List α}, (∀ cs ∈ css, cs.length = s) → css[k]? = some cs → j < s → css.flatten[k * s + j]? = cs[j]? := by
  intro css
  induction css with
  | nil => intro k j cs _ h; simp at h
  | cons c r ih =>
    intro k j cs h hk hj
    have hc := h c List.mem_cons_self
    cases k with
    | zero =>
      simp at hk
      subst hk
      rw [List.flatten_cons, List.getElem?_append_left (by omega)]
      simp
    | succ k =>
      simp at hk
      rw [List.flatten_cons, List.getElem?_append_right (by rw [hc, Nat.add_mul]; omega), hc, ← ih (fun cs hc => h cs (List.mem_cons_of_mem _ hc)) hk hj]
      congr 1
      rw [Nat.add_mul]
      omega
theorem flat_take {α : Type} {s : Nat} : ∀ {css : List (List α)} {k : Nat}, (∀ cs ∈ css, cs.length = s) → css.flatten.take (k * s) = (css.take k).flatten := by
  intro css
  induction css with
  | nil => intro k _; simp
  | cons c r ih =>
    intro k h
    have hc := h c List.mem_cons_self
    cases k with
    | zero => simp
    | succ k =>
      simp only [List.take_succ_cons, List.flatten_cons]
      rw [List.take_append, List.take_of_length_le (by rw [hc, Nat.add_mul]; omega), ← ih (fun cs hc => h cs (List.mem_cons_of_mem _ hc)), hc]
      congr 2
      rw [Nat.add_mul]
      omega
theorem flat_drop {α : Type} {s : Nat} : ∀ {css : List (List α)} {k : Nat}, (∀ cs ∈ css, cs.length = s) → css.flatten.drop (k * s) = (css.drop k).flatten := by
  intro css
  induction css with
  | nil => intro k _; simp
  | cons c r ih =>
    intro k h
    have hc := h c List.mem_cons_self
    cases k with
    | zero => simp
    | succ k =>
      simp only [List.drop_succ_cons, List.flatten_cons]
      rw [List.drop_append, List.drop_of_length_le (by rw [hc, Nat.add_mul]; omega), ← ih (fun cs hc => h cs (List.mem_cons_of_mem _ hc)), hc, List.nil_append]
      congr 1
      rw [Nat.add_mul]
      omega

theorem css_len {w : World} {css : List (List Value)} {L : List Msg} (hl : css.length = L.length) (hm : ∀ (k : Nat) (cs : List Value) (m : Msg), css[k]? = some cs → L[k]? = some m → MsgIs w cs m) : ∀ cs ∈ css, cs.length = 3 := by
  intro cs hcs
  obtain ⟨k, hk⟩ := List.getElem?_of_mem hcs
  have hkl : k < L.length := by have := (List.getElem?_eq_some_iff.1 hk).1; omega
  obtain ⟨A, c, rfl, _⟩ := hm k cs _ hk (List.getElem?_eq_getElem hkl)
  rfl

def PickNone (S : Nat → Prop) (n : Nat) (nodes : Int) (L : List Msg) (w : World) (e : Ending) (w' : World) : Prop :=
  e = .returned (.tuple #[.agg #[.int .i64 0, .int .i64 0, .slice none 0 0], .int .i64 6]) ∧ NetAt w' S n nodes L ∧ Fr NoB w w'

def PickSome (S : Nat → Prop) (n : Nat) (nodes : Int) (L : List Msg) (k : Nat) (m : Msg) (w : World) (e : Ending) (w' : World) : Prop :=
  ∃ S' A c, e = .returned (.tuple #[.agg #[.int .i64 m.f, .int .i64 m.t, .slice A m.b.length c], .int .i64 0]) ∧ Arr w' 5 1 A m.b.length c (bv m.b) ∧ (∀ j, InB A j → S j ∧ ¬ S' j) ∧
    NetAt w' S' n nodes (L.eraseIdx k) ∧ Fr S w w' ∧ Gr S S' w

theorem pick_none {S : Nat → Prop} {n : Nat} {nodes : Int} {L : List Msg} (i : Int) (w : World) (h : NetAt w S n nodes L) (hi : ¬ (0 ≤ i ∧ i < L.length)) :
    Calls Try.prog 10 #[.pointer (some ⟨n, 0, none⟩), .int .i64 i] w (PickNone S n nodes L w) := by
  have hlen := fun o : Obj => len_net (w.alloc o) (h.fr (T := NoB) ((Fr.refl _ _).alloc o) (fun _ _ h => h))
  have H := Lib.hid h
  by_cases h0 : i < 0
  · clear h hlen
    go_enter Try.func10, Try.ntmps10
    go_wp2_with fail
    have hf : Fr NoB w (w.alloc (.cells #[.int .i64 0, .int .i64 0, .slice none 0 0] 36)) := (Fr.refl _ _).alloc _
    refine bodyPost_ret (v := .tuple #[.agg #[.int .i64 0, .int .i64 0, .slice none 0 0], .int .i64 6]) (by simp [results, Try.results10, go_sem]) rfl ⟨rfl, H.out.fr hf (fun _ _ h => h), hf⟩
  · have h1 : (L.length : Int) ≤ i := by omega
    clear h
    go_enter Try.func10, Try.ntmps10
    go_wp2_with fail
    refine (hlen _).mono ?_
    rintro e w' ⟨rfl, rfl⟩
    go_wp2_with fail
    have hf : Fr NoB w (w.alloc (.cells #[.int .i64 0, .int .i64 0, .slice none 0 0] 36)) := (Fr.refl _ _).alloc _
    refine bodyPost_ret (v := .tuple #[.agg #[.int .i64 0, .int .i64 0, .slice none 0 0], .int .i64 6]) (by simp [results, Try.results10, go_sem]) rfl ⟨rfl, H.out.fr hf (fun _ _ h => h), hf⟩
end Go.Proofs.Yteaiifhppcibgaa
