/- The contract of Send. -/
import Derived.Test.YteaiifhppcibgaaNet
import Derived.Test.YteaiifhppcibgaaPlan
namespace Go.Proofs.Yteaiifhppcibgaa
open Go.RowKit

def sendF (nodes : Int) (L : List Msg) (f t : Int) (b : List UInt8) : Int × List Msg :=
  if nodeB nodes f = true ∧ nodeB nodes t = true then
    if 65535 < b.length then (2, L) else if L.length = 1024 then (5, L) else (0, L ++ [⟨f, t, b⟩])
  else (1, L)

def SendPost (S : Nat → Prop) (n : Nat) (nodes : Int) (r : Int × List Msg) (w : World) (e : Ending) (w' : World) : Prop :=
  ∃ S', e = .returned (.int .i64 r.1) ∧ NetAt w' S' n nodes r.2 ∧ Fr S w w' ∧ Gr S S' w

theorem sendPost_same {S : Nat → Prop} {n : Nat} {nodes : Int} {L : List Msg} {x : Int} {w w' : World} (h : NetAt w S n nodes L) (hf : Fr NoB w w') : SendPost S n nodes (x, L) w (.returned (.int .i64 x)) w' :=
  ⟨S, rfl, h.fr hf (fun _ _ h => h), hf.mono (fun _ _ h => h.elim), fun _ hk => .inl hk⟩

theorem send_arg {S : Nat → Prop} {n : Nat} {nodes : Int} {L : List Msg} (f t : Int) (A : Option Addr) (m c : Nat) (w : World) (h : NetAt w S n nodes L)
    (hb : nodeB nodes f = false ∨ nodeB nodes f = true ∧ nodeB nodes t = false) :
    Calls Try.prog 9 #[.pointer (some ⟨n, 0, none⟩), .int .i64 f, .int .i64 t, .slice A m c] w (SendPost S n nodes (1, L) w) := by
  have H := Lib.hid h
  obtain ⟨⟨A', c', css, hbk, _⟩, _⟩ := h
  have hb1 := hbk.alloc (.cells #[.pointer (some ⟨n, 0, none⟩)] 23)
  have hc1 : (w.alloc (.cells #[.pointer (some ⟨n, 0, none⟩)] 23)).cell? ⟨w.heap.size, 0, none⟩ = some (.pointer (some ⟨n, 0, none⟩)) := by simp
  rcases hb with hb | ⟨hb, hb'⟩
  · go_enter Try.func9, Try.ntmps9
    go_wp2_with (go_at_call 21; refine (node_any _ n nodes f _ _ hc1 hb1).mono ?_; rintro e w' ⟨rfl, rfl⟩)
    go_ret
    exact sendPost_same H.out ((Fr.refl _ _).alloc _)
  · go_enter Try.func9, Try.ntmps9
    go_wp2_with fail
    refine (node_any _ n nodes f _ _ hc1 hb1).mono ?_
    rintro e w' ⟨rfl, rfl⟩
    go_wp2_with fail
    refine (node_any _ n nodes t _ _ hc1 hb1).mono ?_
    rintro e w' ⟨rfl, rfl⟩
    go_wp2_with fail
    go_ret
    exact sendPost_same H.out ((Fr.refl _ _).alloc _)

theorem send_long {S : Nat → Prop} {n : Nat} {nodes : Int} {L : List Msg} (f t : Int) (A : Option Addr) (m c : Nat) (w : World) (h : NetAt w S n nodes L)
    (hb : nodeB nodes f = true) (hb' : nodeB nodes t = true) (hm : 65535 < m) :
    Calls Try.prog 9 #[.pointer (some ⟨n, 0, none⟩), .int .i64 f, .int .i64 t, .slice A m c] w (SendPost S n nodes (2, L) w) := by
  have H := Lib.hid h
  obtain ⟨⟨A', c', css, hbk, _⟩, _⟩ := h
  have hb1 := hbk.alloc (.cells #[.pointer (some ⟨n, 0, none⟩)] 23)
  have hc1 : (w.alloc (.cells #[.pointer (some ⟨n, 0, none⟩)] 23)).cell? ⟨w.heap.size, 0, none⟩ = some (.pointer (some ⟨n, 0, none⟩)) := by simp
  go_enter Try.func9, Try.ntmps9
  go_wp2_with fail
  refine (node_any _ n nodes f _ _ hc1 hb1).mono ?_
  rintro e w' ⟨rfl, rfl⟩
  go_wp2_with fail
  refine (node_any _ n nodes t _ _ hc1 hb1).mono ?_
  rintro e w' ⟨rfl, rfl⟩
  go_wp2_with fail
  go_ret
  exact sendPost_same H.out ((Fr.refl _ _).alloc _)

theorem send_full {S : Nat → Prop} {n : Nat} {nodes : Int} {L : List Msg} (f t : Int) (A : Option Addr) (m c : Nat) (w : World) (h : NetAt w S n nodes L)
    (hb : nodeB nodes f = true) (hb' : nodeB nodes t = true) (hm : m ≤ 65535) (hl : L.length = 1024) :
    Calls Try.prog 9 #[.pointer (some ⟨n, 0, none⟩), .int .i64 f, .int .i64 t, .slice A m c] w (SendPost S n nodes (5, L) w) := by
  have H := Lib.hid h
  obtain ⟨⟨A', c', css, hbk, _⟩, _⟩ := h
  have hn := hbk.lt
  have hb1 := hbk.alloc (.cells #[.pointer (some ⟨n, 0, none⟩)] 23)
  have hc1 : (w.alloc (.cells #[.pointer (some ⟨n, 0, none⟩)] 23)).cell? ⟨w.heap.size, 0, none⟩ = some (.pointer (some ⟨n, 0, none⟩)) := by simp
  have hc2 : w.cell? ⟨n, 1, none⟩ = some (.slice A' L.length c') := hbk.cell 1
  have hq : ((L.length : Int) == 1024) = true := by rw [hl]; rfl
  have HL := Lib.hid hl; clear hl
  go_enter Try.func9, Try.ntmps9
  go_wp2_with fail
  refine (node_any _ n nodes f _ _ hc1 hb1).mono ?_
  rintro e w' ⟨rfl, rfl⟩
  go_wp2_with fail
  refine (node_any _ n nodes t _ _ hc1 hb1).mono ?_
  rintro e w' ⟨rfl, rfl⟩
  go_wp2_with fail
  go_ret
  exact sendPost_same H.out ((Fr.refl _ _).alloc _)
end Go.Proofs.Yteaiifhppcibgaa
