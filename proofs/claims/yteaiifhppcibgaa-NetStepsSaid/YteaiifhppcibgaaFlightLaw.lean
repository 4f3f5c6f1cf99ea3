/- Contracts of Drop and of latticelaw04's flight. -/
import Derived.Test.YteaiifhppcibgaaRefB
import Derived.Test.YteaiifhppcibgaaFlight
namespace Go.Proofs.Yteaiifhppcibgaa
open Go.RowKit

theorem msgs_get {w : World} {S : Nat → Prop} {A : Option Addr} {c : Nat} {L : List Msg} (h : MsgsAt w S A c L) {j : Nat} (hj : j < L.length) :
    ∃ g f t b Am cm, L[j]? = some ⟨f, t, b⟩ ∧ A = some ⟨g, 0, none⟩ ∧ w.cell? ⟨g, j * 3, none⟩ = some (.int .i64 f) ∧ w.cell? ⟨g, j * 3 + 1, none⟩ = some (.int .i64 t) ∧
      w.cell? ⟨g, j * 3 + 2, none⟩ = some (.slice Am b.length cm) ∧ Arr w 5 1 Am b.length cm (bv b) := by
  obtain ⟨⟨css, harr, hcl, hcm, hcA, hcS, hcp⟩, hlt⟩ := h
  have h3 := css_len hcl hcm
  obtain ⟨Am, cm, e, harrm⟩ := hcm j css[j] L[j] (List.getElem?_eq_getElem (by omega)) (List.getElem?_eq_getElem hj)
  have hcs' : css[j]? = some [.int .i64 L[j].f, .int .i64 L[j].t, .slice Am L[j].b.length cm] := by rw [List.getElem?_eq_getElem (by omega), e]
  rcases harr.2 with ⟨_, h', _⟩ | ⟨g, cur, rfl, hb, hnc, _, _, htk⟩
  · omega
  · have hat : At w ⟨g, 0, none⟩ css.flatten := At.of_bk (o := 0) (n := L.length * 3) hb (by simpa using htk)
    have cell : ∀ i u, ([.int .i64 L[j].f, .int .i64 L[j].t, .slice Am L[j].b.length cm] : List Value)[i]? = some u → i < 3 → w.cell? ⟨g, j * 3 + i, none⟩ = some u := by
      intro i u hu hi
      have := hat (j * 3 + i) u (by rw [flat_get h3 hcs' hi]; exact hu)
      rw [addr_lit] at this
      simpa using this
    exact ⟨g, _, _, _, Am, cm, List.getElem?_eq_getElem hj, rfl, cell 0 _ rfl (by omega), cell 1 _ rfl (by omega), cell 2 _ rfl (by omega), harrm⟩

theorem drop_none {S : Nat → Prop} {n : Nat} {nodes : Int} {L : List Msg} (i : Int) (w : World) (h : NetAt w S n nodes L) (hi : ¬ (0 ≤ i ∧ i < L.length)) :
    Calls Try.prog 17 #[.pointer (some ⟨n, 0, none⟩), .int .i64 i] w (SendPost S n nodes (6, L) w) := by
  have HP := Lib.hid (pick_none i w h hi)
  have H := Lib.hid h
  clear h
  go_enter Try.func17, Try.ntmps17
  go_wp2_with fail
  refine HP.out.mono ?_
  rintro e w1 ⟨rfl, _, fr⟩
  go_wp2_with fail
  go_ret
  exact sendPost_same H.out (fr.alloc _)

theorem drop_some {S : Nat → Prop} {n : Nat} {nodes : Int} {L : List Msg} (k : Nat) (m : Msg) (w : World) (h : NetAt w S n nodes L) (hk : L[k]? = some m) :
    Calls Try.prog 17 #[.pointer (some ⟨n, 0, none⟩), .int .i64 k] w (SendPost S n nodes (0, L.eraseIdx k) w) := by
  have HP := Lib.hid (pick_some k m w h hk)
  clear h
  go_enter Try.func17, Try.ntmps17
  go_wp2_with fail
  refine HP.out.mono ?_
  rintro e w1 ⟨S', A, c, rfl, arr, inA, net, fr, gr⟩
  have f2 : ∀ o, Fr NoB w1 (w1.alloc o) := fun o => (Fr.refl _ _).alloc o
  go_wp2_with fail
  go_ret
  exact ⟨S', rfl, net.fr (f2 _) (fun _ _ h => h), fr.alloc _, gr⟩

def pickF (L : List Msg) (i : Int) : Int × List Msg := if 0 ≤ i ∧ i < L.length then (0, L.eraseIdx i.toNat) else (6, L)

theorem drop_any {S : Nat → Prop} {n : Nat} {nodes : Int} {L : List Msg} (i : Int) (w : World) (h : NetAt w S n nodes L) :
    Calls Try.prog 17 #[.pointer (some ⟨n, 0, none⟩), .int .i64 i] w (SendPost S n nodes (pickF L i) w) := by
  unfold pickF
  by_cases h1 : 0 ≤ i ∧ i < L.length
  · rw [if_pos h1]
    obtain ⟨k, rfl⟩ := Int.eq_ofNat_of_zero_le h1.1
    exact drop_some k _ w h (List.getElem?_eq_getElem (by omega))
  · rw [if_neg h1]
    exact drop_none i w h h1

set_option maxHeartbeats 4000000 in
theorem flightLaw_any {S T : Nat → Prop} {n p : Nat} {nodes nodes' : Int} {L : List Msg} (w : World) (h : NetAt w S n nodes L) (hr : RefAt w T p nodes' L) (hL : ∀ m ∈ L, m.b.length ≤ 65535) :
    Calls Try.prog 20 #[.pointer (some ⟨n, 0, none⟩), .pointer (some ⟨p, 0, none⟩)] w fun e w' => e = .returned (.bool true) ∧ Fr NoB w w' := by
  have hlen := fun (w' : World) (f : Fr NoB w w') => len_net w' (h.fr f (fun _ _ h => h))
  have hfew := h.few
  have hfl := flight_any w h hL
  obtain ⟨⟨A, c, hbk, harr, hA⟩, hT, hlt, _⟩ := hr
  go_enter Try.func20, Try.ntmps20
  go_wp2_with fail
  refine hfl.mono ?_
  rintro e w1 ⟨A1, c1, S1, rfl, ms1, up1, fr1⟩
  have y1 : w1.cell? ⟨p, 1, none⟩ = some (.slice A L.length c) := (hbk.fr fr1 (fun h => h)).cell 1
  have arr1 := harr.fr fr1 (fun _ _ h => h)
  have hlen1 := fun k => (hlen (w1.drewN k) (fr1.drewN k)).mono fun e w' h => And.intro h.1 h.2.symm
  clear hlen hfl hbk harr
  go_wp2_with fail
  go_quiet ((go_at_call 12; exact Calls.quiet_of_same (hlen1 _)))
  go_wp2_with fail
  have fd := fun k => fr1.drewN k
  obtain ⟨W, hW⟩ : ∃ W : World, W = w1.drewN nq := ⟨_, rfl⟩
  rw [← hW]
  have frW : Fr NoB w W := by rw [hW]; exact fr1.drewN _
  have yW : W.cell? ⟨p, 1, none⟩ = some (.slice A L.length c) := by rw [hW]; exact y1
  have arrW : Arr W 34 3 A L.length c (sentV L) := by rw [hW]; exact arr1
  have msW : MsgsAt W S1 A1 c1 L := by rw [hW]; exact ms1.fr ((Fr.refl NoB w1).drewN _) (fun _ _ h => h)
  clear hW fd hlen1 arr1 ms1 y1 fr1
  go_loopg [30] L.length (fun g v wr => ∃ j : Nat, j ≤ L.length ∧ g = L.length - j ∧ v = .int .i64 j ∧ Fr NoB W wr)
  case atStart => exact ⟨0, Nat.zero_le _, rfl, rfl, Fr.refl _ _⟩
  case round =>
    obtain ⟨j, hj, rfl, rfl, hf⟩ := hrel
    by_cases hjl : j < L.length
    · obtain ⟨g1, f, t, b, Am, cm, hm, rfl, m0, m1, m2, am⟩ := msgs_get (msW.fr hf (fun _ _ h => h)) hjl
      obtain ⟨g2, f', t', b', hm', rfl, x0, x1, x2⟩ := sentV_get (arrW.fr hf (fun _ _ h => h)) hjl
      rw [hm] at hm'
      cases hm'
      have yp := hf.cell_some yW (fun h => h)
      have g1l : g1 < wr.heap.size := World.block_lt_of_cell? wr _ m0
      have g2l : g2 < wr.heap.size := World.block_lt_of_cell? wr _ x0
      have pl : p < wr.heap.size := World.block_lt_of_cell? wr _ yp
      have hcv : ∀ o k, (convert 29 9 (.slice Am b.length cm)).run Try.prog ((wr.alloc o).drewN k) = .ok (.string ⟨b.toArray⟩) ((wr.alloc o).drewN k) := fun o k =>
        run_conv_rd ((wr.alloc o).drewN k) 29 9 5 Try.underlying29 Try.underlying5 Try.underlying9 b ((am.rd.alloc o).drewN k)
      go_wp2_with fail
      go_quiet (fail)
      go_wp2_with fail
      go_roundg (L.length - (j + 1))
      case measure => omega
      case rel => exact ⟨j + 1, by omega, rfl, by go_num, (hf.alloc _).drewN _⟩
    · obtain rfl : j = L.length := by omega
      go_wp2_with fail
      go_ret
      exact ⟨rfl, frW.trans hf⟩
end Go.Proofs.Yteaiifhppcibgaa
