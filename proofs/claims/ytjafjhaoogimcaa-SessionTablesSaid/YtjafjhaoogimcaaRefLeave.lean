/- The document's table: Leave. -/
import Derived.Test.YtjafjhaoogimcaaRefSettle
namespace Go.Proofs.Ytjafjhaoogimcaa
open Go.RowKit

def LS (w : World) (q : List (Int × Int)) (n : Nat) (v3 v11 : Value) (wr : World) : Prop :=
  ∃ (j : Nat) (A : Option Addr) (c : Nat) (xs : List Int), j ≤ q.length ∧ n = q.length - j ∧ v3 = .slice A xs.length c ∧ v11 = .int .i64 j ∧ IL w A c xs wr ∧ Fr NoB w wr ∧ xs = (q.take j).map (·.1)

theorem refLeave_done {T : Nat → Prop} {p : Nat} {q : List (Int × Int)} {dn : List Int} {w W : World} {A : Option Addr} {c : Nat} {xs : List Int} (h : RTab w T p q dn) (hi : IL w A c xs W) (hf : Fr NoB w W) :
    RefSettlePost T p xs [] dn w (.returned (.slice A xs.length c)) (W.setCell ⟨p, 0, none⟩ (.slice none 0 0)) := by
  obtain ⟨⟨A0, c0, D, e0, hb, ha, hd, h1, h2⟩, ho, hlt⟩ := h
  have f2 : Fr (fun j => j = p) W (W.setCell ⟨p, 0, none⟩ (.slice none 0 0)) := Fr.setCell (S := fun j => j = p) (p := ⟨p, 0, none⟩) (Fr.refl _ W) (.inl rfl) _
  have hpl := hb.lt
  have hz := hf.size
  have npD : ∀ k, InB D k → ¬ k = p := fun k hk e => by
    subst e
    obtain ⟨cur, hc⟩ := hd.blk hk
    exact hb.types hc (by decide) rfl
  have b2 := (hb.fr hf (fun h => h)).set 0 (.slice none 0 0)
  refine ⟨A, c, T, rfl, hi.arr.fr f2 (fun k hk e => by have := hi.new k hk; omega), ⟨⟨none, 0, D, e0, b2, Arr.none_ _ _ _, (hd.fr hf (fun _ _ h => h)).fr f2 npD, fun k hk => (InB.none_ k hk).elim, h2⟩, ho, fun k hk => ?_⟩,
    (hf.mono (fun _ _ h => h.elim)).trans (f2.mono (fun j _ e => by subst e; exact ho)), fun k hk => .inl hk⟩
  have := hlt k hk
  simp
  omega

set_option maxHeartbeats 2000000 in
theorem refLeave_any {T : Nat → Prop} {p : Nat} {q : List (Int × Int)} {dn : List Int} (w : World) (h : RTab w T p q dn) (hfew : q.length ≤ 1024) :
    Calls Try.prog 17 #[.pointer (some ⟨p, 0, none⟩)] w (RefSettlePost T p (q.map (·.1)) [] dn w) := by
  obtain ⟨k0, hk0, kz0, kz1, kz2⟩ := info_parts info3
  have H := Lib.hid h
  obtain ⟨⟨A0, c0, D0, e0, hb, ha, hd, h1, h2⟩, ho, hlt⟩ := h
  have y0 : w.cell? ⟨p, 0, none⟩ = some (.slice A0 q.length c0) := hb.cell 0
  have HA := Lib.hid ha
  have HB0 := Lib.hid hb
  have hpl := hb.lt
  clear hb ha hd h1 h2
  go_enter Try.func17, Try.ntmps17
  go_wp2_with fail
  go_loopg [3, 11] q.length (fun n v3 v11 wr => LS w q n v3 v11 wr)
  case atStart => exact ⟨0, none, 0, [], Nat.zero_le _, rfl, rfl, rfl, ⟨Arr.none_ _ _ _, fun k hk => (InB.none_ k hk).elim⟩, Fr.refl _ _, rfl⟩
  case round =>
    obtain ⟨j, A, c, xs, hj, rfl, rfl, rfl, hIL, hfr, hxs⟩ := hrel
    have hxl : xs.length ≤ 1024 := by rw [hxs, List.length_map, List.length_take]; omega
    by_cases hjl : j < q.length
    · obtain ⟨b, off, hA, hbl, y1, y2⟩ := wcell_at (HA.out.fr hfr (fun _ _ h => h)).rd hjl
      have htk := List.take_succ_eq_append_getElem hjl
      obtain ⟨⟨ya, yb⟩, hy⟩ : ∃ y, y = q[j] := ⟨_, rfl⟩
      rw [← hy] at y1 y2 htk
      simp only [] at y1 y2
      have HX : Hid ((q.take (j + 1)).map (·.1) = xs ++ [ya]) := Lib.hid (by rw [htk, List.map_append, hxs]; rfl)
      have hK : Fr NoB wr (wr.alloc (.cells #[.int .i64 ya, .int .i64 yb] 62)) := (Fr.refl _ _).alloc _
      have HIL := Lib.hid (hIL.keep hK (fun _ _ h => h))
      have HFR := Lib.hid (hfr.trans hK)
      clear hIL htk hy hxs hfr hK
      subst hA
      have HG := Lib.hid (HIL.out.arg ya (wr.heap.size + 1) (by simp))
      go_wp2_with (at_builtin; refine wpList_append_arr _ rfl _ _ 25 rfl 3 k0 _ 1 8 Try.underlying25 hk0 kz0 kz1 kz2 rfl A xs.length c (ints xs) rfl HG.out.1 _ (some ⟨_, 0, none⟩) 1 1 [.int .i64 ya] rfl HG.out.2 (by intro u hu; simp at hu; subst hu; rfl) (by simp only [maxLen]; omega) (by omega) ?_; intro A2 c2 w2 ha2 hf2 hin2 _)
      have HP := Lib.hid (HIL.out.put HFR.out ha2 hf2 hin2)
      clear ha2 hf2 hin2
      go_wp2_with fail
      go_roundg (q.length - (j + 1))
      case measure => omega
      case rel => exact ⟨j + 1, A2, c2, xs ++ [ya], by omega, rfl, by rw [List.length_append]; rfl, by go_num, HP.out.1, HP.out.2, HX.out.symm⟩
    · obtain rfl : j = q.length := by omega
      rw [List.take_length] at hxs
      have f0 : wr.frozen? ⟨p, 0, none⟩ = false := (HB0.out.fr hfr (fun h => h)).frozen 0
      have f1 : wr.cell? ⟨p, 0, none⟩ = some (.slice A0 q.length c0) := (HB0.out.fr hfr (fun h => h)).cell 0
      have HD := Lib.hid (refLeave_done H.out hIL hfr)
      have HX := Lib.hid hxs
      clear hxs hIL hfr
      go_wp2_with fail
      go_ret
      rw [← HX.out]
      exact HD.out
end Go.Proofs.Ytjafjhaoogimcaa
