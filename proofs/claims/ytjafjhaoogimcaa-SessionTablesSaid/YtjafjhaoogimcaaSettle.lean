/- Contracts of Settle, Leave. -/
import Derived.Test.YtjafjhaoogimcaaUpTo
namespace Go.Proofs.Ytjafjhaoogimcaa
open Go.RowKit

theorem upTo_nil (commit : Int) (w : World) : Calls Try.prog 26 #[.pointer none, .int .i64 commit] w fun e w' => e = .returned (.slice none 0 0) ∧ Fr NoB w w' := by
  go_enter Try.func26, Try.ntmps26
  go_wp2_with fail
  go_ret
  exact ⟨rfl, (Fr.refl _ _).alloc _⟩

theorem qd_snoc (dn : List Int) (x : Int) : ((x, (1 : Int)) :: qd dn).Perm (qd (dn ++ [x])) := by
  unfold qd
  rw [List.map_append]
  exact (List.perm_append_comm (l₁ := [(x, (1 : Int))])).trans (List.Perm.refl _)
theorem qd_keys (dn : List Int) : (qd dn).map (·.1) = dn := by
  unfold qd
  rw [List.map_map]
  exact List.map_id dn
theorem Good.settle {q : List (Int × Int)} {dn : List Int} (h : Good q dn) (commit : Int) : Good (dnF q commit) (dn ++ upF q commit) := by
  refine ⟨(h.down commit).rq, fun x hx => ?_, fun p hp hd => ?_, (h.down commit).srt, (h.down commit).nd, (h.down commit).few⟩
  · rcases List.mem_append.1 hx with hx | hx
    · exact h.rd x hx
    · obtain ⟨p, hp, rfl, _⟩ := mem_upF hx
      have := h.rq p hp
      omega
  · obtain ⟨h1, h2⟩ := List.mem_filter.1 hp
    rcases List.mem_append.1 hd with hd | hd
    · exact h.dis p h1 hd
    · obtain ⟨p', hp', e, hl⟩ := mem_upF hd
      have e1 := val_mem (z0 := 0) h.nd h1
      have e2 := val_mem (z0 := 0) h.nd hp'
      rw [e, e1] at e2
      rw [← e2] at hl
      simp only [Bool.not_eq_true', decide_eq_false_iff_not] at h2
      exact h2 hl

def SettlePost (S : Nat → Prop) (t : Nat) (q : List (Int × Int)) (dn : List Int) (commit : Int) (w : World) (e : Ending) (w' : World) : Prop :=
  ∃ A c, e = .returned (.slice A (upF q commit).length c) ∧ Arr w' 3 1 A (upF q commit).length c (ints (upF q commit)) ∧ (∀ k, InB A k → w.heap.size ≤ k) ∧ TabAt w' S t (dnF q commit) (dn ++ upF q commit) ∧ Fr S w w'

def StL (w : World) (bd : Nat) (dn ys : List Int) (A : Option Addr) (c : Nat) (g : Nat) (v13 : Value) (wr : World) : Prop :=
  ∃ k : Nat, k ≤ ys.length ∧ g = ys.length - k ∧ v13 = .int .i64 k ∧ MI wr bd (qd (dn ++ ys.take k)) ∧ Arr wr 3 1 A ys.length c (ints ys) ∧ Fr (fun j => j = bd) w wr

theorem nd_app {α : Type} {l₁ l₂ : List α} {x : α} (h : (l₁ ++ x :: l₂).Nodup) : x ∉ l₁ := fun hx => (List.nodup_append.1 h).2.2 x hx x List.mem_cons_self rfl

set_option maxHeartbeats 2000000 in
theorem settle_any {S : Nat → Prop} {t : Nat} {q : List (Int × Int)} {dn : List Int} (commit : Int) (w : World) (h : TabAt w S t q dn) (hN : dn.length ≤ 1099511627776) :
    Calls Try.prog 11 #[.pointer (some ⟨t, 0, none⟩), .int .i64 commit] w (SettlePost S t q dn commit w) := by
  have hup := upTo_any commit w h
  have HG := Lib.hid h.good
  clear h
  go_enter Try.func11, Try.ntmps11
  go_wp2_with fail
  refine hup.mono ?_
  rintro e w1 ⟨A, c, rfl, harr, hin, htab, hfr⟩
  obtain ⟨⟨bw, bd, hb, hw, hd, j1, j2, j3⟩, ho, hlt, _⟩ := htab
  have hbt := map_ne_bk hd hb
  have HB := Lib.hid hb
  have HW := Lib.hid hw
  have HF := Lib.hid hfr
  have hule := Nat.le_trans (upF_le q commit) HG.out.few
  have hAS : Hid (∀ j, InB A j → ¬ S j ∨ w.heap.size ≤ j) := Lib.hid (fun j hj => .inr (hin j hj))
  have hC0 : StL w1 bd dn (upF q commit) A c (upF q commit).length (.int .i64 (0 : Nat)) w1 := ⟨0, Nat.zero_le _, rfl, rfl, by rw [List.take_zero, List.append_nil]; exact hd, harr, Fr.refl _ _⟩
  have HC := Lib.hid hC0
  have hbdl := hd.lt
  have hAbd : Hid (¬ InB A bd) := Lib.hid (fun hk => by
    obtain ⟨⟨D, ⟨es, clock, g1, _⟩, _⟩, _⟩ := hd
    rcases harr.2 with ⟨rfl, _⟩ | ⟨g, cur, rfl, hbk, _⟩
    · exact InB.none_ _ hk
    · rw [InB.some_] at hk
      simp only [] at hk
      subst hk
      unfold Bk at hbk
      rw [g1] at hbk
      cases hbk)
  have HIN := Lib.hid hin
  clear hC0 harr hb hw hd hfr hin hup
  go_wp2_with fail
  go_loopg [13] (upF q commit).length (fun g v13 wr => StL w1 bd dn (upF q commit) A c g v13 wr)
  case atStart => exact HC.out
  case round =>
    obtain ⟨k, hk, rfl, rfl, hm, ha, hf⟩ := hrel
    by_cases hkl : k < (upF q commit).length
    · obtain ⟨g, off, u, rfl, hgS, hgl, hu, hcu⟩ := ha.rd.cell_at hkl 0 (by omega)
      simp only [Nat.mul_one, Nat.add_zero] at hu hcu
      have hux : u = .int .i64 ((upF q commit)[k]) := by
        simp only [ints, List.getElem?_map, List.getElem?_eq_getElem hkl, Option.map_some, Option.some.injEq] at hu
        exact hu.symm
      subst hux
      obtain ⟨p, hp, hpe, hpl⟩ := mem_upF (List.getElem_mem hkl)
      have hpr := HG.out.rq p hp
      have hoky : okI ((upF q commit)[k]) := by unfold okI; omega
      have hnew : (upF q commit)[k] ∉ (qd (dn ++ (upF q commit).take k)).map (·.1) := by
        rw [qd_keys, List.mem_append, not_or]
        refine ⟨fun hx => HG.out.dis p hp (by rw [hpe]; exact hx), ?_⟩
        have hnd : (upF q commit).Nodup := (List.Sublist.map _ List.filter_sublist).nodup HG.out.nd
        have e1 : upF q commit = (upF q commit).take k ++ (upF q commit)[k] :: (upF q commit).drop (k + 1) := by
          rw [List.getElem_cons_drop, List.take_append_drop]
        rw [e1] at hnd
        have := nd_app hnd
        simpa using this
      have hsn := qd_snoc (dn ++ (upF q commit).take k) ((upF q commit)[k])
      rw [List.append_assoc, ← List.take_succ_eq_append_getElem hkl] at hsn
      have HSN := Lib.hid hsn
      have HNEW := Lib.hid hnew
      have b1 : wr.cell? ⟨t, 1, none⟩ = some (.map (some bd)) := (HB.out.fr hf (fun e => hbt e.symm)).cell 1
      have hml : (qd (dn ++ (upF q commit).take k)).length < maxLen := by
        have : ((upF q commit).take k).length ≤ k := List.length_take_le _ _
        simp only [qd, List.length_map, List.length_append, maxLen]
        omega
      have HM := Lib.hid hm
      have HAR := Lib.hid ha
      have HFF := Lib.hid hf
      have HML := Lib.hid hml
      clear hu hp hpe hpl hpr ha hf hsn hnew hml
      generalize (upF q commit)[k] = y at *
      go_wp2_with (at_mapUpdate; refine wpList_store_is elemI rfl _ _ _ 58 rfl 3 Try.underlying3 Try.underlying58 rfl hm y 1 rfl rfl hoky (by unfold okI; omega) HNEW.out HML.out ?_; intro w3 hm3 hf3)
      have e3 : StL w1 bd dn (upF q commit) (some ⟨g, off, none⟩) c ((upF q commit).length - (k + 1)) (.int .i64 ((k + 1 : Nat) : Int)) w3 :=
        ⟨k + 1, by omega, rfl, rfl, hm3.perm HSN.out, HAR.out.fr hf3 (fun j hj e => hAbd.out (e ▸ hj)), HFF.out.trans hf3⟩
      have H3 := Lib.hid e3
      clear e3 hm3 hf3
      go_wp2_with fail
      go_roundg ((upF q commit).length - (k + 1))
      case measure => omega
      case rel => exact (by have := H3.out; rwa [show (((k + 1 : Nat) : Int)) = (k : Int) + 1 by omega] at this)
    · obtain rfl : k = (upF q commit).length := by omega
      rw [List.take_length] at hm
      have HM := Lib.hid hm
      have HAR := Lib.hid ha
      have HFF := Lib.hid hf
      clear hm ha hf
      go_wp2_with fail
      go_ret
      refine ⟨A, c, rfl, HAR.out, HIN.out, ⟨⟨bw, bd, HB.out.fr HFF.out (fun e => hbt e.symm), HW.out.fr HFF.out j3, HM.out, j1, j2, j3⟩, ho, fun k hk => ?_, HG.out.settle commit⟩, HF.out.trans (HFF.out.mono (fun j _ e => by subst e; exact j2))⟩
      have := hlt k hk
      have := HFF.out.size
      omega
theorem settle_nil (commit : Int) (w : World) : Calls Try.prog 11 #[.pointer none, .int .i64 commit] w fun e w' => e = .returned (.slice none 0 0) ∧ Fr NoB w w' := by
  go_enter Try.func11, Try.ntmps11
  go_wp2_with fail
  refine (upTo_nil commit w).mono ?_
  rintro e w1 ⟨rfl, hf⟩
  go_wp2_with fail
  go_loopg [13] 0 (fun g v wr => v = .int .i64 (0 : Int) ∧ wr = w1)
  case atStart => exact ⟨rfl, rfl⟩
  case round =>
    obtain ⟨rfl, rfl⟩ := hrel
    go_wp2_with fail
    go_ret
    exact ⟨rfl, hf⟩

theorem up_all {q : List (Int × Int)} {dn : List Int} (h : Good q dn) : upF q 1099511627776 = q.map (·.1) ∧ dnF q 1099511627776 = [] := by
  refine ⟨?_, ?_⟩
  · unfold upF
    rw [List.filter_eq_self.2 fun p hp => decide_eq_true (h.rq p hp).2.2.2]
  · unfold dnF
    exact List.filter_eq_nil_iff.2 fun p hp => by
      have := (h.rq p hp).2.2.2
      simpa using this

def LeavePost (S : Nat → Prop) (t : Nat) (q : List (Int × Int)) (dn : List Int) (w : World) (e : Ending) (w' : World) : Prop :=
  ∃ A c, e = .returned (.slice A q.length c) ∧ Arr w' 3 1 A q.length c (ints (q.map (·.1))) ∧ (∀ k, InB A k → w.heap.size ≤ k) ∧ TabAt w' S t [] dn ∧ Fr S w w'
theorem leave_any {S : Nat → Prop} {t : Nat} {q : List (Int × Int)} {dn : List Int} (w : World) (h : TabAt w S t q dn) :
    Calls Try.prog 10 #[.pointer (some ⟨t, 0, none⟩)] w (LeavePost S t q dn w) := by
  have hup : Calls Try.prog 26 #[.pointer (some ⟨t, 0, none⟩), .int .i64 1099511627776] w (LeavePost S t q dn w) := (upTo_any 1099511627776 w h).mono fun e w' hp => by
    obtain ⟨A, c, he, harr, hin, htab, hfr⟩ := hp
    obtain ⟨e1, e2⟩ := up_all h.good
    rw [e1] at he harr
    rw [e2] at htab
    rw [List.length_map] at he harr
    exact ⟨A, c, he, harr, hin, htab, hfr⟩
  clear h
  go_enter Try.func10, Try.ntmps10
  go_wp2_with fail
  refine hup.mono ?_
  rintro e w1 ⟨A, c, rfl, harr, hin, htab, hfr⟩
  have HH : Hid (Arr w1 3 1 A q.length c (ints (q.map (·.1))) ∧ (∀ k, InB A k → w.heap.size ≤ k) ∧ TabAt w1 S t [] dn ∧ Fr S w w1) := Lib.hid ⟨harr, hin, htab, hfr⟩
  clear harr hin htab hfr hup
  go_wp2_with fail
  go_ret
  exact ⟨A, c, rfl, HH.out⟩
theorem leave_nil (w : World) : Calls Try.prog 10 #[.pointer none] w fun e w' => e = .returned (.slice none 0 0) ∧ Fr NoB w w' := by
  go_enter Try.func10, Try.ntmps10
  go_wp2_with fail
  refine (upTo_nil 1099511627776 w).mono ?_
  rintro e w1 ⟨rfl, hf⟩
  go_wp2_with fail
  go_ret
  exact ⟨rfl, hf⟩
end Go.Proofs.Ytjafjhaoogimcaa
