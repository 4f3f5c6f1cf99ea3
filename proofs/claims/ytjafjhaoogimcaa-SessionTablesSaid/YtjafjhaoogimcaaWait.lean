/- Contract of Wait. -/
import Derived.Test.YtjafjhaoogimcaaTab
namespace Go.Proofs.Ytjafjhaoogimcaa
open Go.RowKit

def insF (p : Int × Int) : List (Int × Int) → List (Int × Int)
  | [] => [p]
  | x :: r => if ltp p x then p :: x :: r else x :: insF p r
theorem insF_perm (p : Int × Int) : ∀ q, (p :: q).Perm (insF p q)
  | [] => List.Perm.refl _
  | x :: r => by
    unfold insF
    split
    · exact List.Perm.refl _
    · exact (List.Perm.swap _ _ _).trans (List.Perm.cons _ (insF_perm p r))
theorem insF_len (p : Int × Int) (q : List (Int × Int)) : (insF p q).length = q.length + 1 := by have := (insF_perm p q).length_eq; simpa using this.symm
theorem ltp_tot {p x : Int × Int} (h : ¬ ltp p x) (hn : p.1 ≠ x.1) : ltp x p := by unfold ltp at h ⊢; omega
theorem ltp_trans {x y z : Int × Int} (h1 : ltp x y) (h2 : ltp y z) : ltp x z := by unfold ltp at h1 h2 ⊢; omega
theorem insF_sorted (p : Int × Int) : ∀ q : List (Int × Int), q.Pairwise ltp → p.1 ∉ q.map (·.1) → (insF p q).Pairwise ltp
  | [], _, _ => List.pairwise_singleton _ _
  | x :: r, h, hn => by
    obtain ⟨h1, h2⟩ := List.pairwise_cons.1 h
    unfold insF
    split
    · rename_i hl
      refine List.pairwise_cons.2 ⟨fun y hy => ?_, h⟩
      rcases List.mem_cons.1 hy with rfl | hy
      · exact hl
      · exact ltp_trans hl (h1 y hy)
    · rename_i hl
      rw [List.map_cons, List.mem_cons, not_or] at hn
      refine List.pairwise_cons.2 ⟨fun y hy => ?_, insF_sorted p r h2 hn.2⟩
      rcases List.mem_cons.1 ((insF_perm p r).mem_iff.2 hy) with rfl | hy
      · exact ltp_tot hl hn.1
      · exact h1 y hy

theorem Good.ins {q : List (Int × Int)} {dn : List Int} (h : Good q dn) {req lsn : Int} (h1 : 1 ≤ req) (h2 : req ≤ 1099511627776) (h3 : 1 ≤ lsn) (h4 : lsn ≤ 1099511627776) (hq : req ∉ q.map (·.1)) (hd : req ∉ dn) (hl : q.length < 1024) : Good (insF (req, lsn) q) dn := by
  have hp := insF_perm (req, lsn) q
  refine ⟨fun p hm => ?_, h.rd, fun p hm => ?_, insF_sorted _ _ h.srt hq, ?_, by rw [insF_len]; omega⟩
  · rcases List.mem_cons.1 (hp.mem_iff.2 hm) with rfl | hm
    · exact ⟨h1, h2, h3, h4⟩
    · exact h.rq p hm
  · rcases List.mem_cons.1 (hp.mem_iff.2 hm) with rfl | hm
    · exact hd
    · exact h.dis p hm
  · refine (hp.map _).nodup_iff.1 ?_
    rw [List.map_cons, List.nodup_cons]
    exact ⟨hq, h.nd⟩

def waitF (q : List (Int × Int)) (dn : List Int) (req lsn : Int) : Int × List (Int × Int) :=
  if 1 ≤ req ∧ req ≤ 1099511627776 ∧ 1 ≤ lsn ∧ lsn ≤ 1099511627776 then if stateF q dn req = 0 then if q.length = 1024 then (5, q) else (0, insF (req, lsn) q) else (7, q) else (1, q)
theorem stateF_zero {q : List (Int × Int)} {dn : List Int} {x : Int} (h : stateF q dn x = 0) : x ∉ dn ∧ x ∉ q.map (·.1) := by
  unfold stateF at h
  split at h
  · omega
  · split at h
    · omega
    · exact ⟨‹_›, ‹_›⟩

def WaitPost (S : Nat → Prop) (t : Nat) (dn : List Int) (r : Int × List (Int × Int)) (w : World) (e : Ending) (w' : World) : Prop := e = .returned (.int .i64 r.1) ∧ TabAt w' S t r.2 dn ∧ Fr S w w'

theorem wait_any {S : Nat → Prop} {t : Nat} {q : List (Int × Int)} {dn : List Int} (req lsn : Int) (w : World) (h : TabAt w S t q dn) :
    Calls Try.prog 9 #[.pointer (some ⟨t, 0, none⟩), .int .i64 req, .int .i64 lsn] w (WaitPost S t dn (waitF q dn req lsn) w) := by
  have H := Lib.hid h
  unfold waitF
  by_cases h1 : req < 1
  · rw [if_neg (by omega)]
    clear h
    go_enter Try.func9, Try.ntmps9
    go_wp2_with fail
    go_ret
    exact ⟨rfl, H.out, Fr.refl _ _⟩
  by_cases h2 : 1099511627776 < req
  · rw [if_neg (by omega)]
    clear h
    go_enter Try.func9, Try.ntmps9
    go_wp2_with fail
    go_ret
    exact ⟨rfl, H.out, Fr.refl _ _⟩
  by_cases h3 : lsn < 1
  · rw [if_neg (by omega)]
    clear h
    go_enter Try.func9, Try.ntmps9
    go_wp2_with fail
    go_ret
    exact ⟨rfl, H.out, Fr.refl _ _⟩
  by_cases h4 : 1099511627776 < lsn
  · rw [if_neg (by omega)]
    clear h
    go_enter Try.func9, Try.ntmps9
    go_wp2_with fail
    go_ret
    exact ⟨rfl, H.out, Fr.refl _ _⟩
  rw [if_pos (by omega)]
  have hs := state_any req w h (by unfold okI; omega)
  by_cases h0 : stateF q dn req = 0
  rotate_left
  · rw [if_neg h0]
    have hb : (stateF q dn req != 0) = true := by simpa using h0
    clear h
    generalize stateF q dn req = s at *
    go_enter Try.func9, Try.ntmps9
    go_wp2_with fail
    refine hs.mono ?_
    rintro e w' ⟨rfl, rfl⟩
    go_wp2_with fail
    go_ret
    exact ⟨rfl, H.out, Fr.refl _ _⟩
  rw [if_pos h0]
  obtain ⟨n1, n2⟩ := stateF_zero h0
  rw [h0] at hs
  obtain ⟨⟨bw, bd, hb, hw, hd, i1, i2, i3⟩, ho, hlt, hg⟩ := h
  have c0 : w.cell? ⟨t, 0, none⟩ = some (.map (some bw)) := hb.cell 0
  have hl := hw.run_len Try.underlying58
  have hfew := hg.few
  by_cases h5 : q.length = 1024
  · rw [if_pos h5]
    rw [h5] at hl
    clear hb hw hd hg h0 n1 n2 h5
    go_enter Try.func9, Try.ntmps9
    go_wp2_with fail
    refine hs.mono ?_
    rintro e w' ⟨rfl, rfl⟩
    go_wp2_with fail
    go_ret
    exact ⟨rfl, H.out, Fr.refl _ _⟩
  · rw [if_neg h5]
    have hb5 : ((q.length : Int) == 1024) = false := by rw [beq_eq_false_iff_ne]; omega
    have HG := Lib.hid (hg.ins (req := req) (lsn := lsn) (by omega) (by omega) (by omega) (by omega) n2 n1 (by omega))
    have HB := Lib.hid hb
    have HD := Lib.hid hd
    have HN := Lib.hid n2
    have hbt := map_ne_bk hw hb
    clear hb hd hg h0 n1 n2 h5
    go_enter Try.func9, Try.ntmps9
    go_wp2_with fail
    refine hs.mono ?_
    rintro e w' ⟨rfl, rfl⟩
    go_wp2_with (at_mapUpdate; refine wpList_store_is elemI rfl _ _ _ 58 rfl 3 Try.underlying3 Try.underlying58 rfl hw req lsn rfl rfl (by unfold okI; omega) (by unfold okI; omega) HN.out (by simp only [maxLen]; omega) ?_; intro w1 hw1 hf1)
    go_ret
    refine ⟨rfl, ⟨⟨bw, bd, HB.out.fr hf1 (fun e => hbt e.symm), hw1.perm (insF_perm _ _), HD.out.fr hf1 (fun e => i3 e.symm), i1, i2, i3⟩, ho, fun k hk => ?_, HG.out⟩, hf1.mono (fun j _ e => by subst e; exact i1)⟩
    have := hlt k hk
    have := hf1.size
    omega

theorem wait_nil (req lsn : Int) (w : World) :
    Calls Try.prog 9 #[.pointer none, .int .i64 req, .int .i64 lsn] w fun e w' => e = .returned (.int .i64 (if 1 ≤ req ∧ req ≤ 1099511627776 ∧ 1 ≤ lsn ∧ lsn ≤ 1099511627776 then 5 else 1)) ∧ w = w' := by
  by_cases h1 : req < 1
  · rw [if_neg (by omega)]
    go_enter Try.func9, Try.ntmps9
    go_wp2_with fail
    go_ret
    exact ⟨rfl, rfl⟩
  by_cases h2 : 1099511627776 < req
  · rw [if_neg (by omega)]
    go_enter Try.func9, Try.ntmps9
    go_wp2_with fail
    go_ret
    exact ⟨rfl, rfl⟩
  by_cases h3 : lsn < 1
  · rw [if_neg (by omega)]
    go_enter Try.func9, Try.ntmps9
    go_wp2_with fail
    go_ret
    exact ⟨rfl, rfl⟩
  by_cases h4 : 1099511627776 < lsn
  · rw [if_neg (by omega)]
    go_enter Try.func9, Try.ntmps9
    go_wp2_with fail
    go_ret
    exact ⟨rfl, rfl⟩
  rw [if_pos (by omega)]
  go_enter Try.func9, Try.ntmps9
  go_wp2_with fail
  refine (state_nil req w).mono ?_
  rintro e w' ⟨rfl, rfl⟩
  go_wp2_with fail
  go_ret
  exact ⟨rfl, rfl⟩
end Go.Proofs.Ytjafjhaoogimcaa
