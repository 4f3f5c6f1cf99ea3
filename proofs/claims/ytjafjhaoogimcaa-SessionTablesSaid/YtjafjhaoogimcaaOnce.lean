/- SessionOnce: the walk. -/
import Derived.Test.YtjafjhaoogimcaaStepsIn
namespace Go.Proofs.Ytjafjhaoogimcaa
open Go.RowKit

theorem waitF_len (q : List (Int × Int)) (dn : List Int) (a b : Int) : (waitF q dn a b).2.length ≤ q.length + 1 := by
  unfold waitF
  split
  · split
    · split
      · simp
      · simp [insF_len]
    · simp
  · simp
theorem up_dn_len (q : List (Int × Int)) (commit : Int) : (upF q commit).length + (dnF q commit).length = q.length := by
  unfold upF dnF
  rw [List.length_map]
  induction q with
  | nil => rfl
  | cons p r ih =>
    by_cases h : p.2 ≤ commit
    · rw [List.filter_cons_of_pos (by simpa using h), List.filter_cons_of_neg (by simpa using h)]
      simp only [List.length_cons]
      omega
    · rw [List.filter_cons_of_neg (by simpa using h), List.filter_cons_of_pos (by simpa using h)]
      simp only [List.length_cons]
      omega

structure ON (w : World) (t : Nat) (S : Nat → Prop) (q : List (Int × Int)) (dn tl : List Int) (B : Option Addr) (d : Nat) (wr : World) : Prop where
  tab : TabAt wr S t q dn
  told : Arr wr 3 1 B tl.length d (ints tl)
  dis : ∀ j, InB B j → ¬ S j
  ub : ∀ j, InB B j → w.heap.size ≤ j
  up : Up w.heap.size S
  fr : Fr NoB w wr
section
variable {w wr W w2 : World} {t : Nat} {S : Nat → Prop} {q q2 : List (Int × Int)} {dn dn2 tl : List Int} {B : Option Addr} {d : Nat}
theorem ON.keep (h : ON w t S q dn tl B d wr) (hf : Fr NoB wr W) : ON w t S q dn tl B d W :=
  ⟨h.tab.fr hf (fun _ _ h => h), h.told.fr hf (fun _ _ h => h), h.dis, h.ub, h.up, h.fr.trans hf⟩
theorem ON.turn (h : ON w t S q dn tl B d wr) (ht : TabAt w2 S t q2 dn2) (hf : Fr S wr w2) : ON w t S q2 dn2 tl B d w2 :=
  ⟨ht, h.told.fr hf h.dis, h.dis, h.ub, h.up, h.fr.up hf h.up⟩
theorem ON.tell (h : ON w t S q dn tl B d wr) {B' : Option Addr} {d' : Nat} {x : Int} (ha : Arr w2 3 1 B' (tl.length + 1) d' (ints tl ++ [.int .i64 x])) (hf : Fr (InB B) wr w2) (hin : ∀ k, InB B' k → InB B k ∨ wr.heap.size ≤ k) : ON w t S q dn (tl ++ [x]) B' d' w2 := by
  have hz := h.fr.size
  refine ⟨h.tab.fr hf (fun k hk hb => h.dis k hb hk), ?_, fun k hk hs => ?_, fun k hk => ?_, h.up, h.fr.join hf (fun j hj hb => by have := h.ub j hb; omega)⟩
  · rw [List.length_append]
    simpa [ints] using ha
  · rcases hin k hk with h' | h'
    · exact h.dis k h' hs
    · have := h.tab.lt k hs; omega
  · rcases hin k hk with h' | h'
    · exact h.ub k h'
    · omega
end

def ONs (ss : List Step3) (w : World) (t : Nat) (n : Nat) (v4 v16 : Value) (wr : World) : Prop :=
  ∃ (k : Nat) (S : Nat → Prop) (q : List (Int × Int)) (dn : List Int) (B : Option Addr) (d : Nat), k ≤ ss.length ∧ q.length + dn.length ≤ k ∧ n = ss.length - k ∧ v4 = .slice B dn.length d ∧ v16 = .int .i64 k ∧ ON w t S q dn dn B d wr
def INs (w : World) (t : Nat) (S : Nat → Prop) (q : List (Int × Int)) (dn out : List Int) (A : Option Addr) (c : Nat) (n : Nat) (v4 v30 : Value) (wr : World) : Prop :=
  ∃ (j : Nat) (B : Option Addr) (d : Nat), j ≤ out.length ∧ n = out.length - j ∧ v4 = .slice B (dn ++ out.take j).length d ∧ v30 = .int .i64 j ∧ ON w t S q (dn ++ out) (dn ++ out.take j) B d wr ∧ Arr wr 3 1 A out.length c (ints out) ∧ (∀ j, InB B j → ¬ InB A j) ∧ (∀ j, InB A j → ¬ S j)

theorem ON.arg {w W : World} {t : Nat} {S : Nat → Prop} {q : List (Int × Int)} {dn tl : List Int} {B : Option Addr} {d : Nat} (h : ON w t S q dn tl B d W) (y : Int) :
    Arr (W.alloc (.cells #[.int .i64 y] 3)) 3 1 B tl.length d (ints tl) ∧ Rd (W.alloc (.cells #[.int .i64 y] 3)) (fun k => k = W.heap.size) 1 (some ⟨W.heap.size, 0, none⟩) 1 1 [.int .i64 y] :=
  ⟨h.told.fr ((Fr.refl NoB _).alloc _) (fun _ _ h => h), rd_one (Bk.new W 3 #[.int .i64 y])⟩
theorem INs_next {w W w2 : World} {t : Nat} {S : Nat → Prop} {q : List (Int × Int)} {dn out tl : List Int} {A B B' : Option Addr} {c d d' j : Nat} {y : Int} (hON : ON w t S q (dn ++ out) tl B d W) (hAr : Arr W 3 1 A out.length c (ints out)) (hdis : ∀ j, InB B j → ¬ InB A j) (hAS : ∀ j, InB A j → ¬ S j)
    (o : Obj) (ha : Arr w2 3 1 B' (tl.length + 1) d' (ints tl ++ [.int .i64 y])) (hf : Fr (InB B) (W.alloc o) w2) (hin : ∀ k, InB B' k → InB B k ∨ (W.alloc o).heap.size ≤ k) (hj : j < out.length) (htl : dn ++ out.take (j + 1) = tl ++ [y]) :
    INs w t S q dn out A c (out.length - (j + 1)) (.slice B' (tl.length + 1) d') (.int .i64 ((j : Int) + 1)) w2 := by
  have hk : Fr NoB W (W.alloc o) := (Fr.refl _ _).alloc _
  refine ⟨j + 1, B', d', by omega, rfl, by rw [htl, List.length_append]; rfl, by go_num, ?_, (hAr.fr hk (fun _ _ h => h)).fr hf (fun k ha hb => hdis k hb ha), fun k hb ha => ?_, hAS⟩
  · rw [htl]
    exact (hON.keep hk).tell ha hf hin
  · rcases hin k hb with h' | h'
    · exact hdis k h' ha
    · have := hAr.lt k ha
      simp at h'
      omega

set_option maxHeartbeats 8000000 in
set_option maxRecDepth 100000 in
theorem once_any (A : Option Addr) (c : Nat) (ss : List Step3) (w : World) (h : StepsIn w w.heap.size A c ss) :
    Calls Try.prog 3 #[.slice A ss.length c] w (LawPost w) := by
  have hsl : ss.length ≤ 9223372036854775807 := by have := h.1.2.1; have := h.1.2.2.1; simp only [maxLen] at this; omega
  obtain ⟨i0, hi0, hz0, hz1, hz2⟩ := info_parts info3
  go_enter Try.func3, Try.ntmps3
  go_wp2_with fail
  refine (new_any _).mono ?_
  rintro e w1 ⟨t, S, ht, rfl, tb1, up1, fr1⟩
  have HN : Hid (ONs ss w t ss.length (.slice none 0 0) (.int .i64 (0 : Nat)) w1) :=
    ⟨0, S, [], [], none, 0, Nat.zero_le _, Nat.le_refl _, rfl, rfl, rfl, tb1, Arr.none_ _ _ _, fun j hj => (InB.none_ j hj).elim, fun j hj => (InB.none_ j hj).elim, up1, fr1⟩
  clear tb1 up1 fr1
  go_wp2_with fail
  go_loopg [4, 16] ss.length (fun n v4 v16 wr => ONs ss w t n v4 v16 wr)
  case atStart => exact HN.out
  case round =>
    obtain ⟨k, S, q, dn, B, d, hk, hcnt, rfl, rfl, rfl, hw⟩ := hrel
    by_cases hlt : k < ss.length
    · obtain ⟨b, off, kd, ka, kb, hsk, rfl, x0, x1, x2, o1, o2, o3⟩ := (h.fr hw.fr).step hlt
      have hW : Fr NoB wr (wr.alloc (.cells #[.int .i64 kd, .int .i64 ka, .int .i64 kb] 27)) := (Fr.refl _ _).alloc _
      have HW := Lib.hid (hw.keep hW)
      have HB := Lib.hid (Bk.new wr 27 #[.int .i64 kd, .int .i64 ka, .int .i64 kb])
      have HFR := Lib.hid hw.fr
      clear hw hW hsk
      by_cases hbig : 1000 ≤ k
      · have d1 : decide ((1000 : Int) ≤ (k : Int)) = true := decide_eq_true (by omega)
        go_wp2_with fail
        refine (speaks_any _).mono ?_
        rintro e w9 ⟨rfl, fr9⟩
        go_wp2_with fail
        go_ret
        exact ⟨rfl, HW.out.fr.trans fr9⟩
      have d1 : decide ((1000 : Int) ≤ (k : Int)) = false := decide_eq_false (by omega)
      by_cases hk0 : kd = 0
      · subst hk0
        go_wp2_with fail
        refine (wait_any ka kb _ HW.out.tab).mono ?_
        rintro e w3 ⟨rfl, tb3, fr3⟩
        have hlen := waitF_len q dn ka kb
        have HT := Lib.hid (HW.out.turn tb3 fr3)
        clear tb3 fr3
        generalize waitF q dn ka kb = r at *
        go_wp2_with fail
        go_roundg (ss.length - (k + 1))
        case measure => omega
        case rel => exact ⟨k + 1, S, r.2, dn, B, d, by omega, by omega, rfl, rfl, by go_num, HT.out⟩
      have hk0' : (kd == 0) = false := by simp [hk0]
      by_cases hk1 : kd = 1
      · subst hk1
        go_wp2_with fail
        refine (wait_any ka kb _ HW.out.tab).mono ?_
        rintro e w3 ⟨rfl, tb3, fr3⟩
        have hlen := waitF_len q dn ka kb
        have HT := Lib.hid (HW.out.turn tb3 fr3)
        clear tb3 fr3
        generalize waitF q dn ka kb = r at *
        go_wp2_with fail
        go_roundg (ss.length - (k + 1))
        case measure => omega
        case rel => exact ⟨k + 1, S, r.2, dn, B, d, by omega, by omega, rfl, rfl, by go_num, HT.out⟩
      have hk1' : (kd == 1) = false := by simp [hk1]
      by_cases hk3 : kd = 3
      · subst hk3
        go_wp2_with fail
        refine (leave_any _ HW.out.tab).mono ?_
        rintro e w3 ⟨A3, c3, rfl, arr3, in3, tb3, fr3⟩
        have HT := Lib.hid (HW.out.turn tb3 fr3)
        clear tb3 fr3 arr3 in3
        go_wp2_with fail
        go_roundg (ss.length - (k + 1))
        case measure => omega
        case rel => exact ⟨k + 1, S, [], dn, B, d, by omega, by simp; omega, rfl, rfl, by go_num, HT.out⟩
      have hk3' : (kd == 3) = false := by simp [hk3]
      go_wp2_with fail
      refine (settle_any kb _ HW.out.tab (by omega)).mono ?_
      rintro e w3 ⟨A3, c3, rfl, arr3, in3, tb3, fr3⟩
      have hsum := up_dn_len q kb
      have hgood := HW.out.tab.good
      have hnd : (upF q kb).Nodup := (List.Sublist.map _ List.filter_sublist).nodup hgood.nd
      have hfresh : ∀ j (hj : j < (upF q kb).length), (upF q kb)[j] ∉ dn ++ (upF q kb).take j ∧ okI (upF q kb)[j] := fun j hj => by
        obtain ⟨p, hp, hpe, _⟩ := mem_upF (List.getElem_mem hj)
        have hr := hgood.rq p hp
        refine ⟨?_, by unfold okI; omega⟩
        rw [List.mem_append, not_or]
        refine ⟨fun hx => hgood.dis p hp (by rw [hpe]; exact hx), ?_⟩
        have e1 : upF q kb = (upF q kb).take j ++ (upF q kb)[j] :: (upF q kb).drop (j + 1) := by
          rw [List.getElem_cons_drop, List.take_append_drop]
        have hnd' := hnd
        rw [e1] at hnd'
        exact nd_app hnd'
      have HFRESH := Lib.hid hfresh
      have hI0 : INs w t S (dnF q kb) dn (upF q kb) A3 c3 (upF q kb).length (.slice B dn.length d) (.int .i64 (0 : Nat)) w3 := by
        refine ⟨0, B, d, Nat.zero_le _, rfl, by simp, rfl, ?_, arr3, fun j hj ha => ?_, fun j ha hs => ?_⟩
        · rw [List.take_zero, List.append_nil]
          exact HW.out.turn tb3 fr3
        · have := HW.out.told.lt j hj
          have := in3 j ha
          omega
        · have := HW.out.tab.lt j hs
          have := in3 j ha
          omega
      have HI := Lib.hid hI0
      clear arr3 in3 tb3 fr3 hgood hnd hfresh hI0
      generalize upF q kb = out at *
      generalize dnF q kb = q2 at *
      go_wp2_with fail
      go_loopg [4, 30] out.length (fun n v4 v30 wr => INs w t S q2 dn out A3 c3 n v4 v30 wr)
      case atStart => exact HI.out
      case round =>
        obtain ⟨j, B2, d2, hj, rfl, rfl, rfl, hON, hAr, hdis, hAS⟩ := hrel
        by_cases hjl : j < out.length
        · obtain ⟨b1, off1, rfl, y0⟩ := int_cell hAr.rd hjl
          obtain ⟨hfr1, hok1⟩ := HFRESH.out j hjl
          have hst := state_any out[j] _ hON.tab hok1
          have hs2 : stateF q2 (dn ++ out) out[j] = 2 := by
            unfold stateF
            rw [if_pos (List.mem_append_right _ (List.getElem_mem hjl))]
          rw [hs2] at hst
          have htk := List.take_succ_eq_append_getElem hjl
          have HTK : Hid (dn ++ out.take (j + 1) = (dn ++ out.take j) ++ [out[j]]) := Lib.hid (by rw [htk, List.append_assoc])
          have HON := Lib.hid hON
          have HAR := Lib.hid hAr
          have HDIS := Lib.hid hdis
          have HAS := Lib.hid hAS
          have hTL : ∀ i (hi : i < (dn ++ out.take j).length), (dn ++ out.take j)[i] ≠ out[j] := fun i hi e => hfr1 (by rw [← e]; exact List.getElem_mem hi)
          have HTL := Lib.hid hTL
          have hlen : (dn ++ out.take j).length ≤ 2000 := by
            rw [List.length_append, List.length_take]
            omega
          clear hON hAr hdis hAS hs2 htk hfr1 hTL
          generalize dn ++ out.take j = tl at *
          generalize out[j] = y at *
          go_wp2_with fail
          go_loopg [36] tl.length (fun n v36 w' => ∃ i : Nat, i ≤ tl.length ∧ n = tl.length - i ∧ v36 = .int .i64 i ∧ w' = wr)
          case atStart => exact ⟨0, Nat.zero_le _, rfl, rfl, rfl⟩
          case round =>
            obtain ⟨i, hi, rfl, rfl, rfl⟩ := hrel
            by_cases hil : i < tl.length
            · obtain ⟨b2, off2, hB2, y1⟩ := int_cell HON.out.told.rd hil
              have hne : (tl[i] == y) = false := by
                rw [beq_eq_false_iff_ne]
                exact HTL.out i hil
              generalize tl[i] = z at *
              subst hB2
              go_wp2_with fail
              go_roundg (tl.length - (i + 1))
              case measure => omega
              case rel => exact ⟨i + 1, by omega, rfl, by go_num, rfl⟩
            · obtain rfl : i = tl.length := by omega
              go_wp2_with fail
              refine hst.mono ?_
              rintro e w' ⟨rfl, rfl⟩
              obtain ⟨hta, hrd⟩ := HON.out.arg y
              have HTA := Lib.hid hta
              have HRD := Lib.hid hrd
              clear hta hrd
              go_wp2_with (at_builtin; refine wpList_append_arr _ rfl _ _ 25 rfl 3 i0 _ 1 8 Try.underlying25 hi0 hz0 hz1 hz2 rfl B2 tl.length d2 (ints tl) rfl HTA.out _ (some ⟨_, 0, none⟩) 1 1 [.int .i64 y] rfl HRD.out (by intro u hu; simp at hu; subst hu; rfl) (by simp only [maxLen]; omega) (by omega) ?_; intro B3 d3 w5 ha5 hf5 hin5 _)
              have HNX := Lib.hid (INs_next HON.out HAR.out HDIS.out HAS.out (.cells #[.int .i64 y] 3) ha5 hf5 hin5 hjl HTK.out)
              clear ha5 hf5 hin5
              go_wp2_with fail
              go_roundg (out.length - (j + 1))
              case measure => omega
              case rel => exact HNX.out
        · obtain rfl : j = out.length := by omega
          rw [List.take_length] at hON ⊢
          have HON := Lib.hid hON
          clear hON hAr hdis hAS
          have hc2 : q2.length + (dn ++ out).length ≤ k + 1 := by rw [List.length_append]; omega
          generalize dn ++ out = tl at *
          go_wp2_with fail
          go_roundg (ss.length - (k + 1))
          case measure => omega
          case rel => exact ⟨k + 1, S, q2, tl, B2, d2, by omega, hc2, rfl, rfl, by go_num, HON.out⟩
    · obtain rfl : k = ss.length := by omega
      go_wp2_with fail
      refine (speaks_any wr).mono ?_
      rintro e w9 ⟨rfl, fr9⟩
      go_wp2_with fail
      go_ret
      exact ⟨rfl, hw.fr.trans fr9⟩
end Go.Proofs.Ytjafjhaoogimcaa
