/- NetOrder: the walk. -/
import Derived.Test.YteaiifhppcibgaaSpeaks
import Derived.Deep.LoopGhost
namespace Go.Proofs.Yteaiifhppcibgaa
open Go.RowKit

/-- A [][]byte that came in. -/
def BytesIn (w : World) (N : Nat) (A : Option Addr) (c : Nat) (bs : List (List UInt8)) : Prop :=
  ∃ vs : List Value, Rd w (fun k => k < N) 1 A bs.length c vs ∧ ∀ (i : Nat) (v : Value) (b : List UInt8), vs[i]? = some v → bs[i]? = some b → ∃ A' c', v = .slice A' b.length c' ∧ Rd w (fun k => k < N) 1 A' b.length c' (bv b)

theorem BytesIn.fr {w w1 : World} {N : Nat} {A : Option Addr} {c : Nat} {bs : List (List UInt8)} (h : BytesIn w N A c bs) (hf : Fr NoB w w1) : BytesIn w1 N A c bs := by
  obtain ⟨vs, h1, h2⟩ := h
  refine ⟨vs, h1.fr hf (fun _ _ _ h => h), fun i v b hv hb => ?_⟩
  obtain ⟨A', c', e, h3⟩ := h2 i v b hv hb
  exact ⟨A', c', e, h3.fr hf (fun _ _ _ h => h)⟩

theorem BytesIn.at_ {w : World} {N : Nat} {A : Option Addr} {c : Nat} {bs : List (List UInt8)} (h : BytesIn w N A c bs) {k : Nat} (hk : k < bs.length) :
    ∃ b off A' c', A = some ⟨b, off, none⟩ ∧ w.cell? ⟨b, off + k, none⟩ = some (.slice A' (bs[k]).length c') ∧ Rd w (fun k => k < N) 1 A' (bs[k]).length c' (bv bs[k]) := by
  obtain ⟨vs, h1, h2⟩ := h
  obtain ⟨b, off, u, e, _, _, hu, hc⟩ := h1.cell_at hk 0 (by omega)
  simp only [Nat.mul_one, Nat.add_zero] at hu hc
  obtain ⟨A', c', rfl, h3⟩ := h2 k u _ hu (List.getElem?_eq_getElem hk)
  exact ⟨b, off, A', c', e, hc, h3⟩

def okB (b : List UInt8) : Bool := decide (b.length ≤ 65535)
def sentL (bs : List (List UInt8)) : List (List UInt8) := bs.filter okB
def msgs (l : List (List UInt8)) : List Msg := l.map fun b => ⟨1, 0, b⟩
def strs (l : List (List UInt8)) : List Value := l.map fun b => .string ⟨b.toArray⟩

/-- The first loop's relation: g rounds are to come. -/
def O1 (bs : List (List UInt8)) (w : World) (n g : Nat) (v5 v34 : Value) (wr : World) : Prop :=
  ∃ (k : Nat) (A c : _) (S : Nat → Prop), k ≤ bs.length ∧ g = bs.length - k ∧ v34 = .int .i64 k ∧ v5 = .slice A (sentL (bs.take k)).length c ∧ Arr wr 9 1 A (sentL (bs.take k)).length c (strs (sentL (bs.take k))) ∧
    NetAt wr S n 2 (msgs (sentL (bs.take k))) ∧ Up w.heap.size S ∧ Fr NoB w wr ∧ (∀ j, InB A j → w.heap.size ≤ j ∧ ¬ S j)

theorem info9 : (Try.prog.info? 9).map (fun i => (i.zero, i.size, i.bytes)) = some (some (.string ByteArray.empty), 1, 16) := by kernel_rfl

theorem take_snoc' {α : Type} (l : List α) (k : Nat) (h : k < l.length) : l.take (k + 1) = l.take k ++ [l[k]] := by
  rw [List.take_succ_eq_append_getElem h]
theorem sentL_yes {bs : List (List UInt8)} {k : Nat} (h : k < bs.length) (hb : (bs[k]).length ≤ 65535) : sentL (bs.take (k + 1)) = sentL (bs.take k) ++ [bs[k]] := by
  unfold sentL
  rw [take_snoc' _ _ h, List.filter_append]
  congr 1
  simp [okB, hb]
theorem sentL_no {bs : List (List UInt8)} {k : Nat} (h : k < bs.length) (hb : 65535 < (bs[k]).length) : sentL (bs.take (k + 1)) = sentL (bs.take k) := by
  unfold sentL
  rw [take_snoc' _ _ h, List.filter_append]
  simp [List.filter_cons, okB]
  omega
theorem sentL_len (bs : List (List UInt8)) (k : Nat) : (sentL (bs.take k)).length ≤ k := by
  have h1 := List.length_filter_le okB (bs.take k)
  have h2 := List.length_take_le k bs
  unfold sentL
  omega
theorem send_order {L : List Msg} {b : List UInt8} (hL : L.length ≤ 300) (hb : b.length ≤ 65535) : sendF 2 L 1 0 b = (0, L ++ [⟨1, 0, b⟩]) := by
  unfold sendF
  rw [if_pos ⟨by decide, by decide⟩, if_neg (by omega), if_neg (by omega)]
theorem send_order_no {L : List Msg} {b : List UInt8} (hb : 65535 < b.length) : sendF 2 L 1 0 b = (2, L) := by
  unfold sendF
  rw [if_pos ⟨by decide, by decide⟩, if_pos hb]

/-- The relation's step. -/
theorem O1.yes {bs : List (List UInt8)} {w wr w2 w3 : World} {n k : Nat} {A A3 : Option Addr} {c c3 : Nat} {S S2 : Nat → Prop} {o : Obj} (hk : k < bs.length) (hb : (bs[k]).length ≤ 65535)
    (hA : ∀ j, InB A j → w.heap.size ≤ j ∧ ¬ S j) (ha : Arr wr 9 1 A (sentL (bs.take k)).length c (strs (sentL (bs.take k)))) (hS : Up w.heap.size S) (hf : Fr NoB w wr)
    (hn : NetAt w2 S2 n 2 (msgs (sentL (bs.take k)) ++ [⟨1, 0, bs[k]⟩])) (hf2 : Fr S wr w2) (hg : Gr S S2 wr)
    (ha3 : Arr w3 9 1 A3 ((sentL (bs.take k)).length + 1) c3 (strs (sentL (bs.take k)) ++ [.string ⟨(bs[k]).toArray⟩])) (hf3 : Fr (InB A) (w2.alloc o) w3) (hi3 : ∀ j, InB A3 j → InB A j ∨ (w2.alloc o).heap.size ≤ j) :
    O1 bs w n (bs.length - (k + 1)) (.slice A3 ((sentL (bs.take k)).length + 1) c3) (.int .i64 ((k : Int) + 1)) w3 := by
  have e := sentL_yes hk hb
  have hs2 := hf2.size
  have hz : (w2.alloc o).heap.size = w2.heap.size + 1 := by simp
  have hAn : ∀ j, InB A j → ¬ S2 j := fun j hj h => by
    rcases hg j h with h | h
    · exact (hA j hj).2 h
    · have := ha.lt j hj
      omega
  have hn3 := (hn.fr (T := NoB) ((Fr.refl _ _).alloc o) (fun _ _ h => h)).fr hf3 (fun j hj hA' => hAn j hA' hj)
  have l2 := hn.lt
  refine ⟨k + 1, A3, c3, S2, by omega, rfl, by simp, by rw [e]; simp, by rw [e]; simpa [strs] using ha3, by rw [e]; simpa [msgs] using hn3, hg.up hS hf.size, ?_, fun j hj => ?_⟩
  · exact ((hf.up hf2 hS).alloc o).join hf3 (fun j hj hA' => by have := (hA j hA').1; omega)
  · rcases hi3 j hj with h | h
    · exact ⟨(hA j h).1, hAn j h⟩
    · have := hf.size
      refine ⟨by omega, fun hh => ?_⟩
      have := l2 j hh
      omega

theorem O1.no {bs : List (List UInt8)} {w wr w2 : World} {n k : Nat} {A : Option Addr} {c : Nat} {S S2 : Nat → Prop} (hk : k < bs.length) (hb : 65535 < (bs[k]).length)
    (hA : ∀ j, InB A j → w.heap.size ≤ j ∧ ¬ S j) (ha : Arr wr 9 1 A (sentL (bs.take k)).length c (strs (sentL (bs.take k)))) (hS : Up w.heap.size S) (hf : Fr NoB w wr)
    (hn : NetAt w2 S2 n 2 (msgs (sentL (bs.take k)))) (hf2 : Fr S wr w2) (hg : Gr S S2 wr) :
    O1 bs w n (bs.length - (k + 1)) (.slice A (sentL (bs.take k)).length c) (.int .i64 ((k : Int) + 1)) w2 := by
  have e := sentL_no hk hb
  refine ⟨k + 1, A, c, S2, by omega, rfl, by simp, by rw [e], by rw [e]; exact ha.fr hf2 (fun j hj => (hA j hj).2), by rw [e]; exact hn, hg.up hS hf.size, hf.up hf2 hS, fun j hj => ⟨(hA j hj).1, fun h => ?_⟩⟩
  rcases hg j h with h | h
  · exact (hA j hj).2 h
  · have := ha.lt j hj
    omega

/-- The second loop's relation. -/
def O2 (ss : List (List UInt8)) (w : World) (n : Nat) (A : Option Addr) (c : Nat) (g : Nat) (v50 : Value) (wr : World) : Prop :=
  ∃ (j : Nat) (S : Nat → Prop), j ≤ ss.length ∧ g = ss.length - j ∧ v50 = .int .i64 j ∧ Arr wr 9 1 A ss.length c (strs ss) ∧ NetAt wr S n 2 (msgs (ss.drop j)) ∧ Up w.heap.size S ∧ Fr NoB w wr ∧ (∀ i, InB A i → ¬ S i)

theorem O2.next {ss : List (List UInt8)} {w wr w2 : World} {n : Nat} {A : Option Addr} {c j : Nat} {S S2 : Nat → Prop} (hj : j < ss.length) (ha : Arr wr 9 1 A ss.length c (strs ss)) (hS : Up w.heap.size S) (hf : Fr NoB w wr)
    (hA : ∀ i, InB A i → ¬ S i) (hn : NetAt w2 S2 n 2 ((msgs (ss.drop j)).eraseIdx 0)) (hf2 : Fr S wr w2) (hg : Gr S S2 wr) (o : Obj) : O2 ss w n A c (ss.length - (j + 1)) (.int .i64 ((j : Int) + 1)) (w2.alloc o) := by
  have f2 : Fr NoB w2 (w2.alloc o) := (Fr.refl _ _).alloc o
  refine ⟨j + 1, S2, by omega, rfl, by simp, (ha.fr hf2 hA).fr f2 (fun _ _ h => h), ?_, hg.up hS hf.size, (hf.up hf2 hS).alloc o, fun i hi h => ?_⟩
  · have := hn.fr f2 (fun _ _ h => h)
    rw [List.drop_eq_getElem_cons hj] at this
    simpa [msgs] using this
  · rcases hg i h with h | h
    · exact hA i hi h
    · have := ha.lt i hi
      omega

theorem strs_get {ss : List (List UInt8)} {j : Nat} (hj : j < ss.length) {w : World} {A : Option Addr} {c : Nat} (ha : Arr w 9 1 A ss.length c (strs ss)) :
    ∃ b off, A = some ⟨b, off, none⟩ ∧ w.cell? ⟨b, off + j, none⟩ = some (.string ⟨(ss[j]).toArray⟩) := by
  obtain ⟨b, off, u, e, _, _, hu, hc⟩ := ha.rd.cell_at hj 0 (by omega)
  simp only [Nat.mul_one, Nat.add_zero] at hu hc
  simp only [strs, List.getElem?_map, List.getElem?_eq_getElem hj, Option.map_some, Option.some.injEq] at hu
  subst hu
  exact ⟨b, off, e, hc⟩

theorem order_any (A : Option Addr) (c : Nat) (bs : List (List UInt8)) (w : World) (h : BytesIn w w.heap.size A c bs) (hl : bs.length ≤ 300) :
    Calls Try.prog 4 #[.slice A bs.length c] w fun e w' => e = .returned (.bool true) ∧ Fr NoB w w' := by
  obtain ⟨i9, hi9, hz0, hz1, hz2⟩ := info_parts info9
  have hd : decide (300 < (bs.length : Int)) = false := by simp; omega
  go_enter Try.func4, Try.ntmps4
  go_wp2_with fail
  refine (new_any 2 _).mono ?_
  rintro e w1 (⟨_, _, n, S, hn, rfl, hnet, hS, hfr⟩ | ⟨hno, _⟩)
  rotate_left
  · omega
  go_wp2_with fail
  have HN : Hid (O1 bs w n bs.length (.slice none 0 0) (.int .i64 (0 : Nat)) w1) :=
    ⟨0, none, 0, S, Nat.zero_le _, rfl, rfl, rfl, Arr.none_ _ _ _, hnet, hS, hfr, fun j hj => (InB.none_ j hj).elim⟩
  clear hnet hS hfr
  go_loopg [5, 34] bs.length (fun g v5 v34 wr => O1 bs w n g v5 v34 wr)
  case atStart => exact HN
  case round =>
    obtain ⟨k, A5, c5, S5, hk, rfl, rfl, rfl, harr, hnet, hS, hfr, hA5⟩ := hrel
    by_cases hlt : k < bs.length
    · obtain ⟨b, off, A', c', rfl, hcell, hrd⟩ := (h.fr hfr).at_ hlt
      go_wp2_with fail
      by_cases hb : (bs[k]).length ≤ 65535
      · refine (send_any 1 0 A' c' bs[k] wr hnet hrd).mono ?_
        rw [send_order (by have := sentL_len bs k; simp [msgs]; omega) hb]
        rintro e w2 ⟨S2, rfl, hnet2, hfr2, hgr2⟩
        have hcv := run_conv_rd w2 29 9 5 Try.underlying29 Try.underlying5 Try.underlying9 bs[k] (hrd.fr hfr2 (fun j _ hj hs => by have := hS j hs; omega))
        have harr2 : ∀ o, Arr (w2.alloc o) 9 1 A5 _ c5 (strs (sentL (bs.take k))) := fun o => (harr.fr hfr2 (fun j hj => (hA5 j hj).2)).fr (T := NoB) ((Fr.refl _ _).alloc o) (fun _ _ h => h)
        have hsrc : Rd (w2.alloc (.cells #[.string ⟨(bs[k]).toArray⟩] 9)) (fun _ => True) 1 (some ⟨w2.heap.size, 0, none⟩) 1 1 [.string ⟨(bs[k]).toArray⟩] :=
          (Arr.made (e := 9) (size := 1) w2 #[.string ⟨(bs[k]).toArray⟩] 1 1 (Nat.le_refl _) (by simp [maxLen]) (by simp)).rd.mono (fun _ _ => trivial)
        have hn5 := sentL_len bs k
        go_wp2_with (at_builtin; refine wpList_append_arr _ rfl (.tmp 42) (.tmp 45) 42 rfl 9 i9 _ 1 16 Try.underlying42 hi9 hz0 hz1 hz2 rfl A5 _ c5 _ rfl (harr2 _) (fun _ => True) _ 1 1 _ rfl hsrc (by intro u hu; simp at hu; subst hu; rfl) (by simp only [maxLen]; omega) (by omega) ?_; intro A3 c3 w3 harr3 hfr3 hin3 _)
        go_roundg (bs.length - (k + 1))
        case measure => omega
        case rel => exact O1.yes hlt hb hA5 harr hS hfr hnet2 hfr2 hgr2 harr3 hfr3 hin3
      · refine (send_any 1 0 A' c' bs[k] wr hnet hrd).mono ?_
        rw [send_order_no (by omega)]
        rintro e w2 ⟨S2, rfl, hnet2, hfr2, hgr2⟩
        go_wp2_with fail
        go_roundg (bs.length - (k + 1))
        case measure => omega
        case rel => exact O1.no hlt (by omega) hA5 harr hS hfr hnet2 hfr2 hgr2
    · obtain rfl : k = bs.length := by omega
      go_wp2_with fail
      have HM : Hid (O2 (sentL bs) w n A5 c5 (sentL bs).length (.int .i64 (0 : Nat)) wr) := ⟨0, S5, Nat.zero_le _, rfl, rfl, by simpa using harr, by simpa using hnet, hS, hfr, fun i hi => (hA5 i hi).2⟩
      have hss : (sentL bs).length ≤ 300 := by have := List.length_filter_le okB bs; unfold sentL; omega
      clear harr hnet hS hfr hA5
      simp only [List.take_length]
      generalize sentL bs = ss at *
      go_loopg [50] ss.length (fun g v50 wr => O2 ss w n A5 c5 g v50 wr)
      case atStart => exact HM
      case round =>
        obtain ⟨j, S6, hj, rfl, rfl, harr, hnet, hS, hfr, hA5⟩ := hrel
        by_cases hlt : j < ss.length
        · obtain ⟨b, off, rfl, hcell⟩ := strs_get hlt harr
          have hm : (msgs (ss.drop j))[0]? = some ⟨1, 0, ss[j]⟩ := by rw [List.drop_eq_getElem_cons hlt]; rfl
          have HP := Lib.hid (pick_some 0 ⟨1, 0, ss[j]⟩ wr hnet hm)
          clear hm
          go_wp2_with fail
          refine HP.out.mono ?_
          rintro e w2 ⟨S7, A7, c7, rfl, harr7, hin7, hnet7, hfr7, hgr7⟩
          have f2 : ∀ o, Fr NoB w2 (w2.alloc o) := fun o => (Fr.refl _ _).alloc o
          have hcv : ∀ o, (convert 29 9 (.slice A7 (ss[j]).length c7)).run Try.prog (w2.alloc o) = .ok (.string ⟨(ss[j]).toArray⟩) (w2.alloc o) := fun o => run_conv_rd (w2.alloc o) 29 9 5 Try.underlying29 Try.underlying5 Try.underlying9 _ (harr7.fr (f2 o) (fun _ _ h => h)).rd
          go_wp2_with fail
          go_roundg (ss.length - (j + 1))
          case measure => omega
          case rel => exact O2.next hlt harr hS hfr hA5 hnet7 hfr7 hgr7 _
        · obtain rfl : j = ss.length := by omega
          have hlen := len_net wr hnet
          simp only [List.drop_length] at hlen
          go_wp2_with fail
          refine hlen.mono ?_
          rintro e w2 ⟨rfl, rfl⟩
          have h0 : (((msgs []).length : Nat) : Int) = 0 := rfl
          rw [h0]
          clear h0
          go_wp2_with fail
          refine (speaks_any wr).mono ?_
          rintro e w2 ⟨rfl, hfr2⟩
          go_wp2_with fail
          go_ret
          exact ⟨rfl, hfr.trans hfr2⟩

/-- A longer list: the small case alone is asked. -/
theorem order_long (A : Option Addr) (c len : Nat) (w : World) (hl : 300 < len) : Calls Try.prog 4 #[.slice A len c] w fun e w' => e = .returned (.bool true) ∧ Fr NoB w w' := by
  have hd : decide (300 < (len : Int)) = true := by simp; omega
  go_enter Try.func4, Try.ntmps4
  go_wp2_with fail
  refine (new_any 2 _).mono ?_
  rintro e w1 (⟨_, _, n, S, hn, rfl, hnet, hS, hfr⟩ | ⟨hno, _⟩)
  rotate_left
  · omega
  go_wp2_with fail
  refine (speaks_any w1).mono ?_
  rintro e w2 ⟨rfl, hfr2⟩
  go_wp2_with fail
  go_ret
  exact ⟨rfl, hfr.trans hfr2⟩
end Go.Proofs.Yteaiifhppcibgaa
