/- PoolLog: the walk. -/
import Derived.Test.YtmbabgaanpjmpaaLogL
namespace Go.Proofs.Ytmbabgaanpjmpaa
open Go.RowKit

def LGs (ss : List Step3) (w : World) (p n lb : Nat) (g : Nat) (v7 v35 : Value) (wr : World) : Prop :=
  ∃ (k : Nat) (S : Nat → Prop) (fl ck : Int) (L : List Frm) (m : Int → Int), k ≤ ss.length ∧ g = ss.length - k ∧ v7 = .int .i64 fl ∧ v35 = .int .i64 k ∧ LG w p n lb S fl ck L m k wr


theorem LG_store {w W : World} {p n lb : Nat} {S : Nat → Prop} {fl ck N : Int} {L : List Frm} {m : Int → Int} (hp : PN w p n S fl ck L N W) (ht : Bk W lb 39 (lcells m)) (hn : ¬ S lb) (hlo : w.heap.size ≤ lb) (i : Nat) (v : Int) (hm : Inv (setM m i v) L) :
    LG w p n lb S fl ck L (setM m i v) N (W.setCell ⟨lb, i, none⟩ (.int .i64 v)) := by
  have f2 : Fr (fun j => j = lb) W (W.setCell ⟨lb, i, none⟩ (.int .i64 v)) := Fr.setCell (S := fun j => j = lb) (p := ⟨lb, i, none⟩) (Fr.refl _ W) (.inl rfl) _
  exact ⟨⟨hp.raw.fr f2 (fun k hk e => hn (e ▸ hk)), hp.good, hp.up, hp.fr.join f2 (fun j e hj => by omega)⟩, by rw [← lcells_set]; exact ht.set i _, hm, hn, hlo⟩
theorem LG_same {w W : World} {p n lb : Nat} {S : Nat → Prop} {fl ck N : Int} {L : List Frm} {m : Int → Int} (hp : PN w p n S fl ck L N W) (ht : Bk W lb 39 (lcells m)) (hn : ¬ S lb) (hlo : w.heap.size ≤ lb) (hm : Inv m L) : LG w p n lb S fl ck L m N W := ⟨hp, ht, hm, hn, hlo⟩

set_option maxHeartbeats 16000000 in
set_option maxRecDepth 100000 in
theorem log_law (a : Int) (A : Option Addr) (c : Nat) (ss : List Step3) (w : World) (h : StepsIn w w.heap.size A c ss) :
    Calls Try.prog 4 #[.int .i64 a, .slice A ss.length c] w (LawPost w) := by
  have hsl : ss.length ≤ 9223372036854775807 := by have := h.1.2.1; have := h.1.2.2.1; simp only [maxLen] at this; omega
  go_enter Try.func4, Try.ntmps4
  go_wp2_with fail
  refine (new_any a _).mono ?_
  rintro e w1 (⟨a1, a2, p, S, hp, rfl, R1, up1, fr1⟩ | ⟨hbad, rfl, fr1⟩)
  rotate_left
  · go_wp2_with fail
    refine (speaks_any w1).mono ?_
    rintro e w9 ⟨rfl, fr9⟩
    go_wp2_with fail
    go_ret
    exact ⟨rfl, fr1.trans fr9⟩
  obtain ⟨n, rfl⟩ := Int.eq_ofNat_of_zero_le (by omega : 0 ≤ a)
  rw [Int.toNat_natCast] at R1
  obtain ⟨z, hz, hzc⟩ : ∃ z : Value, (Try.prog.info? 39).map (·.zero) = some (some z) ∧ z.cells = lcells fun _ => 0 := ⟨_, zero39, lcells_zero⟩
  have HZ := Lib.hid hz
  have HZC := Lib.hid hzc
  clear hz hzc
  go_wp2_with (refine wpList_alloc_z rfl 39 z rfl HZ.out ?_; rw [HZC.out])
  have fA : Fr NoB w1 (w1.alloc (.cells (lcells fun _ => 0) 39)) := (Fr.refl _ _).alloc _
  have HN : Hid (LGs ss w p n w1.heap.size ss.length (.int .i64 0) (.int .i64 (0 : Nat)) (w1.alloc (.cells (lcells fun _ => 0) 39))) := Lib.hid
    ⟨0, S, 0, 0, [], fun _ => 0, Nat.zero_le _, rfl, rfl, rfl, ⟨⟨R1.fr fA (fun _ _ h => h), PGood.empty (by omega) (by omega), up1, fr1.trans fA⟩, Bk.new w1 39 _, ⟨fun f hf => by simp at hf, fun i _ => Int.le_refl _⟩, fun hs => by have := R1.lt _ hs; omega, fr1.size⟩⟩
  clear R1 up1 fr1 fA HZ HZC
  generalize hlb : w1.heap.size = lb at *
  clear hlb
  generalize w1.alloc (.cells (lcells fun _ => 0) 39) = w2 at *
  go_loopg [7, 35] ss.length (fun g v7 v35 wr => LGs ss w p n lb g v7 v35 wr)
  case atStart => exact HN.out
  case round =>
    obtain ⟨k, S, fl, ck, L, m, hk, rfl, rfl, rfl, hw⟩ := hrel
    by_cases hlt : k < ss.length
    · obtain ⟨b, off, kd, ka, kb, hsk, rfl, x0, x1, x2, o1, o2, o3⟩ := (h.fr hw.pn.fr).step hlt
      have hW : Fr NoB wr (wr.alloc (.cells #[.int .i64 kd, .int .i64 ka, .int .i64 kb] 29)) := (Fr.refl _ _).alloc _
      have HW := Lib.hid (hw.keep hW)
      have HB := Lib.hid (Bk.new wr 29 #[.int .i64 kd, .int .i64 ka, .int .i64 kb])
      have hnK : Hid (¬ S wr.heap.size) := Lib.hid fun hs => by have := hw.pn.raw.lt _ hs; omega
      have hf0 : decide (fl < 0) = false := decide_eq_false (by have := hw.pn.good.f0; omega)
      clear hw hW hsk
      by_cases hk0 : kd = 0
      · subst hk0
        go_wp2_with fail
        refine (get_step ka HW.out.pn.raw HW.out.pn.good (by omega)).mono ?_
        rintro e w5 ⟨blk, S5, hi, wrt, o, nd, er, fl5, ck5, L5, hgf, rfl, raw5, good5, f5, gr5⟩
        have hlog := get_log HW.out.pn.good HW.out.inv ka blk hgf
        have hT := HW.out.turn raw5 good5 f5 gr5
        have f6 : Fr NoB w5 (w5.alloc (.cells #[.bool hi, .bool wrt, .int .i64 o, .int .i64 nd] 34)) := (Fr.refl _ _).alloc _
        have HT := Lib.hid (And.intro (hT.1.keep f6) (And.intro (hT.2.1.fr f6 (fun h => h)) hT.2.2))
        clear hgf raw5 good5 f5 gr5 hT f6 HW HB hnK x0 x1 x2
        cases wrt with
        | false =>
          obtain ⟨hinv, he5⟩ := hlog.2 rfl
          subst he5
          have HE := Lib.hid (LG_same HT.out.1 HT.out.2.1 HT.out.2.2.1 HT.out.2.2.2 hinv)
          clear hlog hinv HT
          by_cases he : er = 0
          · subst he
            go_wp2_with fail
            go_roundg (ss.length - (k + 1))
            case measure => omega
            case rel => exact ⟨k + 1, S5, _, ck5, L5, _, by omega, rfl, rfl, by go_num, HE.out⟩
          · have he' : (er == 0) = false := by rw [beq_eq_false_iff_ne]; exact he
            go_wp2_with fail
            go_roundg (ss.length - (k + 1))
            case measure => omega
            case rel => exact ⟨k + 1, S5, _, ck5, L5, _, by omega, rfl, rfl, by go_num, HE.out⟩
        | true =>
          obtain ⟨he, h1, h2, h3, hinv, he5⟩ := hlog.1 rfl
          subst he
          obtain ⟨o, rfl⟩ := Int.eq_ofNat_of_zero_le (by omega : 0 ≤ o)
          clear hlog
          have y0 : (w5.alloc (.cells #[.bool hi, .bool true, .int .i64 (o : Int), .int .i64 nd] 34)).cell? ⟨lb, o, none⟩ = some (.int .i64 (m (o : Int))) := by
            have := HT.out.2.1.cell o
            rwa [lcells_get m (by omega)] at this
          have y1 := HT.out.2.1.frozen o
          have i0 : decide ((o : Int) < 0) = false := decide_eq_false (by omega)
          have i1 : decide ((4096 : Int) < (o : Int)) = false := decide_eq_false (by omega)
          have i2 : decide ((0 : Int) < (o : Int)) = true := decide_eq_true (by omega)
          have i3 : (0 : Int) ≤ (o : Int) := by omega
          have i4 : (o : Int) < 4097 := by omega
          have HE := Lib.hid (LG_store HT.out.1 HT.out.2.1 HT.out.2.2.1 HT.out.2.2.2 o 0 hinv)
          clear hinv HT
          by_cases hnd : fl < nd
          · have d1 : decide (fl < nd) = true := decide_eq_true hnd
            rw [if_pos hnd] at he5
            subst he5
            have d2 : decide (fl5 < m (o : Int)) = false := decide_eq_false (by omega)
            go_wp2_with fail
            go_roundg (ss.length - (k + 1))
            case measure => omega
            case rel => exact ⟨k + 1, S5, _, ck5, L5, _, by omega, rfl, rfl, by go_num, HE.out⟩
          · have d1 : decide (fl < nd) = false := decide_eq_false hnd
            rw [if_neg hnd] at he5
            subst he5
            have d2 : decide (fl5 < m (o : Int)) = false := decide_eq_false (by omega)
            go_wp2_with fail
            go_roundg (ss.length - (k + 1))
            case measure => omega
            case rel => exact ⟨k + 1, S5, _, ck5, L5, _, by omega, rfl, rfl, by go_num, HE.out⟩
      have hk0' : (kd == 0) = false := by simp [hk0]
      clear hk0
      by_cases hk1 : kd = 1
      · subst hk1
        go_wp2_with fail
        refine (get_step ka HW.out.pn.raw HW.out.pn.good (by omega)).mono ?_
        rintro e w5 ⟨blk, S5, hi, wrt, o, nd, er, fl5, ck5, L5, hgf, rfl, raw5, good5, f5, gr5⟩
        have hlog := get_log HW.out.pn.good HW.out.inv ka blk hgf
        have hT := HW.out.turn raw5 good5 f5 gr5
        have f6 : Fr NoB w5 (w5.alloc (.cells #[.bool hi, .bool wrt, .int .i64 o, .int .i64 nd] 34)) := (Fr.refl _ _).alloc _
        have HT := Lib.hid (And.intro (hT.1.keep f6) (And.intro (hT.2.1.fr f6 (fun h => h)) hT.2.2))
        clear hgf raw5 good5 f5 gr5 hT f6 HW HB hnK x0 x1 x2
        cases wrt with
        | false =>
          obtain ⟨hinv, he5⟩ := hlog.2 rfl
          subst he5
          have HE := Lib.hid (LG_same HT.out.1 HT.out.2.1 HT.out.2.2.1 HT.out.2.2.2 hinv)
          clear hlog hinv HT
          by_cases he : er = 0
          · subst he
            go_wp2_with fail
            go_roundg (ss.length - (k + 1))
            case measure => omega
            case rel => exact ⟨k + 1, S5, _, ck5, L5, _, by omega, rfl, rfl, by go_num, HE.out⟩
          · have he' : (er == 0) = false := by rw [beq_eq_false_iff_ne]; exact he
            go_wp2_with fail
            go_roundg (ss.length - (k + 1))
            case measure => omega
            case rel => exact ⟨k + 1, S5, _, ck5, L5, _, by omega, rfl, rfl, by go_num, HE.out⟩
        | true =>
          obtain ⟨he, h1, h2, h3, hinv, he5⟩ := hlog.1 rfl
          subst he
          obtain ⟨o, rfl⟩ := Int.eq_ofNat_of_zero_le (by omega : 0 ≤ o)
          clear hlog
          have y0 : (w5.alloc (.cells #[.bool hi, .bool true, .int .i64 (o : Int), .int .i64 nd] 34)).cell? ⟨lb, o, none⟩ = some (.int .i64 (m (o : Int))) := by
            have := HT.out.2.1.cell o
            rwa [lcells_get m (by omega)] at this
          have y1 := HT.out.2.1.frozen o
          have i0 : decide ((o : Int) < 0) = false := decide_eq_false (by omega)
          have i1 : decide ((4096 : Int) < (o : Int)) = false := decide_eq_false (by omega)
          have i2 : decide ((0 : Int) < (o : Int)) = true := decide_eq_true (by omega)
          have i3 : (0 : Int) ≤ (o : Int) := by omega
          have i4 : (o : Int) < 4097 := by omega
          have HE := Lib.hid (LG_store HT.out.1 HT.out.2.1 HT.out.2.2.1 HT.out.2.2.2 o 0 hinv)
          clear hinv HT
          by_cases hnd : fl < nd
          · have d1 : decide (fl < nd) = true := decide_eq_true hnd
            rw [if_pos hnd] at he5
            subst he5
            have d2 : decide (fl5 < m (o : Int)) = false := decide_eq_false (by omega)
            go_wp2_with fail
            go_roundg (ss.length - (k + 1))
            case measure => omega
            case rel => exact ⟨k + 1, S5, _, ck5, L5, _, by omega, rfl, rfl, by go_num, HE.out⟩
          · have d1 : decide (fl < nd) = false := decide_eq_false hnd
            rw [if_neg hnd] at he5
            subst he5
            have d2 : decide (fl5 < m (o : Int)) = false := decide_eq_false (by omega)
            go_wp2_with fail
            go_roundg (ss.length - (k + 1))
            case measure => omega
            case rel => exact ⟨k + 1, S5, _, ck5, L5, _, by omega, rfl, rfl, by go_num, HE.out⟩
      have hk1' : (kd == 1) = false := by simp [hk1]
      clear hk1
      by_cases hk2 : kd = 2
      · subst hk2
        have hu := unpin_any ka HW.out.pn.raw HW.out.pn.good (by omega) o2
        have hgd := unpin_good HW.out.pn.good ka
        have hlg := unpin_log HW.out.pn.good HW.out.inv ka
        obtain ⟨er, L5, hd⟩ : ∃ er L5, unpinF L ka = (er, L5) := ⟨_, _, rfl⟩
        rw [hd] at hu hgd hlg
        clear hd
        go_wp2_with fail
        refine hu.mono ?_
        rintro e w5 ⟨rfl, raw5, f5⟩
        have hT := HW.out.turn raw5 (hgd.mono (by omega : (k : Int) ≤ ((k + 1 : Nat) : Int))) f5 (Gr.refl' _ _)
        have HE := Lib.hid (LG_same hT.1 hT.2.1 hT.2.2.1 hT.2.2.2 hlg)
        clear hu hgd hlg raw5 f5 hT HW HB hnK x0 x1 x2
        go_wp2_with fail
        go_roundg (ss.length - (k + 1))
        case measure => omega
        case rel => exact ⟨k + 1, S, _, ck, L5, _, by omega, rfl, rfl, by go_num, HE.out⟩
      have hk2' : (kd == 2) = false := by simp [hk2]
      clear hk2
      by_cases hk3 : kd = 3
      · subst hk3
        have hu := unpin_any ka HW.out.pn.raw HW.out.pn.good (by omega) o2
        have hgd := unpin_good HW.out.pn.good ka
        have hlg := unpin_log HW.out.pn.good HW.out.inv ka
        obtain ⟨er, L5, hd⟩ : ∃ er L5, unpinF L ka = (er, L5) := ⟨_, _, rfl⟩
        rw [hd] at hu hgd hlg
        clear hd
        go_wp2_with fail
        refine hu.mono ?_
        rintro e w5 ⟨rfl, raw5, f5⟩
        have hT := HW.out.turn raw5 (hgd.mono (by omega : (k : Int) ≤ ((k + 1 : Nat) : Int))) f5 (Gr.refl' _ _)
        have HE := Lib.hid (LG_same hT.1 hT.2.1 hT.2.2.1 hT.2.2.2 hlg)
        clear hu hgd hlg raw5 f5 hT HW HB hnK x0 x1 x2
        go_wp2_with fail
        go_roundg (ss.length - (k + 1))
        case measure => omega
        case rel => exact ⟨k + 1, S, _, ck, L5, _, by omega, rfl, rfl, by go_num, HE.out⟩
      have hk3' : (kd == 3) = false := by simp [hk3]
      clear hk3
      by_cases hk4 : kd = 4
      · subst hk4
        have hB := HB.out.cell 1
        have hB2 := HB.out.cell 2
        simp at hB hB2
        have k1 : (wr.alloc (.cells #[.int .i64 4, .int .i64 ka, .int .i64 kb] 29)).drew.cell? ⟨wr.heap.size, 1, none⟩ = some (.int .i64 ka) := HB.out.cell 1
        have k2 : (wr.alloc (.cells #[.int .i64 4, .int .i64 ka, .int .i64 kb] 29)).drew.cell? ⟨wr.heap.size, 2, none⟩ = some (.int .i64 kb) := HB.out.cell 2
        clear hB hB2
        have hu := dirty_any ka kb (HW.out.pn.raw.fr (Fr.refl NoB _).drew (fun _ _ h => h)) HW.out.pn.good o2
        have hgd := dirty_good HW.out.pn.good ka kb
        have hlg := dirty_log HW.out.pn.good HW.out.inv ka kb
        obtain ⟨er, L5, hd⟩ : ∃ er L5, dirtyF L ka kb = (er, L5) := ⟨_, _, rfl⟩
        rw [hd] at hu hgd hlg
        clear hd
        by_cases he : er = 0
        · subst he
          obtain ⟨h1, h2, h3, h4⟩ := hlg.1 rfl
          obtain ⟨i, rfl⟩ := Int.eq_ofNat_of_zero_le (by omega : 0 ≤ ka)
          have y0 : (wr.alloc (.cells #[.int .i64 4, .int .i64 (i : Int), .int .i64 kb] 29)).drew.cell? ⟨lb, i, none⟩ = some (.int .i64 (m (i : Int))) := by
            have := (HW.out.tb.fr (Fr.refl NoB _).drew (fun h => h)).cell i
            rwa [lcells_get m (by omega)] at this
          have i3 : (0 : Int) ≤ (i : Int) := by omega
          have i4 : (i : Int) < 4097 := by omega
          have H3 := Lib.hid h3
          have H4 := Lib.hid h4
          clear hlg h3 h4
          go_wp2_with fail
          refine wp_region_plan 16 (fun w' => w'.cell? ⟨wr.heap.size, 1, none⟩ = some (.int .i64 (i : Int)) ∧ w'.cell? ⟨wr.heap.size, 2, none⟩ = some (.int .i64 kb) ∧ w'.cell? ⟨lb, i, none⟩ = some (.int .i64 (m (i : Int))))
            [(0, 0), (1, 0), (2, 1), (3, 0), (4, 1), (5, 2), (6, 0), (7, 0), (8, 0), (9, 1), (10, 0), (11, 1), (12, 0), (13, 1), (14, 0), (15, 0)] (by kernel_rfl) (by kernel_rfl) (fun _ _ _ _ _ h => h) ⟨k1, k2, y0⟩ ?_
          refine wpPlan_free _ ?_ rfl (by rfl) (fun w' => ?_) ?_
          rotate_left
          · go_simp; with_reducible rfl
          simp only [Act.put, List.setIfInBounds_toArray, List.set_cons_zero, List.set_cons_succ]
          refine wpPlan_free _ ?_ rfl (by rfl) (fun w' => ?_) ?_
          rotate_left
          · go_simp; with_reducible rfl
          simp only [Act.put, List.setIfInBounds_toArray, List.set_cons_zero, List.set_cons_succ]
          refine wpPlan_held _ ?_ rfl (by rfl) (fun w' hS => ?_) ?_
          rotate_left
          · obtain ⟨e0, e1, e2⟩ := hS; go_simp; with_reducible rfl
          simp only [Act.put, List.setIfInBounds_toArray, List.set_cons_zero, List.set_cons_succ]
          refine wpPlan_free _ ?_ rfl (by rfl) (fun w' => ?_) ?_
          rotate_left
          · go_simp; with_reducible rfl
          simp only [Act.put, List.setIfInBounds_toArray, List.set_cons_zero, List.set_cons_succ]
          refine wpPlan_held _ ?_ rfl (by rfl) (fun w' hS => ?_) ?_
          rotate_left
          · obtain ⟨e0, e1, e2⟩ := hS; go_simp; with_reducible rfl
          simp only [Act.put, List.setIfInBounds_toArray, List.set_cons_zero, List.set_cons_succ]
          refine wpPlan_do _ rfl (fun K hK => ?_)
          go_simp
          refine hu.mono ?_
          rintro e w5 ⟨rfl, raw5, f5⟩
          have hT := HW.out.turn raw5 (hgd.mono (by omega : (k : Int) ≤ ((k + 1 : Nat) : Int))) ((Fr.refl S _).drew.trans f5) (Gr.refl' _ _)
          refine hK _ _ (fun _ => ⟨f5.cell_some k1 hnK.out, f5.cell_some k2 hnK.out, f5.cell_some y0 HW.out.nS⟩) ?_
          clear hK K
          refine wpPlan_free _ ?_ rfl (by rfl) (fun w' => ?_) ?_
          rotate_left
          · go_simp; with_reducible rfl
          simp only [Act.put, List.setIfInBounds_toArray, List.set_cons_zero, List.set_cons_succ]
          refine wpPlan_free _ ?_ rfl (by rfl) (fun w' => ?_) ?_
          rotate_left
          · go_simp; with_reducible rfl
          simp only [Act.put, List.setIfInBounds_toArray, List.set_cons_zero, List.set_cons_succ]
          refine wpPlan_free _ ?_ rfl (by rfl) (fun w' => ?_) ?_
          rotate_left
          · go_simp; with_reducible rfl
          simp only [Act.put, List.setIfInBounds_toArray, List.set_cons_zero, List.set_cons_succ]
          refine wpPlan_held _ ?_ rfl (by rfl) (fun w' hS => ?_) ?_
          rotate_left
          · obtain ⟨e0, e1, e2⟩ := hS; go_simp; with_reducible rfl
          simp only [Act.put, List.setIfInBounds_toArray, List.set_cons_zero, List.set_cons_succ]
          refine wpPlan_free _ ?_ rfl (by rfl) (fun w' => ?_) ?_
          rotate_left
          · go_simp; with_reducible rfl
          simp only [Act.put, List.setIfInBounds_toArray, List.set_cons_zero, List.set_cons_succ]
          refine wpPlan_held _ ?_ rfl (by rfl) (fun w' hS => ?_) ?_
          rotate_left
          · obtain ⟨e0, e1, e2⟩ := hS; go_simp; with_reducible rfl
          simp only [Act.put, List.setIfInBounds_toArray, List.set_cons_zero, List.set_cons_succ]
          refine wpPlan_free _ ?_ rfl (by rfl) (fun w' => ?_) ?_
          rotate_left
          · go_simp; with_reducible rfl
          simp only [Act.put, List.setIfInBounds_toArray, List.set_cons_zero, List.set_cons_succ]
          refine wpPlan_held _ ?_ rfl (by rfl) (fun w' hS => ?_) ?_
          rotate_left
          · obtain ⟨e0, e1, e2⟩ := hS; go_simp; with_reducible rfl
          simp only [Act.put, List.setIfInBounds_toArray, List.set_cons_zero, List.set_cons_succ]
          refine wpPlan_free _ ?_ rfl (by rfl) (fun w' => ?_) ?_
          rotate_left
          · go_simp; with_reducible rfl
          simp only [Act.put, List.setIfInBounds_toArray, List.set_cons_zero, List.set_cons_succ]
          refine wpPlan_free _ ?_ rfl (by rfl) (fun w' => ?_) ?_
          rotate_left
          · go_simp; with_reducible rfl
          simp only [Act.put, List.setIfInBounds_toArray, List.set_cons_zero, List.set_cons_succ]
          refine wpPlan_nil ?_
          have HT := Lib.hid hT
          have z1 := f5.cell_some k1 hnK.out
          have z2 := f5.cell_some k2 hnK.out
          have y1 := HT.out.2.1.frozen i
          have z3 := f5.cell_some y0 HW.out.nS
          clear hu hgd raw5 f5 hT HW HB hnK x0 x1 x2 k1 k2 y0
          by_cases hmk : m (i : Int) < kb
          · have d1 : decide (m (i : Int) < kb) = true := decide_eq_true hmk
            have HE := Lib.hid (LG_store HT.out.1 HT.out.2.1 HT.out.2.2.1 HT.out.2.2.2 i kb (H3.out hmk))
            clear HT
            go_wp2_with fail
            go_roundg (ss.length - (k + 1))
            case measure => omega
            case rel => exact ⟨k + 1, S, _, ck, L5, _, by omega, rfl, rfl, by go_num, HE.out⟩
          · have d1 : decide (m (i : Int) < kb) = false := decide_eq_false hmk
            have HE := Lib.hid (LG_same HT.out.1 HT.out.2.1 HT.out.2.2.1 HT.out.2.2.2 (H4.out (by omega)))
            clear HT
            go_wp2_with fail
            go_roundg (ss.length - (k + 1))
            case measure => omega
            case rel => exact ⟨k + 1, S, _, ck, L5, _, by omega, rfl, rfl, by go_num, HE.out⟩
        · have he' : (er == 0) = false := by rw [beq_eq_false_iff_ne]; exact he
          have H5 := Lib.hid (hlg.2 he)
          clear hlg he
          go_wp2_with fail
          refine wp_region_plan 16 (fun w' => w'.cell? ⟨wr.heap.size, 1, none⟩ = some (.int .i64 ka) ∧ w'.cell? ⟨wr.heap.size, 2, none⟩ = some (.int .i64 kb))
            [(0, 0), (1, 0), (2, 1), (3, 0), (4, 1), (5, 2), (6, 0), (7, 0), (8, 0), (9, 1), (10, 0), (11, 1), (12, 0), (13, 1), (14, 0), (15, 0)] (by kernel_rfl) (by kernel_rfl) (fun _ _ _ _ _ h => h) ⟨k1, k2⟩ ?_
          refine wpPlan_free _ ?_ rfl (by rfl) (fun w' => ?_) ?_
          rotate_left
          · go_simp; with_reducible rfl
          simp only [Act.put, List.setIfInBounds_toArray, List.set_cons_zero, List.set_cons_succ]
          refine wpPlan_free _ ?_ rfl (by rfl) (fun w' => ?_) ?_
          rotate_left
          · go_simp; with_reducible rfl
          simp only [Act.put, List.setIfInBounds_toArray, List.set_cons_zero, List.set_cons_succ]
          refine wpPlan_held _ ?_ rfl (by rfl) (fun w' hS => ?_) ?_
          rotate_left
          · obtain ⟨e0, e1⟩ := hS; go_simp; with_reducible rfl
          simp only [Act.put, List.setIfInBounds_toArray, List.set_cons_zero, List.set_cons_succ]
          refine wpPlan_free _ ?_ rfl (by rfl) (fun w' => ?_) ?_
          rotate_left
          · go_simp; with_reducible rfl
          simp only [Act.put, List.setIfInBounds_toArray, List.set_cons_zero, List.set_cons_succ]
          refine wpPlan_held _ ?_ rfl (by rfl) (fun w' hS => ?_) ?_
          rotate_left
          · obtain ⟨e0, e1⟩ := hS; go_simp; with_reducible rfl
          simp only [Act.put, List.setIfInBounds_toArray, List.set_cons_zero, List.set_cons_succ]
          refine wpPlan_do _ rfl (fun K hK => ?_)
          go_simp
          refine hu.mono ?_
          rintro e w5 ⟨rfl, raw5, f5⟩
          have hT := HW.out.turn raw5 (hgd.mono (by omega : (k : Int) ≤ ((k + 1 : Nat) : Int))) ((Fr.refl S _).drew.trans f5) (Gr.refl' _ _)
          refine hK _ _ (fun _ => ⟨f5.cell_some k1 hnK.out, f5.cell_some k2 hnK.out⟩) ?_
          clear hK K
          refine wpPlan_free _ ?_ rfl (by rfl) (fun w' => ?_) ?_
          rotate_left
          · go_simp; with_reducible rfl
          simp only [Act.put, List.setIfInBounds_toArray, List.set_cons_zero, List.set_cons_succ]
          refine wpPlan_free _ ?_ rfl (by rfl) (fun w' => ?_) ?_
          rotate_left
          · go_simp; with_reducible rfl
          simp only [Act.put, List.setIfInBounds_toArray, List.set_cons_zero, List.set_cons_succ]
          refine wpPlan_skip _ rfl (by rfl) ?_ (by omega)
          simp only [Act.put, List.setIfInBounds_toArray, List.set_cons_zero, List.set_cons_succ]
          refine wpPlan_skip _ rfl (by rfl) ?_ (by omega)
          simp only [Act.put, List.setIfInBounds_toArray, List.set_cons_zero, List.set_cons_succ]
          refine wpPlan_skip _ rfl (by rfl) ?_ (by omega)
          simp only [Act.put, List.setIfInBounds_toArray, List.set_cons_zero, List.set_cons_succ]
          refine wpPlan_skip _ rfl (by rfl) ?_ (by omega)
          simp only [Act.put, List.setIfInBounds_toArray, List.set_cons_zero, List.set_cons_succ]
          refine wpPlan_skip _ rfl (by rfl) ?_ (by omega)
          simp only [Act.put, List.setIfInBounds_toArray, List.set_cons_zero, List.set_cons_succ]
          refine wpPlan_skip _ rfl (by rfl) ?_ (by omega)
          simp only [Act.put, List.setIfInBounds_toArray, List.set_cons_zero, List.set_cons_succ]
          refine wpPlan_skip _ rfl (by rfl) ?_ (by omega)
          simp only [Act.put, List.setIfInBounds_toArray, List.set_cons_zero, List.set_cons_succ]
          refine wpPlan_free _ ?_ rfl (by rfl) (fun w' => ?_) ?_
          rotate_left
          · go_simp; with_reducible rfl
          simp only [Act.put, List.setIfInBounds_toArray, List.set_cons_zero, List.set_cons_succ]
          refine wpPlan_nil ?_
          have HE := Lib.hid (LG_same hT.1 hT.2.1 hT.2.2.1 hT.2.2.2 H5.out)
          clear hu hgd raw5 f5 hT HW HB hnK x0 x1 x2 k1 k2
          go_wp2_with fail
          go_roundg (ss.length - (k + 1))
          case measure => omega
          case rel => exact ⟨k + 1, S, _, ck, L5, _, by omega, rfl, rfl, by go_num, HE.out⟩
      have hk4' : (kd == 4) = false := by simp [hk4]
      clear hk4
      by_cases hk5 : kd = 5
      · subst hk5
        have hu := clean_any ka HW.out.pn.raw HW.out.pn.good o2
        have hgd := clean_good HW.out.pn.good ka
        have hlg := clean_log HW.out.pn.good HW.out.inv ka
        obtain ⟨nd, er, fl5, L5, hd⟩ : ∃ nd er fl5 L5, cleanF fl L ka = (nd, er, fl5, L5) := ⟨_, _, _, _, rfl⟩
        rw [hd] at hu hgd hlg
        clear hd
        simp only [] at hgd hlg
        go_wp2_with fail
        refine hu.mono ?_
        rintro e w5 ⟨rfl, raw5, f5⟩
        have hT := HW.out.turn raw5 (hgd.mono (by omega : (k : Int) ≤ ((k + 1 : Nat) : Int))) f5 (Gr.refl' _ _)
        have HT := Lib.hid hT
        have k1' := (HB.out.fr f5 hnK.out).cell 1
        have k1 : w5.cell? ⟨wr.heap.size, 1, none⟩ = some (.int .i64 ka) := k1'
        clear hu hgd raw5 f5 hT HW HB hnK x0 x1 x2 k1'
        by_cases he : er = 0
        · subst he
          obtain ⟨h1, h2, h3, hinv, he5⟩ := hlg.1 rfl
          obtain ⟨o, rfl⟩ := Int.eq_ofNat_of_zero_le (by omega : 0 ≤ ka)
          clear hlg
          have y0 : (w5).cell? ⟨lb, o, none⟩ = some (.int .i64 (m (o : Int))) := by
            have := HT.out.2.1.cell o
            rwa [lcells_get m (by omega)] at this
          have y1 := HT.out.2.1.frozen o
          have i0 : decide ((o : Int) < 0) = false := decide_eq_false (by omega)
          have i1 : decide ((4096 : Int) < (o : Int)) = false := decide_eq_false (by omega)
          have i2 : decide ((0 : Int) < (o : Int)) = true := decide_eq_true (by omega)
          have i3 : (0 : Int) ≤ (o : Int) := by omega
          have i4 : (o : Int) < 4097 := by omega
          have HE := Lib.hid (LG_store HT.out.1 HT.out.2.1 HT.out.2.2.1 HT.out.2.2.2 o 0 hinv)
          clear hinv HT
          by_cases hnd : fl < nd
          · have d1 : decide (fl < nd) = true := decide_eq_true hnd
            rw [if_pos hnd] at he5
            subst he5
            have d2 : decide (fl5 < m (o : Int)) = false := decide_eq_false (by omega)
            go_wp2_with fail
            go_roundg (ss.length - (k + 1))
            case measure => omega
            case rel => exact ⟨k + 1, S, _, ck, L5, _, by omega, rfl, rfl, by go_num, HE.out⟩
          · have d1 : decide (fl < nd) = false := decide_eq_false hnd
            rw [if_neg hnd] at he5
            subst he5
            have d2 : decide (fl5 < m (o : Int)) = false := decide_eq_false (by omega)
            go_wp2_with fail
            go_roundg (ss.length - (k + 1))
            case measure => omega
            case rel => exact ⟨k + 1, S, _, ck, L5, _, by omega, rfl, rfl, by go_num, HE.out⟩
        · have he' : (er == 0) = false := by rw [beq_eq_false_iff_ne]; exact he
          obtain ⟨hinv, he5⟩ := hlg.2 he
          subst he5
          have HE := Lib.hid (LG_same HT.out.1 HT.out.2.1 HT.out.2.2.1 HT.out.2.2.2 hinv)
          clear hlg hinv HT he k1
          go_wp2_with fail
          go_roundg (ss.length - (k + 1))
          case measure => omega
          case rel => exact ⟨k + 1, S, _, ck, L5, _, by omega, rfl, rfl, by go_num, HE.out⟩
      have hk5' : (kd == 5) = false := by simp [hk5]
      clear hk5
      have hu := flushed_any kb HW.out.pn.raw
      have hgd := flushed_good HW.out.pn.good kb
      have hlg := flushed_log fl kb
      obtain ⟨er, fl5, hd⟩ : ∃ er fl5, flushedF fl kb = (er, fl5) := ⟨_, _, rfl⟩
      rw [hd] at hu hgd hlg
      clear hd
      simp only [] at hgd hlg
      go_wp2_with fail
      refine hu.mono ?_
      rintro e w5 ⟨rfl, raw5, f5⟩
      have hT := HW.out.turn raw5 (hgd.mono (by omega : (k : Int) ≤ ((k + 1 : Nat) : Int))) f5 (Gr.refl' _ _)
      have HE := Lib.hid (LG_same hT.1 hT.2.1 hT.2.2.1 hT.2.2.2 HW.out.inv)
      have hf5 : decide (fl5 < 0) = false := decide_eq_false (by have := hgd.f0; omega)
      have k2' := (HB.out.fr f5 hnK.out).cell 2
      have k2 : w5.cell? ⟨wr.heap.size, 2, none⟩ = some (.int .i64 kb) := k2'
      clear hu hgd raw5 f5 hT HW HB hnK x0 x1 x2 k2'
      by_cases he : er = 0
      · subst he
        have h5 := hlg.1 rfl
        clear hlg
        by_cases hfk : fl < kb
        · have d1 : decide (fl < kb) = true := decide_eq_true hfk
          rw [if_pos hfk] at h5
          subst h5
          go_wp2_with fail
          go_roundg (ss.length - (k + 1))
          case measure => omega
          case rel => exact ⟨k + 1, S, _, ck, L, _, by omega, rfl, rfl, by go_num, HE.out⟩
        · have d1 : decide (fl < kb) = false := decide_eq_false hfk
          rw [if_neg hfk] at h5
          subst h5
          go_wp2_with fail
          go_roundg (ss.length - (k + 1))
          case measure => omega
          case rel => exact ⟨k + 1, S, _, ck, L, _, by omega, rfl, rfl, by go_num, HE.out⟩
      · have he' : (er == 0) = false := by rw [beq_eq_false_iff_ne]; exact he
        have h5 := hlg.2 he
        clear hlg he
        subst h5
        go_wp2_with fail
        go_roundg (ss.length - (k + 1))
        case measure => omega
        case rel => exact ⟨k + 1, S, _, ck, L, _, by omega, rfl, rfl, by go_num, HE.out⟩
    · obtain rfl : k = ss.length := by omega
      have HW := Lib.hid hw.pn.fr
      clear hw
      go_wp2_with fail
      refine (speaks_any wr).mono ?_
      rintro e w9 ⟨rfl, fr9⟩
      go_wp2_with fail
      go_ret
      exact ⟨rfl, HW.out.trans fr9⟩
end Go.Proofs.Ytmbabgaanpjmpaa
