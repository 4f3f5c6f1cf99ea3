/- The document's table: Wait. -/
import Derived.Test.YtjafjhaoogimcaaRefTab
namespace Go.Proofs.Ytjafjhaoogimcaa
open Go.RowKit

/-- Building the new list: the state. -/
structure WL (w : World) (A : Option Addr) (c : Nat) (xs : List (Int × Int)) (wr : World) : Prop where
  arr : Arr wr 62 2 A xs.length c (wcells xs)
  new : ∀ k, InB A k → w.heap.size ≤ k
  fr : Fr NoB w wr
theorem WL.arg {w W : World} {A : Option Addr} {c : Nat} {xs : List (Int × Int)} (h : WL w A c xs W) (a b : Int) (s : Nat) (hs : W.heap.size = s) :
    Arr (W.alloc (.cells #[.int .i64 a, .int .i64 b] 62)) 62 2 A xs.length c (wcells xs) ∧ Rd (W.alloc (.cells #[.int .i64 a, .int .i64 b] 62)) (fun k => k = s) 2 (some ⟨s, 0, none⟩) 1 1 [.int .i64 a, .int .i64 b] := by
  subst hs
  exact ⟨h.arr.fr ((Fr.refl NoB _).alloc _) (fun _ _ h => h), rd_two (Bk.new W 62 #[.int .i64 a, .int .i64 b])⟩
theorem WL.put {w W w2 : World} {A A' : Option Addr} {c c' : Nat} {xs : List (Int × Int)} {a b : Int} {o : Obj} (h : WL w A c xs W) (ha : Arr w2 62 2 A' (xs.length + 1) c' (wcells xs ++ [.int .i64 a, .int .i64 b])) (hf : Fr (InB A) (W.alloc o) w2) (hin : ∀ k, InB A' k → InB A k ∨ (W.alloc o).heap.size ≤ k) :
    WL w A' c' (xs ++ [(a, b)]) w2 := by
  have hz := h.fr.size
  refine ⟨?_, fun k hk => ?_, (h.fr.alloc o).join hf (fun j hj hb => by have := h.new j hb; omega)⟩
  · rw [List.length_append, ← wcells_snoc]
    exact ha
  · rcases hin k hk with h' | h'
    · exact h.new k h'
    · simp at h'
      omega
theorem WL.keep {w W w2 : World} {A : Option Addr} {c : Nat} {xs : List (Int × Int)} (h : WL w A c xs W) (hf : Fr NoB W w2) : WL w A c xs w2 := ⟨h.arr.fr hf (fun _ _ h => h), h.new, h.fr.trans hf⟩

theorem ins_skip {p y : Int × Int} (h : ¬ ltp p y) (r : List (Int × Int)) : insF p (y :: r) = y :: insF p r := by
  show (if ltp p y then _ else _) = _
  rw [if_neg h]
theorem ins_here {p y : Int × Int} (h : ltp p y) (r : List (Int × Int)) : insF p (y :: r) = p :: y :: r := by
  show (if ltp p y then _ else _) = _
  rw [if_pos h]

def WS (w : World) (q : List (Int × Int)) (p : Int × Int) (n : Nat) (v7 v8 v40 : Value) (wr : World) : Prop :=
  ∃ (j : Nat) (A : Option Addr) (c : Nat) (xs : List (Int × Int)) (put : Bool), j ≤ q.length ∧ n = q.length - j ∧ v7 = .slice A xs.length c ∧ v8 = .bool put ∧ v40 = .int .i64 j ∧ WL w A c xs wr ∧ xs.length ≤ j + put.toNat ∧
    ∀ rest, insF p (q.take j ++ rest) = if put = true then xs ++ rest else xs ++ insF p rest

def RefWaitPost (T : Nat → Prop) (p : Nat) (dn : List Int) (r : Int × List (Int × Int)) (w : World) (e : Ending) (w' : World) : Prop := ∃ T', e = .returned (.int .i64 r.1) ∧ RTab w' T' p r.2 dn ∧ Fr T w w' ∧ Gr T T' w
theorem refWait_same {T : Nat → Prop} {p : Nat} {q : List (Int × Int)} {dn : List Int} {x : Int} {w w' : World} (h : RTab w T p q dn) (hf : Fr NoB w w') : RefWaitPost T p dn (x, q) w (.returned (.int .i64 x)) w' :=
  ⟨T, rfl, h.fr hf (fun _ _ h => h), hf.mono (fun _ _ h => h.elim), fun _ hk => .inl hk⟩
theorem refWait_from {T : Nat → Prop} {p : Nat} {dn : List Int} {r : Int × List (Int × Int)} {w w1 w' : World} {e : Ending} (hf : Fr NoB w w1) (h : RefWaitPost T p dn r w1 e w') : RefWaitPost T p dn r w e w' := by
  obtain ⟨T', he, ht, h1, h2⟩ := h
  refine ⟨T', he, ht, (hf.mono (fun _ _ h => h.elim)).trans h1, fun k hk => ?_⟩
  rcases h2 k hk with h' | h'
  · exact .inl h'
  · exact .inr (Nat.le_trans hf.size h')
/-- The list is laid down. -/
theorem refWait_done {T : Nat → Prop} {p : Nat} {q xs : List (Int × Int)} {dn : List Int} {w W : World} {A : Option Addr} {c : Nat} (h : RTab w T p q dn) (hw : WL w A c xs W) :
    RefWaitPost T p dn (0, xs) w (.returned (.int .i64 0)) (W.setCell ⟨p, 0, none⟩ (.slice A xs.length c)) := by
  obtain ⟨⟨A0, c0, B, d, hb, ha, hd, h1, h2⟩, ho, hlt⟩ := h
  have f2 : Fr (fun j => j = p) W (W.setCell ⟨p, 0, none⟩ (.slice A xs.length c)) := Fr.setCell (S := fun j => j = p) (p := ⟨p, 0, none⟩) (Fr.refl _ W) (.inl rfl) _
  have hpl := hb.lt
  have hz := hw.fr.size
  have npB : ∀ k, InB B k → ¬ k = p := fun k hk e => by
    subst e
    obtain ⟨cur, hc⟩ := hd.blk hk
    exact hb.types hc (by decide) rfl
  have b2 := (hb.fr hw.fr (fun h => h)).set 0 (.slice A xs.length c)
  refine ⟨fun k => T k ∨ InB A k, rfl, ⟨⟨A, c, B, d, b2, hw.arr.fr f2 (fun k hk e => by have := hw.new k hk; omega), (hd.fr hw.fr (fun _ _ h => h)).fr f2 npB, fun k hk => .inr hk, fun k hk => .inl (h2 k hk)⟩, .inl ho, fun k hk => ?_⟩, ?_, fun k hk => ?_⟩
  · rcases hk with hk | hk
    · have := hlt k hk; simp; omega
    · have := hw.arr.lt k hk; simpa using this
  · exact (hw.fr.mono (fun _ _ h => h.elim)).trans (f2.mono (fun j _ e => by subst e; exact ho))
  · rcases hk with hk | hk
    · exact .inl hk
    · exact .inr (hw.new k hk)

set_option maxHeartbeats 4000000 in
theorem refWait_any {T : Nat → Prop} {p : Nat} {q : List (Int × Int)} {dn : List Int} (req lsn : Int) (w : World) (h : RTab w T p q dn) (hfew : q.length ≤ 1024) :
    Calls Try.prog 14 #[.pointer (some ⟨p, 0, none⟩), .int .i64 req, .int .i64 lsn] w (RefWaitPost T p dn (waitF q dn req lsn) w) := by
  obtain ⟨i0, hi0, hz0, hz1, hz2⟩ := info_parts info62
  have H := Lib.hid h
  unfold waitF
  by_cases h1 : req < 1
  · rw [if_neg (by omega)]
    clear h
    go_enter Try.func14, Try.ntmps14
    go_wp2_with fail
    go_ret
    exact refWait_same H.out (Fr.refl _ _)
  by_cases h2 : 1099511627776 < req
  · rw [if_neg (by omega)]
    clear h
    go_enter Try.func14, Try.ntmps14
    go_wp2_with fail
    go_ret
    exact refWait_same H.out (Fr.refl _ _)
  by_cases h3 : lsn < 1
  · rw [if_neg (by omega)]
    clear h
    go_enter Try.func14, Try.ntmps14
    go_wp2_with fail
    go_ret
    exact refWait_same H.out (Fr.refl _ _)
  by_cases h4 : 1099511627776 < lsn
  · rw [if_neg (by omega)]
    clear h
    go_enter Try.func14, Try.ntmps14
    go_wp2_with fail
    go_ret
    exact refWait_same H.out (Fr.refl _ _)
  rw [if_pos (by omega)]
  have hs := refState_any req w h
  by_cases h0 : stateF q dn req = 0
  rotate_left
  · rw [if_neg h0]
    have hb : (stateF q dn req != 0) = true := by simpa using h0
    clear h
    generalize stateF q dn req = s at *
    go_enter Try.func14, Try.ntmps14
    go_wp2_with fail
    refine hs.mono ?_
    rintro e w' ⟨rfl, hf⟩
    go_wp2_with fail
    go_ret
    exact refWait_same H.out hf
  rw [if_pos h0]
  rw [h0] at hs
  clear h h0
  by_cases h5 : q.length = 1024
  · rw [if_pos h5]
    have d5 : decide ((1024 : Int) ≤ (q.length : Int)) = true := decide_eq_true (by omega)
    clear h5
    go_enter Try.func14, Try.ntmps14
    go_wp2_with fail
    refine hs.mono ?_
    rintro e w1 ⟨rfl, hf1⟩
    obtain ⟨⟨A, c, B, d, hb, ha, hd, j1, j2⟩, ho, hlt⟩ := H.out.fr hf1 (fun _ _ h => h)
    have c0 : w1.cell? ⟨p, 0, none⟩ = some (.slice A q.length c) := hb.cell 0
    clear hb ha hd
    go_wp2_with fail
    go_ret
    exact refWait_same H.out hf1
  rw [if_neg h5]
  have d5 : decide ((1024 : Int) ≤ (q.length : Int)) = false := decide_eq_false (by omega)
  go_enter Try.func14, Try.ntmps14
  go_wp2_with fail
  refine hs.mono ?_
  rintro e w1 ⟨rfl, hf1⟩
  have H1 := Lib.hid (H.out.fr hf1 (fun _ _ h => h))
  have HF1 := Lib.hid hf1
  clear hf1
  obtain ⟨⟨A, c, B, d, hb, ha, hd, j1, j2⟩, ho, hlt⟩ := H1.out
  have c0 : w1.cell? ⟨p, 0, none⟩ = some (.slice A q.length c) := hb.cell 0
  have HA := Lib.hid ha
  have hpl := hb.lt
  have HB0 := Lib.hid hb
  clear hb ha hd
  go_wp2_with fail
  go_loopg [7, 8, 40] q.length (fun n v7 v8 v40 wr => WS w1 q (req, lsn) n v7 v8 v40 wr)
  case atStart => exact ⟨0, none, 0, [], false, Nat.zero_le _, rfl, rfl, rfl, rfl, ⟨Arr.none_ _ _ _, fun k hk => (InB.none_ k hk).elim, Fr.refl _ _⟩, by simp, fun rest => by simp⟩
  case round =>
    obtain ⟨j, A1, c1, xs, put, hj, rfl, rfl, rfl, rfl, hWL, hxl, hins⟩ := hrel
    by_cases hjl : j < q.length
    · obtain ⟨b, off, hA, hbl, y1, y2⟩ := wcell_at (HA.out.fr hWL.fr (fun _ _ h => h)).rd hjl
      have HINS := Lib.hid hins
      have htk : ∀ rest, q.take (j + 1) ++ rest = q.take j ++ (q[j] :: rest) := fun rest => by rw [List.take_succ_eq_append_getElem hjl, List.append_assoc]; rfl
      obtain ⟨⟨ya, yb⟩, hy⟩ : ∃ y, y = q[j] := ⟨_, rfl⟩
      rw [← hy] at y1 y2 htk
      simp only [] at y1 y2
      have HTK := Lib.hid htk
      clear htk hins hy
      have HBX := Lib.hid (Bk.new wr 62 #[.int .i64 ya, .int .i64 yb])
      have hnb : Hid (¬ InB A1 wr.heap.size) := Lib.hid (fun hk => by have := hWL.arr.lt _ hk; omega)
      have HWL := Lib.hid (hWL.keep ((Fr.refl NoB _).alloc (.cells #[.int .i64 ya, .int .i64 yb] 62)))
      clear hWL
      subst hA
      cases put with
      | true =>
        simp only [Bool.toNat_true] at hxl
        have HG := Lib.hid (HWL.out.arg ya yb (wr.heap.size + 1) (by simp))
        go_wp2_with (at_builtin; refine wpList_append_arr _ rfl _ _ 36 rfl 62 i0 _ 2 16 Try.underlying36 hi0 hz0 hz1 hz2 rfl A1 xs.length c1 (wcells xs) rfl HG.out.1 _ (some ⟨_, 0, none⟩) 1 1 [.int .i64 ya, .int .i64 yb] rfl HG.out.2 (by intro u hu; simp at hu; rcases hu with rfl | rfl <;> rfl) (by simp only [maxLen]; omega) (by omega) ?_; intro A2 c2 w2 ha2 hf2 hin2 _)
        have HP := Lib.hid (HWL.out.put ha2 hf2 hin2)
        clear ha2 hf2 hin2
        go_wp2_with fail
        go_roundg (q.length - (j + 1))
        case measure => omega
        case rel => exact ⟨j + 1, A2, c2, xs ++ [(ya, yb)], true, by omega, rfl, by rw [List.length_append]; rfl, rfl, by go_num, HP.out, by rw [List.length_append]; simp; omega, fun rest => by rw [HTK.out, HINS.out]; simp⟩
      | false =>
        simp only [Bool.toNat_false] at hxl
        by_cases g1 : lsn < yb
        · have HL : Hid (ltp (req, lsn) (ya, yb)) := Lib.hid (by unfold ltp; simp only []; omega)
          have q1 : decide (lsn < yb) = true := decide_eq_true g1
          have HG := Lib.hid (HWL.out.arg req lsn (wr.heap.size + 1) (by simp))
          go_wp2_with (at_builtin; refine wpList_append_arr _ rfl _ _ 36 rfl 62 i0 _ 2 16 Try.underlying36 hi0 hz0 hz1 hz2 rfl A1 xs.length c1 (wcells xs) rfl HG.out.1 _ (some ⟨_, 0, none⟩) 1 1 [.int .i64 req, .int .i64 lsn] rfl HG.out.2 (by intro u hu; simp at hu; rcases hu with rfl | rfl <;> rfl) (by simp only [maxLen]; omega) (by omega) ?_; intro A2 c2 w2 ha2 hf2 hin2 _; have HP := Lib.hid (HWL.out.put ha2 hf2 hin2); have hb2 := (HBX.out.fr ((Fr.refl NoB _).alloc (.cells #[.int .i64 req, .int .i64 lsn] 62)) (fun h => h)).fr hf2 hnb.out; have b0 : w2.cell? ⟨wr.heap.size, 0, none⟩ = some (.int .i64 ya) := hb2.cell 0; have b1 : w2.cell? ⟨wr.heap.size, 1, none⟩ = some (.int .i64 yb) := hb2.cell 1; have HG2 := HP.out.arg ya yb _ rfl; rw [show (xs ++ [(req, lsn)]).length = xs.length + 1 by simp] at HG2; replace HG2 := Lib.hid HG2; clear ha2 hf2 hin2 hb2; go_wp2_with (at_builtin; refine wpList_append_arr _ rfl _ _ 36 rfl 62 i0 _ 2 16 Try.underlying36 hi0 hz0 hz1 hz2 rfl A2 (xs.length + 1) c2 (wcells (xs ++ [(req, lsn)])) rfl HG2.out.1 _ (some ⟨_, 0, none⟩) 1 1 [.int .i64 ya, .int .i64 yb] rfl HG2.out.2 (by intro u hu; simp at hu; rcases hu with rfl | rfl <;> rfl) (by simp only [maxLen]; omega) (by omega) ?_; intro A3 c3 w3 ha3 hf3 hin3 _))
          have ha3' := ha3
          rw [show xs.length + 1 = (xs ++ [(req, lsn)]).length by simp] at ha3'
          have HP3 := Lib.hid (HP.out.put ha3' hf3 hin3)
          clear ha3 ha3' hf3 hin3
          go_wp2_with fail
          go_roundg (q.length - (j + 1))
          case measure => omega
          case rel => exact ⟨j + 1, A3, c3, xs ++ [(req, lsn)] ++ [(ya, yb)], true, by omega, rfl, by simp, rfl, by go_num, HP3.out, by simp; omega, fun rest => by rw [HTK.out, HINS.out, if_neg (by decide), if_pos rfl, ins_here HL.out]; simp⟩
        · have q1 : decide (lsn < yb) = false := decide_eq_false g1
          by_cases g2 : yb = lsn
          · have q2 : (yb == lsn) = true := by simpa using g2
            by_cases g3 : req < ya
            · have HL : Hid (ltp (req, lsn) (ya, yb)) := Lib.hid (by unfold ltp; simp only []; omega)
              have q3 : decide (req < ya) = true := decide_eq_true g3
              clear g2
              have HG := Lib.hid (HWL.out.arg req lsn (wr.heap.size + 1) (by simp))
              go_wp2_with (at_builtin; refine wpList_append_arr _ rfl _ _ 36 rfl 62 i0 _ 2 16 Try.underlying36 hi0 hz0 hz1 hz2 rfl A1 xs.length c1 (wcells xs) rfl HG.out.1 _ (some ⟨_, 0, none⟩) 1 1 [.int .i64 req, .int .i64 lsn] rfl HG.out.2 (by intro u hu; simp at hu; rcases hu with rfl | rfl <;> rfl) (by simp only [maxLen]; omega) (by omega) ?_; intro A2 c2 w2 ha2 hf2 hin2 _; have HP := Lib.hid (HWL.out.put ha2 hf2 hin2); have hb2 := (HBX.out.fr ((Fr.refl NoB _).alloc (.cells #[.int .i64 req, .int .i64 lsn] 62)) (fun h => h)).fr hf2 hnb.out; have b0 : w2.cell? ⟨wr.heap.size, 0, none⟩ = some (.int .i64 ya) := hb2.cell 0; have b1 : w2.cell? ⟨wr.heap.size, 1, none⟩ = some (.int .i64 yb) := hb2.cell 1; have HG2 := HP.out.arg ya yb _ rfl; rw [show (xs ++ [(req, lsn)]).length = xs.length + 1 by simp] at HG2; replace HG2 := Lib.hid HG2; clear ha2 hf2 hin2 hb2; go_wp2_with (at_builtin; refine wpList_append_arr _ rfl _ _ 36 rfl 62 i0 _ 2 16 Try.underlying36 hi0 hz0 hz1 hz2 rfl A2 (xs.length + 1) c2 (wcells (xs ++ [(req, lsn)])) rfl HG2.out.1 _ (some ⟨_, 0, none⟩) 1 1 [.int .i64 ya, .int .i64 yb] rfl HG2.out.2 (by intro u hu; simp at hu; rcases hu with rfl | rfl <;> rfl) (by simp only [maxLen]; omega) (by omega) ?_; intro A3 c3 w3 ha3 hf3 hin3 _))
              have ha3' := ha3
              rw [show xs.length + 1 = (xs ++ [(req, lsn)]).length by simp] at ha3'
              have HP3 := Lib.hid (HP.out.put ha3' hf3 hin3)
              clear ha3 ha3' hf3 hin3
              go_wp2_with fail
              go_roundg (q.length - (j + 1))
              case measure => omega
              case rel => exact ⟨j + 1, A3, c3, xs ++ [(req, lsn)] ++ [(ya, yb)], true, by omega, rfl, by simp, rfl, by go_num, HP3.out, by simp; omega, fun rest => by rw [HTK.out, HINS.out, if_neg (by decide), if_pos rfl, ins_here HL.out]; simp⟩
            · have HL : Hid (¬ ltp (req, lsn) (ya, yb)) := Lib.hid (by unfold ltp; simp only []; omega)
              have q3 : decide (req < ya) = false := decide_eq_false g3
              clear g2
              have HG := Lib.hid (HWL.out.arg ya yb (wr.heap.size + 1) (by simp))
              go_wp2_with (at_builtin; refine wpList_append_arr _ rfl _ _ 36 rfl 62 i0 _ 2 16 Try.underlying36 hi0 hz0 hz1 hz2 rfl A1 xs.length c1 (wcells xs) rfl HG.out.1 _ (some ⟨_, 0, none⟩) 1 1 [.int .i64 ya, .int .i64 yb] rfl HG.out.2 (by intro u hu; simp at hu; rcases hu with rfl | rfl <;> rfl) (by simp only [maxLen]; omega) (by omega) ?_; intro A2 c2 w2 ha2 hf2 hin2 _)
              have HP := Lib.hid (HWL.out.put ha2 hf2 hin2)
              clear ha2 hf2 hin2
              go_wp2_with fail
              go_roundg (q.length - (j + 1))
              case measure => omega
              case rel => exact ⟨j + 1, A2, c2, xs ++ [(ya, yb)], false, by omega, rfl, by rw [List.length_append]; rfl, rfl, by go_num, HP.out, by rw [List.length_append]; simp; omega, fun rest => by rw [HTK.out, HINS.out, if_neg (by decide), if_neg (by decide), ins_skip HL.out]; simp⟩
          · have HL : Hid (¬ ltp (req, lsn) (ya, yb)) := Lib.hid (by unfold ltp; simp only []; omega)
            have q2 : (yb == lsn) = false := by simpa using g2
            have HG := Lib.hid (HWL.out.arg ya yb (wr.heap.size + 1) (by simp))
            go_wp2_with (at_builtin; refine wpList_append_arr _ rfl _ _ 36 rfl 62 i0 _ 2 16 Try.underlying36 hi0 hz0 hz1 hz2 rfl A1 xs.length c1 (wcells xs) rfl HG.out.1 _ (some ⟨_, 0, none⟩) 1 1 [.int .i64 ya, .int .i64 yb] rfl HG.out.2 (by intro u hu; simp at hu; rcases hu with rfl | rfl <;> rfl) (by simp only [maxLen]; omega) (by omega) ?_; intro A2 c2 w2 ha2 hf2 hin2 _)
            have HP := Lib.hid (HWL.out.put ha2 hf2 hin2)
            clear ha2 hf2 hin2
            go_wp2_with fail
            go_roundg (q.length - (j + 1))
            case measure => omega
            case rel => exact ⟨j + 1, A2, c2, xs ++ [(ya, yb)], false, by omega, rfl, by rw [List.length_append]; rfl, rfl, by go_num, HP.out, by rw [List.length_append]; simp; omega, fun rest => by rw [HTK.out, HINS.out, if_neg (by decide), if_neg (by decide), ins_skip HL.out]; simp⟩
    · obtain rfl : j = q.length := by omega
      have hfin := hins []
      rw [List.take_length, List.append_nil] at hfin
      cases put with
      | true =>
        simp only [Bool.toNat_true] at hxl
        rw [if_pos rfl, List.append_nil] at hfin
        have HFIN := Lib.hid hfin
        have HWL := Lib.hid hWL
        have f0 : wr.frozen? ⟨p, 0, none⟩ = false := (HB0.out.fr hWL.fr (fun h => h)).frozen 0
        have f1 : wr.cell? ⟨p, 0, none⟩ = some (.slice A q.length c) := (HB0.out.fr hWL.fr (fun h => h)).cell 0
        clear hfin hWL hins
        go_wp2_with fail
        go_ret
        rw [HFIN.out]
        exact refWait_from HF1.out (refWait_done H1.out HWL.out)
      | false =>
        simp only [Bool.toNat_false] at hxl
        rw [if_neg (by decide)] at hfin
        have HFIN : Hid (insF (req, lsn) q = xs ++ [(req, lsn)]) := Lib.hid hfin
        have HWL := Lib.hid hWL
        have HG := Lib.hid (hWL.arg req lsn _ rfl)
        clear hfin hWL hins
        go_wp2_with (at_builtin; refine wpList_append_arr _ rfl _ _ 36 rfl 62 i0 _ 2 16 Try.underlying36 hi0 hz0 hz1 hz2 rfl A1 xs.length c1 (wcells xs) rfl HG.out.1 _ (some ⟨_, 0, none⟩) 1 1 [.int .i64 req, .int .i64 lsn] rfl HG.out.2 (by intro u hu; simp at hu; rcases hu with rfl | rfl <;> rfl) (by simp only [maxLen]; omega) (by omega) ?_; intro A2 c2 w2 ha2 hf2 hin2 _; have HP := Lib.hid (HWL.out.put ha2 hf2 hin2); have f0 : w2.frozen? ⟨p, 0, none⟩ = false := (HB0.out.fr HP.out.fr (fun h => h)).frozen 0; have f1 : w2.cell? ⟨p, 0, none⟩ = some (.slice A q.length c) := (HB0.out.fr HP.out.fr (fun h => h)).cell 0; clear ha2 hf2 hin2)
        go_ret
        rw [HFIN.out]
        have := refWait_done H1.out HP.out
        rw [show (xs ++ [(req, lsn)]).length = xs.length + 1 by simp] at this
        exact refWait_from HF1.out this
end Go.Proofs.Ytjafjhaoogimcaa
