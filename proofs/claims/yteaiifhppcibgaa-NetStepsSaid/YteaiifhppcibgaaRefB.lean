/- The document's net: contracts of latticeref04's Copy and Pick. -/
import Derived.Test.YteaiifhppcibgaaRef
namespace Go.Proofs.Yteaiifhppcibgaa
open Go.RowKit

theorem refCopy_any {T : Nat → Prop} {p : Nat} {nodes : Int} {L : List Msg} (i : Int) (w : World) (h : RefAt w T p nodes L) :
    Calls Try.prog 18 #[.pointer (some ⟨p, 0, none⟩), .int .i64 i] w (RefPost T p nodes (copyF L i) w) := by
  obtain ⟨i0, hi, hz0, hz1, hz2⟩ := info_parts info34
  have H := Lib.hid h
  have hfew := h.few
  obtain ⟨⟨A, c, hbk, harr, hA⟩, hT, hlt, _⟩ := h
  have c1 : w.cell? ⟨p, 1, none⟩ = some (.slice A L.length c) := hbk.cell 1
  have z1 := hbk.frozen 1
  have hpl := hbk.lt
  have HB := Lib.hid hbk
  unfold copyF
  clear hbk
  by_cases h1 : i < 0
  · rw [if_neg (by omega)]
    go_enter Try.func18, Try.ntmps18
    go_wp2
    go_ret
    exact refPost_same H.out (Fr.refl _ _)
  by_cases h2 : (L.length : Int) ≤ i
  · rw [if_neg (by omega)]
    go_enter Try.func18, Try.ntmps18
    go_wp2
    go_ret
    exact refPost_same H.out (Fr.refl _ _)
  rw [if_pos (by omega)]
  obtain ⟨k, rfl⟩ := Int.eq_ofNat_of_zero_le (by omega : 0 ≤ i)
  have hk : k < L.length := by omega
  have h1' : decide ((k : Int) < 0) = false := by simp
  have h2' : decide (L.length ≤ k) = false := by simp; omega
  by_cases h6 : L.length = 1024
  · have h6' : decide (1024 ≤ (L.length : Int)) = true := by simp; omega
    rw [if_pos h6]
    clear h6
    go_enter Try.func18, Try.ntmps18
    go_wp2
    go_ret
    exact refPost_same H.out (Fr.refl _ _)
  have h6' : decide (1024 ≤ (L.length : Int)) = false := by simp; omega
  rw [if_neg h6]
  obtain ⟨g, f, t, l, hm, rfl, m0, m1, m2⟩ := sentV_get harr hk
  rw [Int.toNat_natCast, hm]
  go_enter Try.func18, Try.ntmps18
  go_wp2_with fail
  have gW := (Fr.refl NoB w).alloc (.cells #[.int .i64 f, .int .i64 t, .string ⟨l.toArray⟩] 34)
  have bW := Bk.new w 34 #[.int .i64 f, .int .i64 t, .string ⟨l.toArray⟩]
  generalize hW : w.alloc (.cells #[.int .i64 f, .int .i64 t, .string ⟨l.toArray⟩] 34) = W at *
  have hWz : W.heap.size = w.heap.size + 1 := by rw [← hW]; simp
  clear hW
  replace hWz := Lib.hid hWz
  generalize hX : w.heap.size = x at *
  have d1 := gW.cell_some c1 (fun h => h)
  have b0 : W.cell? ⟨x, 0, none⟩ = some (.int .i64 f) := bW.cell 0
  have b1 : W.cell? ⟨x, 1, none⟩ = some (.int .i64 t) := bW.cell 1
  have b2 : W.cell? ⟨x, 2, none⟩ = some (.string ⟨l.toArray⟩) := bW.cell 2
  refine wp_region_plan 10 (fun w' => w'.cell? ⟨p, 1, none⟩ = some (.slice (some ⟨g, 0, none⟩) L.length c) ∧ w'.cell? ⟨x, 0, none⟩ = some (.int .i64 f) ∧ w'.cell? ⟨x, 1, none⟩ = some (.int .i64 t) ∧ w'.cell? ⟨x, 2, none⟩ = some (.string ⟨l.toArray⟩))
    [(0, 0), (1, 0), (2, 0), (3, 0), (4, 1), (5, 1), (6, 2), (7, 2), (8, 0), (9, 0), (10, 2)] (by kernel_rfl) (by kernel_rfl) (fun _ _ _ _ _ h => h) ⟨d1, b0, b1, b2⟩ ?_
  refine wpPlan_free _ ?_ rfl (by rfl) (fun w' => ?_) ?_
  rotate_left
  · go_simp; with_reducible rfl
  simp only [Act.put, List.setIfInBounds_toArray, List.set_cons_zero, List.set_cons_succ]
  refine wpPlan_free _ ?_ rfl (by rfl) (fun w' => ?_) ?_
  rotate_left
  · go_simp; with_reducible rfl
  simp only [Act.put, List.setIfInBounds_toArray, List.set_cons_zero, List.set_cons_succ]
  refine wpPlan_free _ ?_ rfl (by rfl) (fun w' => ?_) ?_
  rotate_left
  · go_simp; with_reducible rfl
  simp only [Act.put, List.setIfInBounds_toArray, List.set_cons_zero, List.set_cons_succ]
  refine wpPlan_free _ ?_ rfl (by rfl) (fun w' => ?_) ?_
  rotate_left
  · go_simp; with_reducible rfl
  simp only [Act.put, List.setIfInBounds_toArray, List.set_cons_zero, List.set_cons_succ]
  refine wpPlan_held _ ?_ rfl (by rfl) (fun w' hS => ?_) ?_
  rotate_left
  · obtain ⟨e0, e1, e2, e3⟩ := hS; go_simp; with_reducible rfl
  simp only [Act.put, List.setIfInBounds_toArray, List.set_cons_zero, List.set_cons_succ]
  refine wpPlan_held _ ?_ rfl (by rfl) (fun w' hS => ?_) ?_
  rotate_left
  · obtain ⟨e0, e1, e2, e3⟩ := hS; go_simp; with_reducible rfl
  simp only [Act.put, List.setIfInBounds_toArray, List.set_cons_zero, List.set_cons_succ]
  refine wpPlan_do _ rfl (fun K hK => ?_)
  go_simp
  have g0 := (Fr.refl NoB W.drew).alloc (.cells #[.int .i64 f, .int .i64 t, .string ⟨l.toArray⟩] 34)
  refine hK _ _ (fun _ => ⟨g0.cell_some d1 (fun h => h), g0.cell_some b0 (fun h => h), g0.cell_some b1 (fun h => h), g0.cell_some b2 (fun h => h)⟩) ?_
  clear hK K
  have gA : Fr NoB w (W.drew.alloc (.cells #[.int .i64 f, .int .i64 t, .string ⟨l.toArray⟩] 34)) := gW.drew.trans g0
  have harr2 := harr.fr gA (fun _ _ h => h)
  have hsrc : Rd (W.drew.alloc (.cells #[.int .i64 f, .int .i64 t, .string ⟨l.toArray⟩] 34)) (fun _ => True) 3 (some ⟨W.drew.heap.size, 0, none⟩) 1 1 [.int .i64 f, .int .i64 t, .string ⟨l.toArray⟩] :=
    (Arr.made (e := 34) (size := 3) W.drew #[.int .i64 f, .int .i64 t, .string ⟨l.toArray⟩] 1 1 (Nat.le_refl _) (by simp [maxLen]) (by simp)).rd.mono (fun _ _ => trivial)
  refine wpPlan_do _ rfl (fun K hK => ?_)
  refine step_append_arr _ rfl (.tmp 34) (.tmp 36) 27 rfl 34 i0 _ 3 32 Try.underlying27 hi hz0 hz1 hz2 rfl _ L.length c _ rfl harr2 (fun _ => True) _ 1 1 _ rfl hsrc (by intro u hu; simp at hu; rcases hu with rfl | rfl | rfl <;> rfl) ?_ ?_ ?_
  · simp only [maxLen]; omega
  · omega
  intro A3 c3 w3 harr3 hfr3 hin3 _
  have noA : ¬ InB (some ⟨g, 0, none⟩) p := fun hk => by
    obtain ⟨cur', hb'⟩ := harr.bk hk
    exact HB.out.types hb' (by decide) rfl
  have nox : ¬ InB (some ⟨g, 0, none⟩) x := fun hk => by
    have := hlt _ (hA _ hk)
    omega
  have f1 := hfr3.cell_some (g0.cell_some d1 (fun h => h)) noA
  have f2 : w3.frozen? ⟨p, 1, none⟩ = false := ((HB.out.fr gA (fun h => h)).fr hfr3 noA).frozen 1
  refine hK _ _ (fun _ => ⟨f1, hfr3.cell_some (g0.cell_some b0 (fun h => h)) nox, hfr3.cell_some (g0.cell_some b1 (fun h => h)) nox, hfr3.cell_some (g0.cell_some b2 (fun h => h)) nox⟩) ?_
  clear hK K
  simp only [Act.put, List.setIfInBounds_toArray, List.set_cons_zero, List.set_cons_succ]
  refine wpPlan_free _ ?_ rfl (by rfl) (fun w' => ?_) ?_
  rotate_left
  · go_simp; with_reducible rfl
  simp only [Act.put, List.setIfInBounds_toArray, List.set_cons_zero, List.set_cons_succ]
  refine wpPlan_free _ ?_ rfl (by rfl) (fun w' => ?_) ?_
  rotate_left
  · go_simp; with_reducible rfl
  simp only [Act.put, List.setIfInBounds_toArray, List.set_cons_zero, List.set_cons_succ]
  refine wpPlan_do _ rfl (fun K hK => ?_)
  go_simp
  refine hK _ _ (fun h => by cases h) ?_
  clear hK K
  refine wpPlan_nil ?_
  subst hX
  obtain ⟨T', h1', h2', h3'⟩ := ref_push ⟨f, t, l⟩ HB.out harr hA hT hlt (by omega) gA harr3 hfr3 hin3
  go_wp2
  go_ret
  exact ⟨T', rfl, h1', h2', h3'⟩

/-- Pick finds nothing. -/
theorem refPick_none {T : Nat → Prop} {p : Nat} {nodes : Int} {L : List Msg} (i : Int) (w : World) (h : RefAt w T p nodes L) (hi : ¬ (0 ≤ i ∧ i < L.length)) :
    Calls Try.prog 16 #[.pointer (some ⟨p, 0, none⟩), .int .i64 i] w fun e w' => e = .returned (.tuple #[.agg #[.int .i64 0, .int .i64 0, .string ⟨#[]⟩], .int .i64 6]) ∧ Fr NoB w w' := by
  obtain ⟨⟨A, c, hbk, harr, hA⟩, hT, hlt, _⟩ := h
  have c1 : w.cell? ⟨p, 1, none⟩ = some (.slice A L.length c) := hbk.cell 1
  have hf : ∀ o, Fr NoB w (w.alloc o) := fun o => (Fr.refl _ _).alloc o
  have hpl := hbk.lt
  clear hbk
  by_cases h1 : i < 0
  · go_enter Try.func16, Try.ntmps16
    go_wp2_with fail
    refine bodyPost_ret (v := .tuple #[.agg #[.int .i64 0, .int .i64 0, .string ⟨#[]⟩], .int .i64 6]) (by simp [results, Try.results16, go_sem]) rfl ⟨rfl, hf _⟩
  · have h2 : (L.length : Int) ≤ i := by omega
    go_enter Try.func16, Try.ntmps16
    go_wp2_with fail
    refine bodyPost_ret (v := .tuple #[.agg #[.int .i64 0, .int .i64 0, .string ⟨#[]⟩], .int .i64 6]) (by simp [results, Try.results16, go_sem]) rfl ⟨rfl, hf _⟩
theorem size_alloc_ (w : World) (o : Obj) : (w.alloc o).heap.size = w.heap.size + 1 := by simp

theorem erase_take {L : List Msg} {k j : Nat} (hj : j < L.length) : (L.take (j + 1)).eraseIdx k = if j = k then (L.take j).eraseIdx k else (L.take j).eraseIdx k ++ [L[j]] := by
  have hlen : (L.take j).length = j := by rw [List.length_take]; omega
  rw [List.take_succ_eq_append_getElem hj]
  by_cases h : j = k
  · subst h
    rw [if_pos rfl, List.eraseIdx_append_of_length_le (by omega : (L.take j).length ≤ j), hlen, Nat.sub_self, List.eraseIdx_of_length_le (by omega : (L.take j).length ≤ j)]
    simp
  · rw [if_neg h]
    rcases Nat.lt_or_ge k j with h' | h'
    · rw [List.eraseIdx_append_of_lt_length (by omega : k < (L.take j).length)]
    · rw [List.eraseIdx_append_of_length_le (by omega : (L.take j).length ≤ k), hlen, List.eraseIdx_of_length_le (by omega : (L.take j).length ≤ k), List.eraseIdx_of_length_le (by simp; omega)]

def RL (wl : World) (L : List Msg) (k g : Nat) (v7 v34 : Value) (wr : World) : Prop :=
  ∃ (j : Nat) (A : Option Addr) (c : Nat), j ≤ L.length ∧ g = L.length - j ∧ v34 = .int .i64 j ∧ v7 = .slice A ((L.take j).eraseIdx k).length c ∧
    Arr wr 34 3 A ((L.take j).eraseIdx k).length c (sentV ((L.take j).eraseIdx k)) ∧ Fr NoB wl wr ∧ ∀ q, InB A q → wl.heap.size ≤ q

theorem refPick_some {T : Nat → Prop} {p : Nat} {nodes : Int} {L : List Msg} (k : Nat) (f t : Int) (l : List UInt8) (w : World) (h : RefAt w T p nodes L) (hk : L[k]? = some ⟨f, t, l⟩) :
    Calls Try.prog 16 #[.pointer (some ⟨p, 0, none⟩), .int .i64 k] w fun e w' => ∃ T', e = .returned (.tuple #[.agg #[.int .i64 f, .int .i64 t, .string ⟨l.toArray⟩], .int .i64 0]) ∧ RefAt w' T' p nodes (L.eraseIdx k) ∧ Fr T w w' ∧ Gr T T' w := by
  obtain ⟨i0, hi, hz0, hz1, hz2⟩ := info_parts info34
  have hfew := h.few
  obtain ⟨⟨A, c, hbk, harr, hA⟩, hT, hlt, _⟩ := h
  have hkl : k < L.length := (List.getElem?_eq_some_iff.1 hk).1
  have c1 : w.cell? ⟨p, 1, none⟩ = some (.slice A L.length c) := hbk.cell 1
  have hpl := hbk.lt
  have HB := Lib.hid hbk
  clear hbk
  obtain ⟨g, f', t', l', hm, rfl, m0, m1, m2⟩ := sentV_get harr hkl
  rw [hk] at hm
  cases hm
  have hgl : g < w.heap.size := World.block_lt_of_cell? w _ m0
  have h1' : decide ((k : Int) < 0) = false := by simp
  have h2' : decide (L.length ≤ k) = false := by simp; omega
  go_enter Try.func16, Try.ntmps16
  go_wp2_with fail
  have gW := ((Fr.refl NoB w).alloc (.cells #[.int .i64 0, .int .i64 0, .string ⟨#[]⟩] 34)).alloc (.cells #[.int .i64 f, .int .i64 t, .string ⟨l.toArray⟩] 34)
  have b4 := (Bk.new w 34 #[.int .i64 0, .int .i64 0, .string ⟨#[]⟩]).alloc (.cells #[.int .i64 f, .int .i64 t, .string ⟨l.toArray⟩] 34)
  have b6 := Bk.new (w.alloc (.cells #[.int .i64 0, .int .i64 0, .string ⟨#[]⟩] 34)) 34 #[.int .i64 f, .int .i64 t, .string ⟨l.toArray⟩]
  have e6 : (w.alloc (.cells #[.int .i64 0, .int .i64 0, .string ⟨#[]⟩] 34)).heap.size = w.heap.size + 1 := by simp
  rw [e6] at b6
  clear e6
  generalize hW : (w.alloc (.cells #[.int .i64 0, .int .i64 0, .string ⟨#[]⟩] 34)).alloc (.cells #[.int .i64 f, .int .i64 t, .string ⟨l.toArray⟩] 34) = W at *
  have hWz : W.heap.size = w.heap.size + 2 := by rw [← hW]; simp
  clear hW
  replace hWz := Lib.hid hWz
  generalize hX : w.heap.size = x at *
  have HX := Lib.hid hX
  clear hX
  have harrW := harr.fr gW (fun _ _ h => h)
  have HN : Hid (RL W L k L.length (.slice none 0 0) (.int .i64 (0 : Nat)) W) :=
    ⟨0, none, 0, Nat.zero_le _, rfl, rfl, by simp, Arr.none_ W 34 3, Fr.refl _ _, fun q hq => (InB.none_ q hq).elim⟩
  clear m0 m1 m2 c1
  go_loopg [7, 34] L.length (fun g v7 v34 wr => RL W L k g v7 v34 wr)
  case atStart => exact HN
  case round =>
    obtain ⟨j, A9, c9, hj, rfl, rfl, rfl, ha9, hf9, hi9⟩ := hrel
    by_cases hjl : j < L.length
    · obtain ⟨_, yf, yt, yb, hjm, e, m0, m1, m2⟩ := sentV_get (harrW.fr hf9 (fun _ _ h => h)) hjl
      cases e
      have hgr : g < wr.heap.size := World.block_lt_of_cell? wr _ m0
      have hE := erase_take (k := k) hjl
      have hjL : L[j] = ⟨yf, yt, yb⟩ := (List.getElem?_eq_some_iff.1 hjm).2
      rw [hjL] at hE
      clear hjL hjm
      by_cases hjk : j = k
      · subst hjk
        rw [if_pos rfl] at hE
        have hE' := Lib.hid hE
        clear hE
        go_wp2_with fail
        go_roundg (L.length - (j + 1))
        case measure => omega
        case rel =>
          exact ⟨j + 1, A9, c9, by omega, rfl, by go_num, by rw [hE'.out], by rw [hE'.out]; exact ha9.fr (T := NoB) ((Fr.refl _ _).alloc _) (fun _ _ h => h), hf9.alloc _, hi9⟩
      · have hne : ((j : Int) != (k : Int)) = true := by simp; omega
        rw [if_neg hjk] at hE
        have hE' := Lib.hid hE
        clear hE
        have q9 : ∀ o o', Arr ((wr.alloc o).alloc o') 34 3 A9 ((L.take j).eraseIdx k).length c9 (sentV ((L.take j).eraseIdx k)) := fun o o' => ha9.fr (T := NoB) (((Fr.refl _ _).alloc o).alloc o') (fun _ _ h => h)
        have hsrc : ∀ o, Rd ((wr.alloc o).alloc (.cells #[.int .i64 yf, .int .i64 yt, .string ⟨yb.toArray⟩] 34)) (fun _ => True) 3 (some ⟨(wr.alloc o).heap.size, 0, none⟩) 1 1 [.int .i64 yf, .int .i64 yt, .string ⟨yb.toArray⟩] := fun o =>
          (Arr.made (e := 34) (size := 3) (wr.alloc o) #[.int .i64 yf, .int .i64 yt, .string ⟨yb.toArray⟩] 1 1 (Nat.le_refl _) (by simp [maxLen]) (by simp)).rd.mono (fun _ _ => trivial)
        simp only [size_alloc_] at hsrc
        have hle9 : ((L.take j).eraseIdx k).length ≤ 1024 := by
          have := List.length_eraseIdx_le (L.take j) k
          have := List.length_take_le j L
          omega
        go_wp2_with (at_builtin; refine wpList_append_arr _ rfl (.tmp 42) (.tmp 44) 27 rfl 34 i0 _ 3 32 Try.underlying27 hi hz0 hz1 hz2 rfl A9 _ c9 _ rfl (q9 _ _) (fun _ => True) _ 1 1 _ rfl (hsrc _) (by intro u hu; simp at hu; rcases hu with rfl | rfl | rfl <;> rfl) (by simp only [maxLen]; omega) (by omega) ?_; intro A7 c7 w3 a7 f3 i7 _)
        go_roundg (L.length - (j + 1))
        case measure => omega
        case rel =>
          refine ⟨j + 1, A7, c7, by omega, rfl, by go_num, by rw [hE'.out]; simp, ?_, ?_, ?_⟩
          · rw [hE'.out]
            simpa [sentV, mcells] using a7
          · exact ((hf9.alloc _).alloc _).join f3 (fun q hq h => by have := hi9 q h; omega)
          · intro q hq
            rcases i7 q hq with h | h
            · exact hi9 q h
            · have := hf9.size
              simp at h
              omega
    · obtain rfl : j = L.length := by omega
      have hgA := gW.trans hf9
      have y0 : wr.cell? ⟨x + 1, 0, none⟩ = some (.int .i64 f) := hf9.cell_some (b6.cell 0) (fun h => h)
      have y1 : wr.cell? ⟨x + 1, 1, none⟩ = some (.int .i64 t) := hf9.cell_some (b6.cell 1) (fun h => h)
      have y2 : wr.cell? ⟨x + 1, 2, none⟩ = some (.string ⟨l.toArray⟩) := hf9.cell_some (b6.cell 2) (fun h => h)
      have bx := b4.fr hf9 (fun h => h)
      have x0 : wr.cell? ⟨x, 0, none⟩ = some (.int .i64 0) := bx.cell 0
      have x1 : wr.cell? ⟨x, 1, none⟩ = some (.int .i64 0) := bx.cell 1
      have x2 : wr.cell? ⟨x, 2, none⟩ = some (.string ⟨#[]⟩) := bx.cell 2
      have z0 := bx.frozen 0
      have z1 := bx.frozen 1
      have z2 := bx.frozen 2
      have bp := HB.out.fr hgA (fun h => h)
      have zp := bp.frozen 1
      have yp : wr.cell? ⟨p, 1, none⟩ = some (.slice (some ⟨g, 0, none⟩) L.length c) := bp.cell 1
      have n1 : p ≠ x := by omega
      have n2 : p ≠ x + 1 := by omega
      rw [List.take_length] at ha9
      have HP := Lib.hid bp
      have HX2 := Lib.hid bx
      clear bp bx
      go_wp2_with fail
      have hx := HX.out
      have hwz := hWz.out
      have f4 : Fr (fun q => q = p) wr (wr.setCell ⟨p, 1, none⟩ (.slice A9 (L.eraseIdx k).length c9)) := Fr.setCell (S := fun q => q = p) (p := ⟨p, 1, none⟩) (Fr.refl _ wr) (.inl rfl) _
      have l0 := HX2.out.fr f4 (fun e => n1 e.symm)
      have bp4 := HP.out.set 1 (.slice A9 (L.eraseIdx k).length c9)
      have a4 := ha9.fr f4 (fun q hq e => by have := hi9 q hq; omega)
      have lt4 := ha9.lt
      have zs := f4.size
      generalize wr.setCell ⟨p, 1, none⟩ (.slice A9 (L.eraseIdx k).length c9) = w4 at *
      have l3 := ((l0.set 0 (.int .i64 f)).set 1 (.int .i64 t)).set 2 (.string ⟨l.toArray⟩)
      have r0 := l3.cell 0
      have r1 := l3.cell 1
      have r2 := l3.cell 2
      have hs := fr_set3 w4 x (.int .i64 f) (.int .i64 t) (.string ⟨l.toArray⟩)
      have bp5 := bp4.fr hs n1
      have a5 := a4.fr hs (fun q hq e => by have := hi9 q hq; omega)
      have zf := hs.size
      refine bodyPost_ret (v := .tuple #[.agg #[.int .i64 f, .int .i64 t, .string ⟨l.toArray⟩], .int .i64 0]) (by simp [results, Try.results16, go_sem, r0, r1, r2]) rfl ⟨fun q => q = p ∨ InB A9 q, rfl, ⟨⟨A9, c9, by simpa using bp5, a5, fun q hq => .inr hq⟩, .inl rfl, ?_, ?_⟩, ?_, ?_⟩
      · intro q hq
        rcases hq with rfl | hq
        · exact bp5.lt
        · have := lt4 q hq
          omega
      · have := List.length_eraseIdx_le L k
        omega
      · have f1 : Fr T w wr := hgA.mono (fun _ _ h => h.elim)
        exact (f1.join f4 (fun q _ e => by subst e; exact hT)).join hs (fun q hq e => by omega)
      · intro q hq
        rcases hq with rfl | hq
        · exact .inl hT
        · have := hi9 q hq
          exact .inr (by omega)
end Go.Proofs.Yteaiifhppcibgaa
