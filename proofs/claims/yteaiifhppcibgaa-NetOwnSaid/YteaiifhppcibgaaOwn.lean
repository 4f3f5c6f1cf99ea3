/- NetOwn: the walk. -/
import Derived.Test.YteaiifhppcibgaaFlight
namespace Go.Proofs.Yteaiifhppcibgaa
open Go.RowKit

/-- An array of bytes, whatever they are. -/
def IntArr (w : World) (A : Option Addr) (n c : Nat) : Prop := ∃ xs, Arr w 5 1 A n c xs ∧ ∀ u ∈ xs, ∃ z, u = Value.int .u8 z

theorem IntArr.of {w : World} {A : Option Addr} {n c : Nat} {l : List UInt8} (h : Arr w 5 1 A n c (bv l)) : IntArr w A n c :=
  ⟨_, h, fun u hu => by obtain ⟨x, _, rfl⟩ := List.mem_map.1 hu; exact ⟨_, rfl⟩⟩

theorem IntArr.get {w : World} {A : Option Addr} {n c j : Nat} (h : IntArr w A n c) (hj : j < n) :
    ∃ g z, A = some ⟨g, 0, none⟩ ∧ w.cell? ⟨g, j, none⟩ = some (.int .u8 z) ∧ w.frozen? ⟨g, j, none⟩ = false ∧ g < w.heap.size ∧ n ≤ c ∧ (∃ cur, Bk w g 5 cur) := by
  obtain ⟨xs, ⟨h1, h2⟩, h3⟩ := h
  rcases h2 with ⟨_, h', _⟩ | ⟨g, cur, rfl, hb, hnc, _, _, h4⟩
  · omega
  · have hat : At w ⟨g, 0, none⟩ xs := At.of_bk (o := 0) (n := n * 1) hb (by simpa using h4)
    have hjx : j < xs.length := by omega
    have := hat j xs[j] (List.getElem?_eq_getElem hjx)
    obtain ⟨z, hz⟩ := h3 xs[j] (List.getElem_mem hjx)
    rw [addr_lit, hz] at this
    exact ⟨g, z, rfl, by simpa using this, hb.frozen j, hb.lt, hnc, cur, hb⟩

theorem IntArr.store {w : World} {g n c : Nat} (h : IntArr w (some ⟨g, 0, none⟩) n c) (j : Nat) (z : Int) : IntArr (w.setCell ⟨g, j, none⟩ (.int .u8 z)) (some ⟨g, 0, none⟩) n c := by
  obtain ⟨xs, h1, h3⟩ := h
  refine ⟨xs.set j (.int .u8 z), ?_, fun u hu => ?_⟩
  · rcases h1.2 with ⟨h', _⟩ | ⟨g', cur, e', hb, h1', h2, h3, h4⟩
    · cases h'
    · obtain rfl : g = g' := by simpa using e'
      refine ⟨by simpa using h1.1, .inr ⟨g, _, rfl, hb.set j _, h1', h2, by simpa using h3, ?_⟩⟩
      rw [← h4]
      simp [List.take_set]
  · rcases List.mem_or_eq_of_mem_set hu with h | h
    · exact h3 u h
    · exact ⟨z, h⟩

/-- A loop over an array of bytes that stores into it. -/
def Lp (w0 : World) (A : Option Addr) (n c : Nat) (g : Nat) (v : Value) (wr : World) : Prop :=
  ∃ j : Nat, j ≤ n ∧ g = n - j ∧ v = .int .i64 j ∧ IntArr wr A n c ∧ Fr (InB A) w0 wr

theorem Lp.drew {w0 wr : World} {A : Option Addr} {n c g : Nat} {v : Value} (h : Lp w0 A n c g v wr) : Lp w0 A n c g v wr.drew := by
  obtain ⟨j, h1, h2, h3, h4, h5⟩ := h
  exact ⟨j, h1, h2, h3, h4, h5.drew⟩

theorem Lp.next {w0 wr : World} {g n c j : Nat} (hj : j < n) (h : IntArr wr (some ⟨g, 0, none⟩) n c) (hf : Fr (InB (some ⟨g, 0, none⟩)) w0 wr) (z : Int) :
    Lp w0 (some ⟨g, 0, none⟩) n c (n - (j + 1)) (.int .i64 ((j : Int) + 1)) (wr.setCell ⟨g, j, none⟩ (.int .u8 z)) :=
  ⟨j + 1, hj, rfl, by simp, h.store j z, Fr.setCell hf (.inl (by simp [InB])) _⟩

theorem msgs_two {w : World} {S : Nat → Prop} {A : Option Addr} {c : Nat} {m m' : Msg} (h : MsgsAt w S A c [m, m']) :
    ∃ g Am cm, A = some ⟨g, 0, none⟩ ∧ w.cell? ⟨g, 2, none⟩ = some (.slice Am m.b.length cm) ∧ Arr w 5 1 Am m.b.length cm (bv m.b) ∧ (∀ k, InB Am k → S k) ∧ g < w.heap.size ∧ ¬ InB Am g ∧ 2 ≤ c := by
  obtain ⟨⟨css, harr, hcl, hcm, hcA, hcS, hcp⟩, hlt⟩ := h
  have h3 := css_len hcl hcm
  have h0 : 0 < css.length := by simp at hcl; omega
  obtain ⟨Am, cm, e, harrm⟩ := hcm 0 css[0] m (List.getElem?_eq_getElem h0) rfl
  have hcs' : css[0]? = some [.int .i64 m.f, .int .i64 m.t, .slice Am m.b.length cm] := by rw [List.getElem?_eq_getElem h0, e]
  rcases harr.2 with ⟨_, h', _⟩ | ⟨g, cur, rfl, hb, hnc, _, _, htk⟩
  · simp at h'
  · have hat : At w ⟨g, 0, none⟩ css.flatten := At.of_bk (o := 0) (n := ([m, m'] : List Msg).length * 3) hb (by simpa using htk)
    have := hat (0 * 3 + 2) _ (flat_get h3 hcs' (by omega))
    rw [addr_lit] at this
    refine ⟨g, Am, cm, rfl, by simpa using this, harrm, fun k hk => hcS _ (List.mem_of_getElem? hcs') k (cellsB_iff.2 hk), hb.lt, fun hg => ?_, by simpa using hnc⟩
    obtain ⟨cur', hb'⟩ := harrm.bk hg
    exact hb'.types hb (by decide) rfl

theorem send_own {b : List UInt8} (hb : b.length ≤ 65535) : sendF 2 [] 0 1 b = (0, [⟨0, 1, b⟩]) := by
  unfold sendF
  rw [if_pos ⟨by decide, by decide⟩, if_neg (by omega), if_neg (by simp)]
  rfl

set_option maxHeartbeats 4000000 in
set_option maxRecDepth 100000 in
theorem ownLaw_any (A : Option Addr) (c : Nat) (b : List UInt8) (w : World) (h : Rd w (fun k => k < w.heap.size) 1 A b.length c (bv b)) (hl : b.length ≤ 65535) :
    Calls Try.prog 5 #[.slice A b.length c] w fun e w' => e = .returned (.bool true) ∧ Fr NoB w w' := by
  obtain ⟨i5, hi5, hz0, hz1, hz2⟩ := info_parts info5
  have hd : decide (65535 < (b.length : Int)) = false := by simp; omega
  go_enter Try.func5, Try.ntmps5
  go_wp2_with fail
  refine (new_any 2 _).mono ?_
  rintro e w1 (⟨_, _, n, S, hn, rfl, hnet, hS, hfr⟩ | ⟨hno, _⟩)
  rotate_left
  · omega
  go_wp2_with (at_builtin; refine wpList_append_arr _ rfl (.tmp 34) (.tmp 35) 29 rfl 5 i5 _ 1 1 Try.underlying29 hi5 hz0 hz1 hz2 rfl none _ 0 _ rfl (Arr.none_ _ _ _) _ A b.length c _ rfl (h.fr hfr (fun _ _ _ h => h)) (bv_one b) (by simp only [maxLen]; omega) (by omega) ?_; intro A5 c5 w3 arr5 hfr3 hin3 _)
  simp only [Nat.zero_add, List.nil_append] at arr5
  have z1 := hfr.size
  have z3 := hfr3.size
  have lt1 := hnet.lt
  have in5 : ∀ k, InB A5 k → w1.heap.size ≤ k := fun k hk => by
    rcases hin3 k hk with h | h
    · exact (InB.none_ k h).elim
    · exact h
  have fr3 : Fr NoB w w3 := hfr.join hfr3 (fun j _ h => (InB.none_ j h).elim)
  have net3 := hnet.fr hfr3 (fun k _ h => InB.none_ k h)
  have lt5 := arr5.lt
  clear hin3 hfr3
  refine (send_any 0 1 A5 c5 b w3 net3 arr5.rd).mono ?_
  rw [send_own hl]
  rintro e w4 ⟨S4, rfl, net4, fr4, gr4⟩
  have z4 := fr4.size
  have n5 : ∀ k, InB A5 k → ¬ S k := fun k hk hs => by have := in5 k hk; have := lt1 k hs; omega
  have n54 : ∀ k, InB A5 k → ¬ S4 k := fun k hk hs => by
    rcases gr4 k hs with h | h
    · exact n5 k hk h
    · have := lt5 k hk; omega
  have arr4 := arr5.fr fr4 n5
  have up4 : Up w.heap.size S4 := gr4.up hS (by omega)
  have frw4 : Fr NoB w w4 := fr3.up fr4 hS
  go_wp2_with fail
  refine (copy_any 0 w4 net4 (by intro m hm; simp at hm; subst hm; exact hl)).mono ?_
  have hcp : copyF [⟨0, 1, b⟩] 0 = (0, [⟨0, 1, b⟩, ⟨0, 1, b⟩]) := rfl
  rw [hcp]
  rintro e w5 ⟨S5, rfl, net5, fr5, gr5⟩
  have z5 := fr5.size
  have n55 : ∀ k, InB A5 k → ¬ S5 k := fun k hk hs => by
    rcases gr5 k hs with h | h
    · exact n54 k hk h
    · have := lt5 k hk; omega
  have arr5' := arr4.fr fr5 n54
  have up5 : Up w.heap.size S5 := gr5.up up4 (by omega)
  have frw5 : Fr NoB w w5 := frw4.up fr5 up4
  clear hcp net4 net3 hnet arr5 arr4 gr4 gr5 fr4 fr5
  go_wp2_with fail
  refine (flight_any w5 net5 (by intro m hm; simp at hm; subst hm; exact hl)).mono ?_
  rintro e w6 ⟨A6, c6, S6, rfl, ms6, up6, fr6⟩
  have hl2 : ([⟨0, 1, b⟩, ⟨0, 1, b⟩] : List Msg).length = 2 := rfl
  rw [hl2]
  clear hl2
  have net6 := net5.fr fr6 (fun _ _ h => h)
  have frw6 : Fr NoB w w6 := frw5.trans fr6
  have i6 : IntArr w6 A5 b.length c5 := .of (arr5'.fr fr6 (fun _ _ h => h))
  have n56 : ∀ k, InB A5 k → ¬ S6 k := fun k hk hs => by have := up6 k hs; have := lt5 k hk; omega
  have in5' : ∀ k, InB A5 k → w.heap.size ≤ k := fun k hk => by have := in5 k hk; omega
  have s6lt := net6.lt
  have m6lt := ms6.lt
  have s56 : ∀ k, S6 k → ¬ S5 k := fun k hk hs => by have := up6 k hk; have := net5.lt k hs; omega
  have up6' : Up w.heap.size S6 := fun k hk => by have := up6 k hk; have := frw5.size; omega
  clear net5 fr6 arr5' up6 lt5 in5 n5 n54 z1 z3 z4 z5 lt1 fr3 up4 frw4 frw5
  go_wp2_with fail
  have HL : Hid (Lp w6 A5 b.length c5 b.length (.int .i64 (0 : Nat)) w6) := ⟨0, Nat.zero_le _, rfl, rfl, i6, Fr.refl _ _⟩
  clear i6
  go_loopg [50] b.length (fun g v wr => Lp w6 A5 b.length c5 g v wr)
  case atStart => exact HL
  case round =>
    obtain ⟨j, hj, rfl, rfl, hi, hf⟩ := hrel
    by_cases hjl : j < b.length
    · obtain ⟨g, z, rfl, y0, y1, y2, y3, _⟩ := hi.get hjl
      go_wp2_with fail
      go_roundg (b.length - (j + 1))
      case measure => omega
      case rel =>
        have := Lp.next hjl hi hf (IntKind.u8.wrap (z + 1))
        exact this
    · obtain rfl : j = b.length := by omega
      have net7 := net6.fr hf (fun k hk h => n55 k h hk)
      have ms7 := ms6.fr hf (fun k hk h => n56 k h hk)
      have frw7 : Fr NoB w wr := frw6.join hf (fun k hk h => by have := in5' k h; omega)
      clear net6 ms6 hf hi frw6 n55 n56 in5' s6lt m6lt HL
      obtain ⟨g6, A7, c7, rfl, y0, arr7, in7, g6l, ng6, c62⟩ := msgs_two ms7
      have n75 : ∀ k, InB A7 k → ¬ S5 k := fun k hk => s56 k (in7 k hk)
      have up7 : ∀ k, InB A7 k → w.heap.size ≤ k := fun k hk => up6' k (in7 k hk)
      have i7 : IntArr wr A7 b.length c7 := .of arr7
      clear ms7 arr7 in7 s56 up6'
      go_wp2_with fail
      have HL : Hid (Lp wr A7 b.length c7 b.length (.int .i64 (0 : Nat)) wr) := ⟨0, Nat.zero_le _, rfl, rfl, i7, Fr.refl _ _⟩
      clear i7
      generalize wr = w7 at *
      go_loopg [80] b.length (fun g v wr => Lp w7 A7 b.length c7 g v wr)
      case atStart => exact HL
      case round =>
        obtain ⟨j, hj, rfl, rfl, hi, hf⟩ := hrel
        have y1 := hf.cell_some y0 ng6
        by_cases hjl : j < b.length
        · obtain ⟨g, z, rfl, x0, x1, x2, x3, _⟩ := hi.get hjl
          go_wp2_with fail
          refine wp_region_plan 14 (fun w' => w'.cell? ⟨g6, 2, none⟩ = some (.slice (some ⟨g, 0, none⟩) b.length c7) ∧ w'.cell? ⟨g, j, none⟩ = some (.int .u8 z))
            [(0, 0), (1, 0), (2, 0), (3, 1), (4, 0), (5, 0), (6, 0), (7, 0), (8, 1), (9, 0), (10, 0), (11, 1), (12, 0), (13, 0), (14, 2)] (by kernel_rfl) (by kernel_rfl) (fun _ _ _ _ _ h => h) ⟨y1, x0⟩ ?_
          refine wpPlan_free _ ?_ rfl (by rfl) (fun w' => ?_) ?_
          rotate_left
          · go_simp; with_reducible rfl
          simp only [Act.put, List.setIfInBounds_toArray, List.set_cons_zero, List.set_cons_succ]
          refine wpPlan_free _ ?_ rfl (by rfl) (fun w' => ?_) ?_
          rotate_left
          · go_simp; with_reducible rfl
          simp only [Act.put, List.setIfInBounds_toArray, List.set_cons_zero, List.set_cons_succ]
          refine wpPlan_free _ ?_ rfl (by rfl) (fun w' => ?_) ?_
          rotate_left
          · go_simp; with_reducible rfl
          simp only [Act.put, List.setIfInBounds_toArray, List.set_cons_zero, List.set_cons_succ]
          refine wpPlan_held _ ?_ rfl (by rfl) (fun w' hS => ?_) ?_
          rotate_left
          · obtain ⟨e0, e1⟩ := hS; go_simp; with_reducible rfl
          simp only [Act.put, List.setIfInBounds_toArray, List.set_cons_zero, List.set_cons_succ]
          refine wpPlan_free _ ?_ rfl (by rfl) (fun w' => ?_) ?_
          rotate_left
          · go_simp; with_reducible rfl
          simp only [Act.put, List.setIfInBounds_toArray, List.set_cons_zero, List.set_cons_succ]
          refine wpPlan_free _ ?_ rfl (by rfl) (fun w' => ?_) ?_
          rotate_left
          · go_simp; with_reducible rfl
          simp only [Act.put, List.setIfInBounds_toArray, List.set_cons_zero, List.set_cons_succ]
          refine wpPlan_free _ ?_ rfl (by rfl) (fun w' => ?_) ?_
          rotate_left
          · go_simp; with_reducible rfl
          simp only [Act.put, List.setIfInBounds_toArray, List.set_cons_zero, List.set_cons_succ]
          refine wpPlan_free _ ?_ rfl (by rfl) (fun w' => ?_) ?_
          rotate_left
          · go_simp; with_reducible rfl
          simp only [Act.put, List.setIfInBounds_toArray, List.set_cons_zero, List.set_cons_succ]
          refine wpPlan_held _ ?_ rfl (by rfl) (fun w' hS => ?_) ?_
          rotate_left
          · obtain ⟨e0, e1⟩ := hS; go_simp; with_reducible rfl
          simp only [Act.put, List.setIfInBounds_toArray, List.set_cons_zero, List.set_cons_succ]
          refine wpPlan_free _ ?_ rfl (by rfl) (fun w' => ?_) ?_
          rotate_left
          · go_simp; with_reducible rfl
          simp only [Act.put, List.setIfInBounds_toArray, List.set_cons_zero, List.set_cons_succ]
          refine wpPlan_free _ ?_ rfl (by rfl) (fun w' => ?_) ?_
          rotate_left
          · go_simp; with_reducible rfl
          simp only [Act.put, List.setIfInBounds_toArray, List.set_cons_zero, List.set_cons_succ]
          refine wpPlan_held _ ?_ rfl (by rfl) (fun w' hS => ?_) ?_
          rotate_left
          · obtain ⟨e0, e1⟩ := hS; go_simp; with_reducible rfl
          simp only [Act.put, List.setIfInBounds_toArray, List.set_cons_zero, List.set_cons_succ]
          refine wpPlan_free _ ?_ rfl (by rfl) (fun w' => ?_) ?_
          rotate_left
          · go_simp; with_reducible rfl
          simp only [Act.put, List.setIfInBounds_toArray, List.set_cons_zero, List.set_cons_succ]
          refine wpPlan_free _ ?_ rfl (by rfl) (fun w' => ?_) ?_
          rotate_left
          · go_simp; with_reducible rfl
          simp only [Act.put, List.setIfInBounds_toArray, List.set_cons_zero, List.set_cons_succ]
          refine wpPlan_do _ rfl (fun K hK => ?_)
          go_simp
          refine hK _ _ (fun h => by cases h) ?_
          clear hK K
          refine wpPlan_nil ?_
          go_wp2_with fail
          go_roundg (b.length - (j + 1))
          case measure => omega
          case rel => exact (Lp.next hjl hi hf (IntKind.u8.wrap (z + 2))).drew
        · obtain rfl : j = b.length := by omega
          have net8 := net7.fr hf (fun k hk h => n75 k h hk)
          have frw8 : Fr NoB w wr := frw7.join hf (fun k hk h => by have := up7 k h; omega)
          have HP := Lib.hid (pick_some 0 ⟨0, 1, b⟩ wr net8 rfl)
          have HN := Lib.hid net8
          clear net7 hf hi frw7 n75 up7 HL net8 y0 y1 ng6 g6l
          go_wp2_with fail
          refine HP.out.mono ?_
          clear HP
          rintro e w9 ⟨S9, A9, c9, rfl, arr9, in9, net9, fr9, gr9⟩
          have frw9 : Fr NoB w w9 := frw8.up fr9 up5
          have n9 : ∀ k, InB A9 k → ¬ S9 k := fun k hk => (in9 k hk).2
          have up9 : ∀ k, InB A9 k → w.heap.size ≤ k := fun k hk => up5 k (in9 k hk).1
          have upS9 : Up w.heap.size S9 := gr9.up up5 frw8.size
          have lt9 := arr9.lt
          have he : ([⟨0, 1, b⟩, ⟨0, 1, b⟩] : List Msg).eraseIdx 0 = [⟨0, 1, b⟩] := rfl
          rw [he] at net9
          clear he fr9 gr9 in9 frw8
          go_wp2_with fail
          have fA : Fr NoB w9 (w9.alloc (.cells #[.int .i64 0, .int .i64 1, .slice A9 b.length c9] 36)) := (Fr.refl _ _).alloc _
          have i9 : IntArr (w9.alloc (.cells #[.int .i64 0, .int .i64 1, .slice A9 b.length c9] 36)) A9 b.length c9 := .of (arr9.fr fA (fun _ _ h => h))
          have net10 := net9.fr fA (fun _ _ h => h)
          have frw10 := frw9.trans fA
          have box : (w9.alloc (.cells #[.int .i64 0, .int .i64 1, .slice A9 b.length c9] 36)).cell? ⟨w9.heap.size, 2, none⟩ = some (.slice A9 b.length c9) := (Bk.new _ _ _).cell 2
          have nb : ¬ InB A9 w9.heap.size := fun h => by have := lt9 _ h; omega
          generalize w9.alloc (.cells #[.int .i64 0, .int .i64 1, .slice A9 b.length c9] 36) = w10 at *
          generalize w9.heap.size = bx at *
          have HL : Hid (Lp w10 A9 b.length c9 b.length (.int .i64 (0 : Nat)) w10) := ⟨0, Nat.zero_le _, rfl, rfl, i9, Fr.refl _ _⟩
          clear i9 fA net9 frw9 arr9 lt9
          go_loopg [106] b.length (fun g v wr => Lp w10 A9 b.length c9 g v wr)
          case atStart => exact HL
          case round =>
            obtain ⟨j, hj, rfl, rfl, hi, hf⟩ := hrel
            have y1 := hf.cell_some box nb
            by_cases hjl : j < b.length
            · obtain ⟨g, z, rfl, x0, x1, x2, x3, _⟩ := hi.get hjl
              go_wp2_with fail
              refine wp_region_plan 10 (fun w' => w'.cell? ⟨bx, 2, none⟩ = some (.slice (some ⟨g, 0, none⟩) b.length c9) ∧ w'.cell? ⟨g, j, none⟩ = some (.int .u8 z))
                [(0, 0), (1, 1), (2, 0), (3, 0), (4, 1), (5, 0), (6, 0), (7, 1), (8, 0), (9, 0), (10, 2)] (by kernel_rfl) (by kernel_rfl) (fun _ _ _ _ _ h => h) ⟨y1, x0⟩ ?_
              refine wpPlan_free _ ?_ rfl (by rfl) (fun w' => ?_) ?_
              rotate_left
              · go_simp; with_reducible rfl
              simp only [Act.put, List.setIfInBounds_toArray, List.set_cons_zero, List.set_cons_succ]
              refine wpPlan_held _ ?_ rfl (by rfl) (fun w' hS => ?_) ?_
              rotate_left
              · obtain ⟨e0, e1⟩ := hS; go_simp; with_reducible rfl
              simp only [Act.put, List.setIfInBounds_toArray, List.set_cons_zero, List.set_cons_succ]
              refine wpPlan_free _ ?_ rfl (by rfl) (fun w' => ?_) ?_
              rotate_left
              · go_simp; with_reducible rfl
              simp only [Act.put, List.setIfInBounds_toArray, List.set_cons_zero, List.set_cons_succ]
              refine wpPlan_free _ ?_ rfl (by rfl) (fun w' => ?_) ?_
              rotate_left
              · go_simp; with_reducible rfl
              simp only [Act.put, List.setIfInBounds_toArray, List.set_cons_zero, List.set_cons_succ]
              refine wpPlan_held _ ?_ rfl (by rfl) (fun w' hS => ?_) ?_
              rotate_left
              · obtain ⟨e0, e1⟩ := hS; go_simp; with_reducible rfl
              simp only [Act.put, List.setIfInBounds_toArray, List.set_cons_zero, List.set_cons_succ]
              refine wpPlan_free _ ?_ rfl (by rfl) (fun w' => ?_) ?_
              rotate_left
              · go_simp; with_reducible rfl
              simp only [Act.put, List.setIfInBounds_toArray, List.set_cons_zero, List.set_cons_succ]
              refine wpPlan_free _ ?_ rfl (by rfl) (fun w' => ?_) ?_
              rotate_left
              · go_simp; with_reducible rfl
              simp only [Act.put, List.setIfInBounds_toArray, List.set_cons_zero, List.set_cons_succ]
              refine wpPlan_held _ ?_ rfl (by rfl) (fun w' hS => ?_) ?_
              rotate_left
              · obtain ⟨e0, e1⟩ := hS; go_simp; with_reducible rfl
              simp only [Act.put, List.setIfInBounds_toArray, List.set_cons_zero, List.set_cons_succ]
              refine wpPlan_free _ ?_ rfl (by rfl) (fun w' => ?_) ?_
              rotate_left
              · go_simp; with_reducible rfl
              simp only [Act.put, List.setIfInBounds_toArray, List.set_cons_zero, List.set_cons_succ]
              refine wpPlan_free _ ?_ rfl (by rfl) (fun w' => ?_) ?_
              rotate_left
              · go_simp; with_reducible rfl
              simp only [Act.put, List.setIfInBounds_toArray, List.set_cons_zero, List.set_cons_succ]
              refine wpPlan_do _ rfl (fun K hK => ?_)
              go_simp
              refine hK _ _ (fun h => by cases h) ?_
              clear hK K
              refine wpPlan_nil ?_
              go_wp2_with fail
              go_roundg (b.length - (j + 1))
              case measure => omega
              case rel => exact (Lp.next hjl hi hf (IntKind.u8.wrap (z + 3))).drew
            · obtain rfl : j = b.length := by omega
              have net11 := net10.fr hf (fun k hk h => n9 k h hk)
              have frw11 : Fr NoB w wr := frw10.join hf (fun k hk h => by have := up9 k h; omega)
              have HP := Lib.hid (pick_some 0 ⟨0, 1, b⟩ wr net11 rfl)
              clear net10 hf hi frw10 n9 up9 HL net11 y1 nb box
              go_wp2_with fail
              refine HP.out.mono ?_
              clear HP
              rintro e w12 ⟨S12, A12, c12, rfl, arr12, in12, net12, fr12, gr12⟩
              have frw12 : Fr NoB w w12 := frw11.up fr12 upS9
              have fA : Fr NoB w12 (w12.alloc (.cells #[.int .i64 0, .int .i64 1, .slice A12 b.length c12] 36)) := (Fr.refl _ _).alloc _
              have hcv := run_conv_rd (w12.alloc (.cells #[.int .i64 0, .int .i64 1, .slice A12 b.length c12] 36)) 29 9 5 Try.underlying29 Try.underlying5 Try.underlying9 b (arr12.fr fA (fun _ _ h => h)).rd
              have hcw := run_conv_rd (w12.alloc (.cells #[.int .i64 0, .int .i64 1, .slice A12 b.length c12] 36)) 29 9 5 Try.underlying29 Try.underlying5 Try.underlying9 b (h.fr (frw12.trans fA) (fun _ _ _ h => h))
              clear net12 fr12 gr12 in12 arr12
              go_wp2_with fail
              refine (speaks_any _).mono ?_
              rintro e w13 ⟨rfl, fr13⟩
              go_wp2_with fail
              go_ret
              exact ⟨rfl, (frw12.trans fA).trans fr13⟩
end Go.Proofs.Yteaiifhppcibgaa
