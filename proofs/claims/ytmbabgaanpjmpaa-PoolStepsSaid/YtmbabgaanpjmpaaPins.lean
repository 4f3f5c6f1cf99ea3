/- PoolPins: the walk. -/
import Derived.Test.YtmbabgaanpjmpaaStepsIn
namespace Go.Proofs.Ytmbabgaanpjmpaa
open Go.RowKit

theorem get_step {w : World} {S : Nat → Prop} {p n : Nat} {fl ck N : Int} {L : List Frm} (x : Int) (h : PoolRaw w S p n fl ck L) (hg : PGood n fl ck N L) (hN : N + 1 ≤ 9223372036854775807) :
    Calls Try.prog 11 #[.pointer (some ⟨p, 0, none⟩), .int .i64 x] w fun e w' => ∃ (blk : Nat) (S' : Nat → Prop) (hi wr : Bool) (o nd er fl' ck' : Int) (L' : List Frm), getF n fl ck L x blk = (⟨hi, wr, o, nd⟩, er, fl', ck', L') ∧
      e = .returned (.tuple #[.agg #[.bool hi, .bool wr, .int .i64 o, .int .i64 nd], .int .i64 er]) ∧ PoolRaw w' S' p n fl' ck' L' ∧ PGood n fl' ck' (N + 1) L' ∧ Fr S w w' ∧ Gr S S' w := by
  refine (get_any x h hg hN).mono ?_
  rintro e w' ⟨blk, S', rfl, h1, h2, h3⟩
  exact ⟨blk, S', (getF n fl ck L x blk).1.hit, (getF n fl ck L x blk).1.write, (getF n fl ck L x blk).1.out, (getF n fl ck L x blk).1.need, _, _, _, _, rfl, rfl, h1, getF_good hg x blk, h2, h3⟩

/-- The page that is let go has no pin. -/
theorem getF_out {n : Nat} {fl ck N : Int} {L : List Frm} (hg : PGood n fl ck N L) (x : Int) (blk : Nat) : ∀ f ∈ L, (getF n fl ck L x blk).1.out = f.page → f.pins = 0 := by
  intro f hf
  have h0 : ∀ {b : Int}, b = 0 → b = f.page → f.pins = 0 := fun hb he => by have := (hg.pg f hf).1; omega
  unfold getF
  split
  · cases hfo : frameOf L x with
    | some f => exact h0 rfl
    | none =>
      simp only []
      split
      · exact h0 rfl
      · cases hfr : freeF L with
        | none => exact h0 rfl
        | some k =>
          unfold freeF at hfr
          obtain ⟨hk, hp, _⟩ := List.findIdx?_eq_some_iff_getElem.1 hfr
          simp only [Option.bind_some, List.getElem?_eq_getElem hk]
          intro he
          have := page_unique hg.nd (List.getElem_mem hk) hf he
          rw [← this]
          simpa using hp
  · exact h0 rfl

/-- A list of ints of one's own. -/
structure IL (w : World) (A : Option Addr) (c : Nat) (xs : List Int) (W : World) : Prop where
  arr : Arr W 3 1 A xs.length c (ints xs)
  new : ∀ k, InB A k → w.heap.size ≤ k
  fr : Fr NoB w W
theorem IL.put {w W w2 : World} {A A' : Option Addr} {c c' : Nat} {xs : List Int} {a : Int} {o : Obj} (h : IL w A c xs W) (ha : Arr w2 3 1 A' (xs.length + 1) c' (ints xs ++ [.int .i64 a])) (hf : Fr (InB A) (W.alloc o) w2) (hin : ∀ k, InB A' k → InB A k ∨ (W.alloc o).heap.size ≤ k) : IL w A' c' (xs ++ [a]) w2 := by
  have hz := h.fr.size
  have hz2 : (W.alloc o).heap.size = W.heap.size + 1 := by simp
  refine ⟨by rw [List.length_append]; simpa [ints] using ha, fun k hk => ?_, (h.fr.alloc o).join hf (fun j hj hb => by have := h.new j hb; omega)⟩
  rcases hin k hk with h' | h'
  · exact h.new k h'
  · omega
theorem IL.arg {w W : World} {A : Option Addr} {c : Nat} {xs : List Int} (h : IL w A c xs W) (y : Int) :
    Arr (W.alloc (.cells #[.int .i64 y] 3)) 3 1 A xs.length c (ints xs) ∧ Rd (W.alloc (.cells #[.int .i64 y] 3)) (fun k => k = W.heap.size) 1 (some ⟨W.heap.size, 0, none⟩) 1 1 [.int .i64 y] :=
  ⟨h.arr.fr ((Fr.refl NoB _).alloc _) (fun _ _ h => h), rd_one (Bk.new W 3 #[.int .i64 y])⟩

/-- The pool in a law's loop. -/
structure PN (w : World) (p n : Nat) (S : Nat → Prop) (fl ck : Int) (L : List Frm) (N : Int) (wr : World) : Prop where
  raw : PoolRaw wr S p n fl ck L
  good : PGood n fl ck N L
  up : Up w.heap.size S
  fr : Fr NoB w wr
section
variable {w W W' : World} {p n : Nat} {S S' : Nat → Prop} {fl ck fl' ck' N N' : Int} {L L' : List Frm}
theorem PN.keep (h : PN w p n S fl ck L N W) (hf : Fr NoB W W') : PN w p n S fl ck L N W' := ⟨h.raw.fr hf (fun _ _ h => h), h.good, h.up, h.fr.trans hf⟩
theorem PN.turn (h : PN w p n S fl ck L N W) (hr : PoolRaw W' S' p n fl' ck' L') (hg : PGood n fl' ck' N' L') (hf : Fr S W W') (hS : Gr S S' W) : PN w p n S' fl' ck' L' N' W' := ⟨hr, hg, hS.up h.up h.fr.size, h.fr.up hf h.up⟩
theorem Gr.refl' (S : Nat → Prop) (w : World) : Gr S S w := fun _ h => .inl h
end

def PNs (ss : List Step3) (w : World) (p n : Nat) (g : Nat) (v : Value) (wr : World) : Prop :=
  ∃ (k : Nat) (S : Nat → Prop) (fl ck : Int) (L : List Frm), k ≤ ss.length ∧ g = ss.length - k ∧ v = .int .i64 k ∧ PN w p n S fl ck L k wr

set_option maxHeartbeats 8000000 in
set_option maxRecDepth 100000 in
theorem pins_law (a : Int) (A : Option Addr) (c : Nat) (ss : List Step3) (w : World) (h : StepsIn w w.heap.size A c ss) :
    Calls Try.prog 3 #[.int .i64 a, .slice A ss.length c] w (LawPost w) := by
  have hsl : ss.length ≤ 9223372036854775807 := by have := h.1.2.1; have := h.1.2.2.1; simp only [maxLen] at this; omega
  obtain ⟨i0, hi0, hz0, hz1, hz2⟩ := info_parts info3
  go_enter Try.func3, Try.ntmps3
  go_wp2_with fail
  refine (new_any a _).mono ?_
  rintro e w1 (⟨a1, a2, p, S, hp, rfl, R1, up1, fr1⟩ | ⟨hbad, rfl, fr1⟩)
  rotate_left
  · go_wp2_with fail
    refine (speaks_any w1).mono ?_
    rintro e w9 ⟨rfl, fr9⟩
    go_wp2_with fail
    go_ret
    exact ⟨rfl, fr1.trans fr9⟩
  obtain ⟨n, rfl⟩ := Int.eq_ofNat_of_zero_le (by omega : 0 ≤ a)
  rw [Int.toNat_natCast] at R1
  have HN : Hid (PNs ss w p n ss.length (.int .i64 (0 : Nat)) w1) := ⟨0, S, 0, 0, [], Nat.zero_le _, rfl, rfl, R1, PGood.empty (by omega) (by omega), up1, fr1⟩
  clear R1 up1 fr1
  go_wp2_with fail
  go_loopg [35] ss.length (fun g v35 wr => PNs ss w p n g v35 wr)
  case atStart => exact HN.out
  case round =>
    obtain ⟨k, S, fl, ck, L, hk, rfl, rfl, hw⟩ := hrel
    by_cases hlt : k < ss.length
    · obtain ⟨b, off, kd, ka, kb, hsk, rfl, x0, x1, x2, o1, o2, o3⟩ := (h.fr hw.fr).step hlt
      have hW : Fr NoB wr (wr.alloc (.cells #[.int .i64 kd, .int .i64 ka, .int .i64 kb] 29)) := (Fr.refl _ _).alloc _
      have HW := Lib.hid (hw.keep hW)
      have HB := Lib.hid (Bk.new wr 29 #[.int .i64 kd, .int .i64 ka, .int .i64 kb])
      have hnK : Hid (¬ S wr.heap.size) := Lib.hid fun hs => by have := hw.raw.lt _ hs; omega
      have hLl : L.length ≤ 64 := by have := hw.good.len; have := hw.good.n2; omega
      clear hw hW hsk
      go_wp2_with fail
      refine (pages_any HW.out.raw HW.out.good).mono ?_
      rintro e w3 ⟨A3, c3, rfl, arr3, in3, f3⟩
      have H3 := Lib.hid (HW.out.keep f3)
      have HB3 := Lib.hid (HB.out.fr f3 (fun h => h))
      have HA3 := Lib.hid arr3
      have hnS : Hid (∀ k, InB A3 k → ¬ S k) := Lib.hid fun k hk hs => by have := in3 k hk; have := HW.out.raw.lt k hs; omega
      have hI : Hid (IL w3 none 0 [] w3) := Lib.hid ⟨Arr.none_ _ _ _, fun k hk => (InB.none_ k hk).elim, Fr.refl _ _⟩
      clear arr3 in3 f3 HW HB
      go_wp2_with fail
      go_loopg [10, 43] L.length (fun g v10 v43 W => ∃ (j : Nat) (B : Option Addr) (d : Nat), j ≤ L.length ∧ g = L.length - j ∧ v10 = .slice B (L.map (·.pins) |>.take j).length d ∧ v43 = .int .i64 j ∧ IL w3 B d (L.map (·.pins) |>.take j) W)
      case atStart => exact ⟨0, none, 0, Nat.zero_le _, rfl, rfl, rfl, hI.out⟩
      case round =>
        obtain ⟨j, B, d, hj, rfl, rfl, rfl, hIL⟩ := hrel
        by_cases hjl : j < L.length
        · obtain ⟨b1, off1, hA, y1⟩ := int_cell (xs := L.map (·.page)) (by rw [List.length_map]; exact (HA3.out.fr hIL.fr (fun _ _ h => h)).rd) (j := j) (by rw [List.length_map]; exact hjl)
          rw [List.getElem_map] at y1
          have hp1 := pins_any L[j].page (H3.out.raw.fr hIL.fr (fun _ _ h => h)) H3.out.good (by have := H3.out.good.pg _ (List.getElem_mem hjl); unfold okI; omega)
          have hpe : pinsF L L[j].page = L[j].pins := by unfold pinsF; rw [frameOf_mem H3.out.good.nd (List.getElem_mem hjl)]
          rw [hpe] at hp1
          have htk : (L.map (·.pins)).take (j + 1) = (L.map (·.pins)).take j ++ [L[j].pins] := by
            rw [List.take_succ_eq_append_getElem (by rw [List.length_map]; exact hjl), List.getElem_map]
          have HTK := Lib.hid htk
          have HIL := Lib.hid hIL
          have HARG := Lib.hid (hIL.arg L[j].pins)
          have hxl : ((L.map (·.pins)).take j).length ≤ 64 := by rw [List.length_take, List.length_map]; omega
          clear hIL hpe htk
          generalize (L.map (·.pins)).take j = xs at *
          generalize L[j].page = xp at *
          generalize L[j].pins = yp at *
          subst hA
          go_wp2_with fail
          refine hp1.mono ?_
          rintro e w' ⟨rfl, rfl⟩
          go_wp2_with (at_builtin; refine wpList_append_arr _ rfl _ _ 30 rfl 3 i0 _ 1 8 Try.underlying30 hi0 hz0 hz1 hz2 rfl B xs.length d (ints xs) rfl HARG.out.1 _ (some ⟨_, 0, none⟩) 1 1 [.int .i64 yp] rfl HARG.out.2 (by intro u hu; simp at hu; subst hu; rfl) (by simp only [maxLen]; omega) (by omega) ?_; intro B3 d3 w5 ha5 hf5 hin5 _)
          have HNX := Lib.hid (HIL.out.put ha5 hf5 hin5)
          clear ha5 hf5 hin5
          go_wp2_with fail
          go_roundg (L.length - (j + 1))
          case measure => omega
          case rel => exact ⟨j + 1, B3, d3, by omega, rfl, by rw [HTK.out, List.length_append]; rfl, by go_num, by rw [HTK.out]; exact HNX.out⟩
        · obtain rfl : j = L.length := by omega
          have hte : (L.map (·.pins)).take L.length = L.map (·.pins) := List.take_of_length_le (by simp)
          rw [hte] at hIL ⊢
          have H4 := Lib.hid (H3.out.keep hIL.fr)
          have hnB : Hid (∀ i, InB B i → ¬ S i) := Lib.hid fun i hi hs => by have := hIL.new i hi; have := H3.out.raw.lt i hs; omega
          have HB4 := Lib.hid hIL.arr
          have HA4 := Lib.hid (HA3.out.fr hIL.fr (fun _ _ h => h))
          have HK4 := Lib.hid (HB3.out.fr hIL.fr (fun h => h))
          have k0 := HK4.out.cell 0
          have k1 := HK4.out.cell 1
          simp at k0 k1
          rw [List.length_map] at HB4 ⊢
          clear hIL hte hI H3 HA3 HB3
          go_wp2_with fail
          refine (get_step ka H4.out.raw H4.out.good (by omega)).mono ?_
          rintro e w5 ⟨blk, S5, hi, wrt, o, nd, er, fl9, ck9, L5, hgf, rfl, raw5, good5, f5, gr5⟩
          have HNO : Hid (∀ i (hi : i < L.length), o = L[i].page → L[i].pins = 0) := Lib.hid fun i hi he => by
            have := getF_out H4.out.good ka blk L[i] (List.getElem_mem hi)
            rw [hgf] at this
            exact this he
          have H5 := Lib.hid (H4.out.turn raw5 good5 f5 gr5)
          have hnA5 : Hid (∀ i, InB A3 i → ¬ S5 i) := Lib.hid fun i hi hs => by
            rcases gr5 i hs with h' | h'
            · exact hnS.out i hi h'
            · have := HA4.out.lt i hi; omega
          have hnB5 : Hid (∀ i, InB B i → ¬ S5 i) := Lib.hid fun i hi hs => by
            rcases gr5 i hs with h' | h'
            · exact hnB.out i hi h'
            · have := HB4.out.lt i hi; omega
          have f6 : Fr NoB w5 (w5.alloc (.cells #[.bool hi, .bool wrt, .int .i64 o, .int .i64 nd] 34)) := (Fr.refl _ _).alloc _
          have HA6 := Lib.hid ((HA4.out.fr f5 hnS.out).fr f6 (fun _ _ h => h))
          have HB6 := Lib.hid ((HB4.out.fr f5 hnB.out).fr f6 (fun _ _ h => h))
          have H6 := Lib.hid (H5.out.keep f6)
          have gc0 : (w5.alloc (.cells #[.bool hi, .bool wrt, .int .i64 o, .int .i64 nd] 34)).cell? ⟨w5.heap.size, 2, none⟩ = some (.int .i64 o) := (Bk.new w5 34 #[.bool hi, .bool wrt, .int .i64 o, .int .i64 nd]).cell 2
          have hgn : Hid (¬ S5 w5.heap.size) := Lib.hid fun hs => by have := H5.out.raw.lt _ hs; omega
          have k5 := (HK4.out.fr f5 hnK.out).fr f6 (fun h => h)
          have k50 := k5.cell 0
          have k51 := k5.cell 1
          simp at k50 k51
          clear hgf raw5 good5 f5 gr5 f6 k5 H4 HA4 HB4 HK4 k0 k1 H5
          by_cases he : er = 0
          · subst he
            by_cases hkd : 1 < kd
            · go_wp2_with fail
              refine (unpin_any ka H6.out.raw H6.out.good (by omega) o2).mono ?_
              rintro e w8 ⟨rfl, raw8, f8⟩
              have H9 := Lib.hid (H6.out.turn raw8 (unpin_good H6.out.good ka) f8 (Gr.refl' _ _))
              have HA8 := Lib.hid (HA6.out.fr f8 hnA5.out)
              have HB8 := Lib.hid (HB6.out.fr f8 hnB5.out)
              have gc8 := f8.cell_some gc0 hgn.out
              clear raw8 f8 HA6 HB6 H6 gc0 k50 k51
              generalize (unpinF L5 ka).2 = L9 at *
              generalize (unpinF L5 ka).1 = r9 at *
              go_wp2_with fail
              refine (pages_any H9.out.raw H9.out.good).mono ?_
              rintro e w9 ⟨A9, c9, rfl, _, _, f9⟩
              have hL9 : L9.length ≤ n := H9.out.good.len
              have hgt : decide ((n : Int) < (L9.length : Int)) = false := decide_eq_false (by omega)
              have HK := Lib.hid (H9.out.keep f9)
              have HA9 := Lib.hid (HA8.out.fr f9 (fun _ _ h => h))
              have HB9 := Lib.hid (HB8.out.fr f9 (fun _ _ h => h))
              have gc9 := f9.cell_some gc8 (fun h => h)
              clear f9 H9 HA8 HB8 gc8
              go_wp2_with fail
              go_loopg [79] L.length (fun g v79 wr => ∃ i : Nat, i ≤ L.length ∧ g = L.length - i ∧ v79 = .int .i64 i ∧ wr = w9)
              case atStart => exact ⟨0, Nat.zero_le _, rfl, rfl, rfl⟩
              case round =>
                obtain ⟨i, hi, rfl, rfl, rfl⟩ := hrel
                by_cases hil : i < L.length
                · obtain ⟨b1, off1, hA, y1⟩ := int_cell (xs := L.map (·.page)) (by rw [List.length_map]; exact HA9.out.rd) (j := i) (by rw [List.length_map]; exact hil)
                  obtain ⟨b2, off2, hB, y2⟩ := int_cell (xs := L.map (·.pins)) (by rw [List.length_map]; exact HB9.out.rd) (j := i) (by rw [List.length_map]; exact hil)
                  rw [List.getElem_map] at y1 y2
                  have hno := HNO.out i hil
                  subst hA hB
                  by_cases ho : o = L[i].page
                  · have hz := hno ho
                    rw [hz] at y2
                    have e1 : (o == L[i].page) = true := by rw [beq_iff_eq]; exact ho
                    clear ho hz hno
                    generalize L[i].page = xp at *
                    go_wp2_with fail
                    go_roundg (L.length - (i + 1))
                    case measure => omega
                    case rel => exact ⟨i + 1, by omega, rfl, by go_num, rfl⟩
                  · have e1 : (o == L[i].page) = false := by rw [beq_eq_false_iff_ne]; exact ho
                    clear ho hno
                    generalize L[i].page = xp at *
                    generalize L[i].pins = yp at *
                    go_wp2_with fail
                    go_roundg (L.length - (i + 1))
                    case measure => omega
                    case rel => exact ⟨i + 1, by omega, rfl, by go_num, rfl⟩
                · obtain rfl : i = L.length := by omega
                  go_wp2_with fail
                  go_roundg (ss.length - (k + 1))
                  case measure => omega
                  case rel => exact ⟨k + 1, S5, fl9, ck9, L9, by omega, rfl, by go_num, HK.out⟩
            · have hkd' : decide (1 < kd) = false := decide_eq_false hkd
              have H9 := H6
              have HA8 := HA6
              have HB8 := HB6
              have gc8 := gc0
              clear H6 HA6 HB6 gc0 k51
              go_wp2_with fail
              refine (pages_any H9.out.raw H9.out.good).mono ?_
              rintro e w9 ⟨A9, c9, rfl, _, _, f9⟩
              have hL5 : L5.length ≤ n := H9.out.good.len
              have hgt : decide ((n : Int) < (L5.length : Int)) = false := decide_eq_false (by omega)
              have HK := Lib.hid (H9.out.keep f9)
              have HA9 := Lib.hid (HA8.out.fr f9 (fun _ _ h => h))
              have HB9 := Lib.hid (HB8.out.fr f9 (fun _ _ h => h))
              have gc9 := f9.cell_some gc8 (fun h => h)
              clear f9 H9 HA8 HB8 gc8
              go_wp2_with fail
              go_loopg [79] L.length (fun g v79 wr => ∃ i : Nat, i ≤ L.length ∧ g = L.length - i ∧ v79 = .int .i64 i ∧ wr = w9)
              case atStart => exact ⟨0, Nat.zero_le _, rfl, rfl, rfl⟩
              case round =>
                obtain ⟨i, hi, rfl, rfl, rfl⟩ := hrel
                by_cases hil : i < L.length
                · obtain ⟨b1, off1, hA, y1⟩ := int_cell (xs := L.map (·.page)) (by rw [List.length_map]; exact HA9.out.rd) (j := i) (by rw [List.length_map]; exact hil)
                  obtain ⟨b2, off2, hB, y2⟩ := int_cell (xs := L.map (·.pins)) (by rw [List.length_map]; exact HB9.out.rd) (j := i) (by rw [List.length_map]; exact hil)
                  rw [List.getElem_map] at y1 y2
                  have hno := HNO.out i hil
                  subst hA hB
                  by_cases ho : o = L[i].page
                  · have hz := hno ho
                    rw [hz] at y2
                    have e1 : (o == L[i].page) = true := by rw [beq_iff_eq]; exact ho
                    clear ho hz hno
                    generalize L[i].page = xp at *
                    go_wp2_with fail
                    go_roundg (L.length - (i + 1))
                    case measure => omega
                    case rel => exact ⟨i + 1, by omega, rfl, by go_num, rfl⟩
                  · have e1 : (o == L[i].page) = false := by rw [beq_eq_false_iff_ne]; exact ho
                    clear ho hno
                    generalize L[i].page = xp at *
                    generalize L[i].pins = yp at *
                    go_wp2_with fail
                    go_roundg (L.length - (i + 1))
                    case measure => omega
                    case rel => exact ⟨i + 1, by omega, rfl, by go_num, rfl⟩
                · obtain rfl : i = L.length := by omega
                  go_wp2_with fail
                  go_roundg (ss.length - (k + 1))
                  case measure => omega
                  case rel => exact ⟨k + 1, S5, fl9, ck9, L5, by omega, rfl, by go_num, HK.out⟩
          · have he' : (er == 0) = false := by rw [beq_eq_false_iff_ne]; exact he
            have H9 := H6
            have HA8 := HA6
            have HB8 := HB6
            have gc8 := gc0
            clear H6 HA6 HB6 gc0 k50 k51
            go_wp2_with fail
            refine (pages_any H9.out.raw H9.out.good).mono ?_
            rintro e w9 ⟨A9, c9, rfl, _, _, f9⟩
            have hL5 : L5.length ≤ n := H9.out.good.len
            have hgt : decide ((n : Int) < (L5.length : Int)) = false := decide_eq_false (by omega)
            have HK := Lib.hid (H9.out.keep f9)
            have HA9 := Lib.hid (HA8.out.fr f9 (fun _ _ h => h))
            have HB9 := Lib.hid (HB8.out.fr f9 (fun _ _ h => h))
            have gc9 := f9.cell_some gc8 (fun h => h)
            clear f9 H9 HA8 HB8 gc8
            go_wp2_with fail
            go_loopg [79] L.length (fun g v79 wr => ∃ i : Nat, i ≤ L.length ∧ g = L.length - i ∧ v79 = .int .i64 i ∧ wr = w9)
            case atStart => exact ⟨0, Nat.zero_le _, rfl, rfl, rfl⟩
            case round =>
              obtain ⟨i, hi, rfl, rfl, rfl⟩ := hrel
              by_cases hil : i < L.length
              · obtain ⟨b1, off1, hA, y1⟩ := int_cell (xs := L.map (·.page)) (by rw [List.length_map]; exact HA9.out.rd) (j := i) (by rw [List.length_map]; exact hil)
                obtain ⟨b2, off2, hB, y2⟩ := int_cell (xs := L.map (·.pins)) (by rw [List.length_map]; exact HB9.out.rd) (j := i) (by rw [List.length_map]; exact hil)
                rw [List.getElem_map] at y1 y2
                have hno := HNO.out i hil
                subst hA hB
                by_cases ho : o = L[i].page
                · have hz := hno ho
                  rw [hz] at y2
                  have e1 : (o == L[i].page) = true := by rw [beq_iff_eq]; exact ho
                  clear ho hz hno
                  generalize L[i].page = xp at *
                  go_wp2_with fail
                  go_roundg (L.length - (i + 1))
                  case measure => omega
                  case rel => exact ⟨i + 1, by omega, rfl, by go_num, rfl⟩
                · have e1 : (o == L[i].page) = false := by rw [beq_eq_false_iff_ne]; exact ho
                  clear ho hno
                  generalize L[i].page = xp at *
                  generalize L[i].pins = yp at *
                  go_wp2_with fail
                  go_roundg (L.length - (i + 1))
                  case measure => omega
                  case rel => exact ⟨i + 1, by omega, rfl, by go_num, rfl⟩
              · obtain rfl : i = L.length := by omega
                go_wp2_with fail
                go_roundg (ss.length - (k + 1))
                case measure => omega
                case rel => exact ⟨k + 1, S5, fl9, ck9, L5, by omega, rfl, by go_num, HK.out⟩
    · obtain rfl : k = ss.length := by omega
      have HW := Lib.hid hw.fr
      clear hw
      go_wp2_with fail
      refine (speaks_any wr).mono ?_
      rintro e w9 ⟨rfl, fr9⟩
      go_wp2_with fail
      go_ret
      exact ⟨rfl, HW.out.trans fr9⟩
end Go.Proofs.Ytmbabgaanpjmpaa
