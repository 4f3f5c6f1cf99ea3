/- DiskSeen: the walk. -/
import Derived.Test.YtghddmdehbacaaaFirst
namespace Go.Proofs.Ytghddmdehbacaaa
open Go.RowKit

def z256 : List UInt8 := List.replicate 256 0
def mb : Array Value := madeCells #[.int .u8 0] 256
theorem mb_eq : mb.toList.take (256 * 1) = bv z256 := by kernel_rfl
theorem mb_size : 256 * 1 ≤ mb.size := Nat.le_of_eq (size_madeCells _ _).symm
theorem mb_arr (w : World) : Arr (w.alloc (.cells mb 5)) 5 1 (some ⟨w.heap.size, 0, none⟩) 256 256 (bv z256) := by
  have := Arr.made (e := 5) (size := 1) w mb 256 256 (Nat.le_refl _) (by simp [maxLen]) mb_size
  rwa [mb_eq] at this
theorem z256_len : z256.length = 256 := List.length_replicate
theorem info5 : (Try.prog.info? 5).map (fun i => (i.zero, i.size, i.bytes)) = some (some (.int .u8 0), 1, 1) := by kernel_rfl
theorem run_mb (u : World) : (Instr.makeSlice 27 (.int .i64 256) (.int .i64 256)).run Try.prog u = .ok (.slice (some ⟨u.heap.size, 0, none⟩) 256 256) (u.alloc (.cells mb 5)) := by
  obtain ⟨i0, hi0, hz0, hz1, hz2⟩ := info_parts info5
  have h := run_make (P := Try.prog) u 27 5 i0 (.int .u8 0) Try.underlying27 hi0 hz0 .i64 .i64 256 256 (by omega) (by omega) (by rw [hz2]; omega) (by omega)
  rw [hz1] at h
  exact h

/-- The array of strings. -/
def LastAt (w : World) (la : Nat) (L : List (List UInt8)) : Prop := ∃ cs : Array Value, Bk w la 49 cs ∧ cs.size = 4 ∧ ∀ (i : Nat) (s : List UInt8), L[i]? = some s → cs[i]? = some (.string ⟨s.toArray⟩)
theorem LastAt.fr {S : Nat → Prop} {w w1 : World} {la : Nat} {L : List (List UInt8)} (h : LastAt w la L) (hf : Fr S w w1) (hn : ¬ S la) : LastAt w1 la L := by
  obtain ⟨cs, h1, h2⟩ := h
  exact ⟨cs, h1.fr hf hn, h2⟩
theorem LastAt.any {w : World} {la : Nat} {L : List (List UInt8)} (h : LastAt w la L) {i : Nat} (hi : i < 4) : (∃ v, w.cell? ⟨la, i, none⟩ = some v) ∧ w.frozen? ⟨la, i, none⟩ = false := by
  obtain ⟨cs, h1, h2, _⟩ := h
  exact ⟨⟨cs[i], by rw [h1.cell]; simp⟩, h1.frozen i⟩
theorem LastAt.get {w : World} {la : Nat} {L : List (List UInt8)} (h : LastAt w la L) {i : Nat} {s : List UInt8} (hi : L[i]? = some s) : w.cell? ⟨la, i, none⟩ = some (.string ⟨s.toArray⟩) := by
  obtain ⟨cs, h1, _, h3⟩ := h
  rw [h1.cell]
  exact h3 i s hi
theorem LastAt.lt {w : World} {la : Nat} {L : List (List UInt8)} (h : LastAt w la L) : la < w.heap.size := by
  obtain ⟨cs, h1, _⟩ := h
  exact h1.lt
theorem LastAt.set {w : World} {la : Nat} {L : List (List UInt8)} (h : LastAt w la L) (i : Nat) (hi : i < 4) (s : List UInt8) : LastAt (w.setCell ⟨la, i, none⟩ (.string ⟨s.toArray⟩)) la (L.set i s) := by
  obtain ⟨cs, h1, h2, h3⟩ := h
  refine ⟨_, h1.set i _, by simpa using h2, fun j t hj => ?_⟩
  by_cases e : i = j
  · subst e
    have hl := (List.getElem?_eq_some_iff.1 hj).1
    rw [List.getElem?_set_self (by simpa using hl)] at hj
    cases hj
    rw [Array.getElem?_setIfInBounds_self]
    simp [h2, hi]
  · rw [List.getElem?_set_ne e] at hj
    rw [Array.getElem?_setIfInBounds_ne (by omega)]
    exact h3 j t hj
theorem LastAt.snoc {w : World} {la : Nat} {L : List (List UInt8)} (h : LastAt w la L) (hi : L.length < 4) (s : List UInt8) : LastAt (w.setCell ⟨la, L.length, none⟩ (.string ⟨s.toArray⟩)) la (L ++ [s]) := by
  obtain ⟨cs, h1, h2, h3⟩ := h
  refine ⟨_, h1.set L.length _, by simpa using h2, fun j t hj => ?_⟩
  by_cases e : L.length = j
  · subst e
    simp at hj
    subst hj
    rw [Array.getElem?_setIfInBounds_self]
    simp [h2, hi]
  · rw [Array.getElem?_setIfInBounds_ne (by omega)]
    have hl := (List.getElem?_eq_some_iff.1 hj).1
    simp at hl
    rw [List.getElem?_append_left (by omega)] at hj
    exact h3 j t hj

/-- A store into an own array of one-cell elements. -/
theorem Arr.store {w : World} {e : TypeId} {g n c : Nat} {xs : List Value} (h : Arr w e 1 (some ⟨g, 0, none⟩) n c xs) (j : Nat) (u : Value) : Arr (w.setCell ⟨g, j, none⟩ u) e 1 (some ⟨g, 0, none⟩) n c (xs.set j u) := by
  rcases h.2 with ⟨h', _⟩ | ⟨g', cur, e', hb, h1, h2, h3, h4⟩
  · cases h'
  · obtain rfl : g = g' := by simpa using e'
    refine ⟨by simpa using h.1, .inr ⟨g, _, rfl, hb.set j u, h1, h2, by simpa using h3, ?_⟩⟩
    rw [← h4]
    simp [List.take_set]
theorem Arr.spot {w : World} {e : TypeId} {g n c : Nat} {xs : List Value} (h : Arr w e 1 (some ⟨g, 0, none⟩) n c xs) {j : Nat} (hj : j < n) : (∃ v, w.cell? ⟨g, j, none⟩ = some v) ∧ w.frozen? ⟨g, j, none⟩ = false := by
  rcases h.2 with ⟨h', _⟩ | ⟨g', cur, e', hb, h1, h2, h3, h4⟩
  · cases h'
  · obtain rfl : g = g' := by simpa using e'
    exact ⟨⟨cur[j], by rw [hb.cell]; simp⟩, hb.frozen j⟩

def part (kb : List UInt8) (j : Nat) : List UInt8 := kb.take j ++ List.replicate (256 - j) 0
theorem part_zero (kb : List UInt8) : part kb 0 = z256 := rfl
theorem part_full {kb : List UInt8} : part kb kb.length = full kb := by simp [part, full]
theorem part_set {kb : List UInt8} {j : Nat} (hj : j < kb.length) (h : kb.length ≤ 256) : (part kb j).set j kb[j] = part kb (j + 1) := by
  unfold part
  rw [List.set_append_right _ _ (by rw [List.length_take]; omega), List.length_take, Nat.min_eq_left (by omega), Nat.sub_self, List.take_succ_eq_append_getElem hj, List.append_assoc]
  congr 1
  rw [show 256 - j = (256 - (j + 1)) + 1 by omega, List.replicate_succ]
  rfl
theorem bv_set (l : List UInt8) (j : Nat) (x : UInt8) : (bv l).set j (.int .u8 (x.toNat : Int)) = bv (l.set j x) := by simp [bv, List.map_set]

/-- The first loop's state. -/
def S1 (w1 : World) (la : Nat) (g : Nat) (v33 : Value) (wr : World) : Prop := ∃ j : Nat, j ≤ 4 ∧ g = 4 - j ∧ v33 = .int .i64 j ∧ LastAt wr la (List.replicate j z256) ∧ Fr (fun k => k = la) w1 wr
structure SW (w : World) (d la : Nat) (q : List (Nat × List UInt8)) (k : Nat) (S : Nat → Prop) (wr : World) : Prop where
  dk : DiskAt wr S d (zeros 4) q
  last : LastAt wr la (apply q (zeros 4))
  few : q.length ≤ k
  up : Up w.heap.size S
  fr : Fr NoB w wr
  nl : ¬ S la
  ul : w.heap.size ≤ la
def S2 (ss : List StepS) (w : World) (d la : Nat) (g : Nat) (v43 : Value) (wr : World) : Prop :=
  ∃ (k : Nat) (S : Nat → Prop) (q : List (Nat × List UInt8)), k ≤ ss.length ∧ g = ss.length - k ∧ v43 = .int .i64 k ∧ SW w d la q k S wr
def S3 (w3 : World) (bx : Nat) (kb : List UInt8) (g : Nat) (v58 : Value) (wr : World) : Prop := ∃ j : Nat, j ≤ kb.length ∧ g = kb.length - j ∧ v58 = .int .i64 j ∧ Arr wr 5 1 (some ⟨bx, 0, none⟩) 256 256 (bv (part kb j)) ∧ Fr (fun k => k = bx) w3 wr
def S4 (w : World) (d la : Nat) (q : List (Nat × List UInt8)) (n : Nat) (S : Nat → Prop) (g : Nat) (v14 : Value) (wr : World) : Prop := ∃ j : Nat, j ≤ 4 ∧ g = 4 - j ∧ v14 = .int .i64 j ∧ SW w d la q n S wr
def S5 (w : World) (d la : Nat) (L X : List (List UInt8)) (S : Nat → Prop) (g : Nat) (v18 : Value) (wr : World) : Prop := ∃ j : Nat, j ≤ 4 ∧ g = 4 - j ∧ v18 = .int .i64 j ∧ DiskAt wr S d X [] ∧ LastAt wr la L ∧ Fr NoB w wr

theorem SW.keep {w wr W : World} {d la : Nat} {q : List (Nat × List UInt8)} {k : Nat} {S : Nat → Prop} (h : SW w d la q k S wr) (hf : Fr NoB wr W) : SW w d la q k S W :=
  ⟨h.dk.fr hf (fun _ _ h => h), h.last.fr hf (fun h => h), h.few, h.up, h.fr.trans hf, h.nl, h.ul⟩
theorem SW.more {w wr : World} {d la : Nat} {q : List (Nat × List UInt8)} {k : Nat} {S : Nat → Prop} (h : SW w d la q k S wr) : SW w d la q (k + 1) S wr :=
  ⟨h.dk, h.last, by have := h.few; omega, h.up, h.fr, h.nl, h.ul⟩

set_option maxHeartbeats 8000000 in
set_option maxRecDepth 100000 in
theorem seen_any (A : Option Addr) (c : Nat) (ss : List StepS) (keep : Int) (w : World) (h : StepsIn w w.heap.size A c ss) (hss : ss.length ≤ 1048576) :
    Calls Try.prog 6 #[.slice A ss.length c, .int .i64 keep] w (LawPost w) := by
  have hmk := run_mb
  go_enter Try.func6, Try.ntmps6
  go_wp2_with fail
  refine (new_any 4 _).mono ?_
  rintro e w1 (⟨_, _, d, S, hd, rfl, dk1, up1, fr1⟩ | ⟨hno, _⟩)
  rotate_left
  · omega
  go_wp2_with fail
  have hla : LastAt (w1.alloc (.cells #[.string ⟨#[]⟩, .string ⟨#[]⟩, .string ⟨#[]⟩, .string ⟨#[]⟩] 49)) w1.heap.size (List.replicate 0 z256) := ⟨_, Bk.new _ _ _, rfl, fun i s hi => by simp at hi⟩
  have hnl : ¬ S w1.heap.size := fun hs => by have := dk1.lt _ hs; omega
  have hul := fr1.size
  have fA : Fr NoB w1 (w1.alloc (.cells #[.string ⟨#[]⟩, .string ⟨#[]⟩, .string ⟨#[]⟩, .string ⟨#[]⟩] 49)) := (Fr.refl _ _).alloc _
  have dk2 := dk1.fr fA (fun _ _ h => h)
  have fr2 := fr1.trans fA
  generalize w1.alloc (.cells #[.string ⟨#[]⟩, .string ⟨#[]⟩, .string ⟨#[]⟩, .string ⟨#[]⟩] 49) = w2 at *
  generalize w1.heap.size = la at *
  have HN : Hid (S1 w2 la 4 (.int .i64 (0 : Nat)) w2) := ⟨0, by omega, rfl, rfl, hla, Fr.refl _ _⟩
  clear dk1 fr1 fA hla
  go_loopg [33] 4 (fun g v33 wr => S1 w2 la g v33 wr)
  case atStart => exact HN
  case round =>
    obtain ⟨j, hj, rfl, rfl, hl, hf⟩ := hrel
    by_cases hj4 : j < 4
    · have fB : Fr NoB wr (wr.alloc (.cells mb 5)) := (Fr.refl _ _).alloc _
      have hl2 := hl.fr fB (fun h => h)
      have hll := hl2.lt
      obtain ⟨⟨v, y0⟩, y1⟩ := hl2.any hj4
      have hcv := run_conv_rd (wr.alloc (.cells mb 5)) 27 9 5 Try.underlying27 Try.underlying5 Try.underlying9 z256 (by rw [z256_len]; exact (mb_arr wr).rd)
      rw [z256_len] at hcv
      have hsn := hl2.snoc (by rw [List.length_replicate]; exact hj4) z256
      rw [List.length_replicate, ← List.replicate_succ'] at hsn
      have HS := Lib.hid hsn
      clear hsn hl2
      go_wp2_with fail
      go_roundg (4 - (j + 1))
      case measure => omega
      case rel => exact ⟨j + 1, by omega, rfl, by go_num, HS.out, Fr.setCell (S := fun k => k = la) (p := ⟨la, j, none⟩) (hf.alloc _) (.inl rfl) _⟩
    · obtain rfl : j = 4 := by omega
      have e4 : List.replicate 4 z256 = apply [] (zeros 4) := rfl
      rw [e4] at hl
      have hW0 : SW w d la [] 0 S wr := ⟨dk2.fr hf (fun k hk e => hnl (e ▸ hk)), hl, Nat.le_refl _, up1, fr2.join hf (fun k hk e => by omega), hnl, hul⟩
      have HN2 : Hid (S2 ss w d la ss.length (.int .i64 (0 : Nat)) wr) := ⟨0, S, [], Nat.zero_le _, rfl, rfl, hW0⟩
      clear hW0 hl e4 hf dk2 fr2 up1 HN hnl
      go_wp2_with fail
      generalize wr = w3 at *
      go_loopg [43] ss.length (fun g v43 wr => S2 ss w d la g v43 wr)
      case atStart => exact HN2
      case round =>
        obtain ⟨k, S, q, hk, rfl, rfl, hw⟩ := hrel
        by_cases hlt : k < ss.length
        · obtain ⟨b, off, A', c', kd, ka, kc, kb, hsk, rfl, x0, x1, x2, x3, hrd⟩ := (h.fr hw.fr).step hlt
          have hW : Fr NoB wr (wr.alloc (.cells #[.int .i64 kd, .int .i64 ka, .int .i64 kc, .slice A' kb.length c'] 29)) := (Fr.refl _ _).alloc _
          have hBW : Bk (wr.alloc (.cells #[.int .i64 kd, .int .i64 ka, .int .i64 kc, .slice A' kb.length c'] 29)) wr.heap.size 29 #[.int .i64 kd, .int .i64 ka, .int .i64 kc, .slice A' kb.length c'] := Bk.new _ _ _
          have hnS : ¬ S wr.heap.size := fun h => by have := hw.dk.lt _ h; omega
          clear hsk
          have hfew := hw.few
          have HW := Lib.hid (hw.keep hW)
          have hrW := Lib.hid (hrd.fr hW (fun _ _ _ h => h))
          have hwa := Lib.hid (write_any ka A' c' kb _ HW.out.dk hrW.out (by omega))
          have HB := Lib.hid hBW
          clear hw hrd hBW
          go_wp2_with fail
          refine hwa.out.mono ?_
          rw [zeros_len]
          unfold writeF
          by_cases h1 : hasB 4 ka = true
          rotate_left
          · rw [if_neg h1]
            rintro e w4 ⟨S4, rfl, dk4, fr4, gr4⟩
            have hT : SW w d la q (k + 1) S4 w4 := ⟨dk4, HW.out.last.fr fr4 HW.out.nl, by omega, gr4.up HW.out.up HW.out.fr.size, HW.out.fr.up fr4 HW.out.up, fun hs => by
              rcases gr4 _ hs with h' | h'
              · exact HW.out.nl h'
              · have := HW.out.last.lt; omega, HW.out.ul⟩
            have HT := Lib.hid hT
            clear hT dk4 fr4 gr4
            go_wp2_with fail
            go_roundg (ss.length - (k + 1))
            case measure => omega
            case rel => exact ⟨k + 1, S4, q, by omega, rfl, by go_num, HT.out⟩
          rw [if_pos h1]
          by_cases h2 : 256 < kb.length
          · rw [if_pos h2]
            rintro e w4 ⟨S4, rfl, dk4, fr4, gr4⟩
            have hT : SW w d la q (k + 1) S4 w4 := ⟨dk4, HW.out.last.fr fr4 HW.out.nl, by omega, gr4.up HW.out.up HW.out.fr.size, HW.out.fr.up fr4 HW.out.up, fun hs => by
              rcases gr4 _ hs with h' | h'
              · exact HW.out.nl h'
              · have := HW.out.last.lt; omega, HW.out.ul⟩
            have HT := Lib.hid hT
            clear hT dk4 fr4 gr4
            go_wp2_with fail
            go_roundg (ss.length - (k + 1))
            case measure => omega
            case rel => exact ⟨k + 1, S4, q, by omega, rfl, by go_num, HT.out⟩
          rw [if_neg h2]
          rintro e w4 ⟨S4, rfl, dk4, fr4, gr4⟩
          have h3 := of_decide_eq_true h1
          obtain ⟨ia, rfl⟩ := Int.eq_ofNat_of_zero_le h3.1
          have hia : ia < 4 := by omega
          rw [Int.toNat_natCast] at dk4
          have hla4 := HW.out.last.fr fr4 HW.out.nl
          have hnl4 : ¬ S4 la := fun hs => by
            rcases gr4 _ hs with h' | h'
            · exact HW.out.nl h'
            · have := HW.out.last.lt; omega
          have hup4 := gr4.up HW.out.up HW.out.fr.size
          have hfr4 := HW.out.fr.up fr4 HW.out.up
          have hul4 := HW.out.ul
          have rd4 := hrW.out.fr fr4 (fun j _ hj hs => by have := HW.out.up _ hs; omega)
          have hB4 := HB.out.fr fr4 hnS
          have HB4 := Lib.hid hB4
          have y1 : w4.cell? ⟨wr.heap.size, 1, none⟩ = some (.int .i64 ia) := hB4.cell 1
          have y3 : w4.cell? ⟨wr.heap.size, 3, none⟩ = some (.slice A' kb.length c') := hB4.cell 3
          have yl := hB4.lt
          have hbxS : ¬ S4 w4.heap.size := fun hs => by have := dk4.lt _ hs; omega
          have fC : Fr NoB w4 (w4.alloc (.cells mb 5)) := (Fr.refl _ _).alloc _
          have hll4 := hla4.lt
          have HM : Hid (S3 (w4.alloc (.cells mb 5)) w4.heap.size kb kb.length (.int .i64 (0 : Nat)) (w4.alloc (.cells mb 5))) := ⟨0, Nat.zero_le _, rfl, rfl, by rw [part_zero]; exact mb_arr w4, Fr.refl _ _⟩
          have dk5 := Lib.hid (dk4.fr fC (fun _ _ h => h))
          have rd5 := rd4.fr fC (fun _ _ _ h => h)
          have la5 := Lib.hid (hla4.fr fC (fun h => h))
          have fr5 := hfr4.trans fC
          have HB5 := Lib.hid (HB4.out.fr fC (fun h => h))
          have hwl4 := hfr4.size
          clear dk4 fr4 gr4 hla4 hfr4 rd4 hB4 HW hwa hrW HB HB4 x0 x1 x2 x3
          go_wp2_with fail
          generalize w4.alloc (.cells mb 5) = w5 at *
          obtain ⟨bx, hbx⟩ : ∃ bx, bx = w4.heap.size := ⟨_, rfl⟩
          rw [← hbx] at hbxS HM ⊢
          have nbl : la ≠ bx := by omega
          obtain ⟨st, hst⟩ : ∃ st, st = wr.heap.size := ⟨_, rfl⟩
          rw [← hst] at HB5 ⊢
          have nbs : st ≠ bx := by omega
          replace hbx := Lib.hid hbx
          replace hst := Lib.hid hst
          go_loopg [58] kb.length (fun g v58 wr => S3 w5 bx kb g v58 wr)
          case atStart => exact HM.out
          case round =>
            obtain ⟨j, hj, rfl, rfl, harr, hf⟩ := hrel
            by_cases hjl : j < kb.length
            · obtain ⟨g', off', u, rfl, hgS, hgl, hu, hcu⟩ := (rd5.fr hf (fun i _ hi e => by have := hbx.out; omega)).cell_at hjl 0 (by omega)
              simp only [Nat.mul_one, Nat.add_zero] at hu hcu
              have hux : u = .int .u8 ((kb[j]).toNat : Int) := by
                simp only [bv, List.getElem?_map, List.getElem?_eq_getElem hjl, Option.map_some, Option.some.injEq] at hu
                exact hu.symm
              subst hux
              obtain ⟨⟨v, z0⟩, z1⟩ := harr.spot (j := j) (by omega)
              have hnew := harr.store j (.int .u8 ((kb[j]).toNat : Int))
              rw [bv_set, part_set hjl (by omega)] at hnew
              have hfn : Fr (fun k => k = bx) w5 (wr.setCell ⟨bx, j, none⟩ (.int .u8 ((kb[j]).toNat : Int))) := Fr.setCell (S := fun k => k = bx) (p := ⟨bx, j, none⟩) hf (.inl rfl) _
              have j0 : (0 : Int) ≤ (j : Int) := by omega
              have j1 : (j : Int) < 256 := by omega
              generalize ((kb[j]).toNat : Int) = xv at *
              have HS := Lib.hid hnew
              have HF := Lib.hid hfn
              clear hnew hfn
              go_wp2_with fail
              go_roundg (kb.length - (j + 1))
              case measure => omega
              case rel => exact ⟨j + 1, by omega, rfl, by go_num, HS.out, HF.out⟩
            · obtain rfl : j = kb.length := by omega
              rw [part_full] at harr
              have hfl : (full kb).length = 256 := full_len (by omega)
              have la6 := la5.out.fr hf nbl
              have dk6 := dk5.out.fr hf (fun i hi e => hbxS (e ▸ hi))
              have fr6 := fr5.join hf (fun i hi e => by have := hbx.out; omega)
              have z1 : wr.cell? ⟨st, 1, none⟩ = some (.int .i64 ia) := (HB5.out.fr hf nbs).cell 1
              obtain ⟨⟨v, y0⟩, y1⟩ := la6.any hia
              have hcv := run_conv_rd wr 27 9 5 Try.underlying27 Try.underlying5 Try.underlying9 (full kb) (by rw [hfl]; exact harr.rd)
              rw [hfl] at hcv
              have hset := la6.set ia hia (full kb)
              have f7 : Fr (fun i => i = la) wr (wr.setCell ⟨la, ia, none⟩ (.string ⟨(full kb).toArray⟩)) := Fr.setCell (S := fun i => i = la) (p := ⟨la, ia, none⟩) (Fr.refl _ wr) (.inl rfl) _
              have hT : SW w d la (q ++ [(ia, full kb)]) (k + 1) S4 (wr.setCell ⟨la, ia, none⟩ (.string ⟨(full kb).toArray⟩)) :=
                ⟨dk6.fr f7 (fun i hi e => hnl4 (e ▸ hi)), by rw [apply_snoc]; exact hset, by simp; omega, hup4, fr6.join f7 (fun i hi e => by omega), hnl4, hul4⟩
              have HT := Lib.hid hT
              have HC : Hid _ := Lib.hid hf
              have i0 : (0 : Int) ≤ (ia : Int) := by omega
              have i1 : (ia : Int) < 4 := by omega
              clear hT hset f7 harr dk6 fr6 la6 hf HM
              go_wp2_with fail
              go_roundg (ss.length - (k + 1))
              case measure => omega
              case rel => exact ⟨k + 1, S4, _, by omega, rfl, by go_num, HT.out⟩
        · obtain rfl : k = ss.length := by omega
          have hq := hw.few
          have HR : Hid (S4 w d la q ss.length S 4 (.int .i64 (0 : Nat)) wr) := ⟨0, by omega, rfl, rfl, hw⟩
          clear hw HN2
          go_wp2_with fail
          generalize wr = w6 at *
          go_loopg [14] 4 (fun g v14 wr => S4 w d la q ss.length S g v14 wr)
          case atStart => exact HR.out
          case round =>
            obtain ⟨j, hj, rfl, rfl, hw⟩ := hrel
            by_cases hj4 : j < 4
            · have hjl : j < (apply q (zeros 4)).length := by rw [apply_len, zeros_len]; exact hj4
              obtain ⟨s, hs⟩ : ∃ s, (apply q (zeros 4))[j]? = some s := ⟨_, List.getElem?_eq_getElem hjl⟩
              have hr1 := Lib.hid (read_some j s wr hw.dk hs)
              have HW := Lib.hid hw
              have HS := Lib.hid hs
              clear hw hs
              go_wp2_with fail
              refine hr1.out.mono ?_
              rintro e w7 ⟨y, hy, rfl, rdy, fr7⟩
              have hsl : s.length = 256 := by
                have := rdy.1
                simpa [bv_len] using this
              have cx : ∀ n, (convert 27 9 (.slice (some ⟨y, 0, none⟩) 256 256)).run Try.prog (w7.drewN n) = .ok (.string ⟨s.toArray⟩) (w7.drewN n) := fun n => by
                have := run_conv_rd (w7.drewN n) 27 9 5 Try.underlying27 Try.underlying5 Try.underlying9 s (by rw [hsl]; exact rdy.drewN n)
                rwa [hsl] at this
              have HT := Lib.hid (HW.out.keep fr7)
              have yl := HT.out.last.get HS.out
              have i0 : (0 : Int) ≤ (j : Int) := by omega
              have i1 : (j : Int) < 4 := by omega
              clear rdy fr7 HW hr1
              go_wp2_with fail
              go_quiet (fail)
              go_wp2_with fail
              go_roundg (4 - (j + 1))
              case measure => omega
              case rel => exact ⟨j + 1, by omega, rfl, by go_num, HT.out.keep ((Fr.refl NoB w7).drewN _)⟩
            · obtain rfl : j = 4 := by omega
              have hwt := Lib.hid (waits_any wr hw.dk)
              have HW := Lib.hid hw
              clear hw HR
              go_wp2_with fail
              refine hwt.out.mono ?_
              rintro e w' ⟨rfl, rfl⟩
              by_cases hkeep : 0 ≤ keep ∧ keep ≤ q.length
              · obtain ⟨kp, rfl⟩ := Int.eq_ofNat_of_zero_le hkeep.1
                have hkp : kp ≤ q.length := by omega
                have d0 : decide ((kp : Int) < 0) = false := decide_eq_false (by omega)
                have d1 : decide (q.length < kp) = false := decide_eq_false (by omega)
                clear hkeep
                have HK := Lib.hid hkp
                clear hkp
                have hcr := crash_any kp 9 wr HW.out.dk (by omega)
                have hcf : crashF (zeros 4) q kp 9 = (0, las2F (zeros 4) q kp 9, []) := by
                  have := HK.out
                  unfold crashF
                  rw [if_pos ⟨by omega, by omega, by omega, by omega⟩, Int.toNat_natCast]
                  rfl
                rw [hcf] at hcr
                have HCR := Lib.hid hcr
                clear hcr hcf
                go_wp2_with fail
                refine HCR.out.mono ?_
                rintro e w8 ⟨S8, rfl, dk8, fr8, gr8⟩
                have HD := Lib.hid dk8
                have la8 := Lib.hid (HW.out.last.fr fr8 HW.out.nl)
                have fw8 := Lib.hid (HW.out.fr.up fr8 HW.out.up)
                clear dk8 fr8 gr8 HCR
                go_wp2_with fail
                refine (waits_any w8 HD.out).mono ?_
                have e0 : (([] : List (Nat × List UInt8)).length : Int) = 0 := rfl
                rw [e0]
                clear e0
                rintro e w' ⟨rfl, rfl⟩
                obtain ⟨X, hX⟩ : ∃ X, X = las2F (zeros 4) q kp 9 := ⟨_, rfl⟩
                have hXl : X.length = 4 := by rw [hX, las2F_len, zeros_len]
                have hXq : kp = q.length → X = apply q (zeros 4) := fun e => by rw [hX, e, las2F_whole]
                replace hXq := Lib.hid hXq
                rw [← hX] at HD
                clear hX
                have HP : Hid (S5 w d la (apply q (zeros 4)) X S8 4 (.int .i64 (0 : Nat)) w8) := ⟨0, by omega, rfl, rfl, HD.out, la8.out, fw8.out⟩
                clear HD la8 fw8 HW hwt
                go_wp2_with fail
                go_loopg [18] 4 (fun g v18 wr => S5 w d la (apply q (zeros 4)) X S8 g v18 wr)
                case atStart => exact HP.out
                case round =>
                  obtain ⟨j, hj, rfl, rfl, hdk, hla, hfr⟩ := hrel
                  by_cases hj4 : j < 4
                  · obtain ⟨s, hs⟩ : ∃ s, X[j]? = some s := ⟨_, List.getElem?_eq_getElem (by omega)⟩
                    have hr1 := Lib.hid (read_some j s wr hdk hs)
                    have HS := Lib.hid hs
                    have HD := Lib.hid hdk
                    have HL := Lib.hid hla
                    have HF := Lib.hid hfr
                    clear hdk hla hfr hs
                    go_wp2_with fail
                    refine hr1.out.mono ?_
                    rintro e w9 ⟨y, hy, rfl, rdy, fr9⟩
                    have hr2 := Lib.hid (lasts_some j s w9 (HD.out.fr fr9 (fun _ _ h => h)) HS.out)
                    go_wp2_with fail
                    refine hr2.out.mono ?_
                    rintro e w10 ⟨y', hy', rfl, rdy', fr10⟩
                    have hsl : s.length = 256 := by
                      have := rdy.1
                      simpa [bv_len] using this
                    have rdy2 := rdy.fr fr10 (fun _ _ _ h => h)
                    have cx : ∀ n, (convert 27 9 (.slice (some ⟨y, 0, none⟩) 256 256)).run Try.prog (w10.drewN n) = .ok (.string ⟨s.toArray⟩) (w10.drewN n) := fun n => by
                      have := run_conv_rd (w10.drewN n) 27 9 5 Try.underlying27 Try.underlying5 Try.underlying9 s (by rw [hsl]; exact rdy2.drewN n)
                      rwa [hsl] at this
                    have cy : ∀ n, (convert 27 9 (.slice (some ⟨y', 0, none⟩) 256 256)).run Try.prog (w10.drewN n) = .ok (.string ⟨s.toArray⟩) (w10.drewN n) := fun n => by
                      have := run_conv_rd (w10.drewN n) 27 9 5 Try.underlying27 Try.underlying5 Try.underlying9 s (by rw [hsl]; exact rdy'.drewN n)
                      rwa [hsl] at this
                    have fr11 := fr9.trans fr10
                    have HT : Hid (DiskAt w10 S8 d X [] ∧ LastAt w10 la (apply q (zeros 4)) ∧ Fr NoB w w10) := ⟨HD.out.fr fr11 (fun _ _ h => h), HL.out.fr fr11 (fun h => h), HF.out.trans fr11⟩
                    have i0 : (0 : Int) ≤ (j : Int) := by omega
                    have i1 : (j : Int) < 4 := by omega
                    clear rdy rdy' rdy2 fr9 fr10 fr11 hr1 hr2 HD HF HL
                    by_cases hkn : kp = q.length
                    · have hx := hXq.out hkn
                      have yl := HT.out.2.1.get (by rw [← hx]; exact HS.out)
                      have hb : ((kp : Int) == (q.length : Int)) = true := by simp [hkn]
                      replace hkn := Lib.hid hkn
                      clear hx
                      go_wp2_with fail
                      go_quiet (fail)
                      go_wp2_with fail
                      go_roundg (4 - (j + 1))
                      case measure => omega
                      case rel => exact ⟨j + 1, by omega, rfl, by go_num, HT.out.1.fr ((Fr.refl NoB w10).drewN _) (fun _ _ h => h), HT.out.2.1.fr ((Fr.refl NoB w10).drewN _) (fun h => h), HT.out.2.2.drewN _⟩
                    · have hb : ((kp : Int) == (q.length : Int)) = false := by simp; omega
                      go_wp2_with fail
                      go_quiet (fail)
                      go_wp2_with fail
                      go_roundg (4 - (j + 1))
                      case measure => omega
                      case rel => exact ⟨j + 1, by omega, rfl, by go_num, HT.out.1.fr ((Fr.refl NoB w10).drewN _) (fun _ _ h => h), HT.out.2.1.fr ((Fr.refl NoB w10).drewN _) (fun h => h), HT.out.2.2.drewN _⟩
                  · obtain rfl : j = 4 := by omega
                    go_wp2_with fail
                    refine (speaks_any wr).mono ?_
                    rintro e w12 ⟨rfl, fr12⟩
                    go_wp2_with fail
                    go_ret
                    exact ⟨rfl, hfr.trans fr12⟩
              · obtain ⟨kp, hkpe⟩ : ∃ kp, kp = q.length := ⟨_, rfl⟩
                have hkp : kp ≤ q.length := by omega
                have HK := Lib.hid hkp
                rw [← hkpe]
                by_cases hneg : keep < 0
                · clear hkeep hkp
                  replace hkpe := Lib.hid hkpe
                  have hcr := crash_any kp 9 wr HW.out.dk (by omega)
                  have hcf : crashF (zeros 4) q kp 9 = (0, las2F (zeros 4) q kp 9, []) := by
                    have := HK.out
                    unfold crashF
                    rw [if_pos ⟨by omega, by omega, by omega, by omega⟩, Int.toNat_natCast]
                    rfl
                  rw [hcf] at hcr
                  have HCR := Lib.hid hcr
                  clear hcr hcf
                  go_wp2_with fail
                  refine HCR.out.mono ?_
                  rintro e w8 ⟨S8, rfl, dk8, fr8, gr8⟩
                  have HD := Lib.hid dk8
                  have la8 := Lib.hid (HW.out.last.fr fr8 HW.out.nl)
                  have fw8 := Lib.hid (HW.out.fr.up fr8 HW.out.up)
                  clear dk8 fr8 gr8 HCR
                  go_wp2_with fail
                  refine (waits_any w8 HD.out).mono ?_
                  have e0 : (([] : List (Nat × List UInt8)).length : Int) = 0 := rfl
                  rw [e0]
                  clear e0
                  rintro e w' ⟨rfl, rfl⟩
                  obtain ⟨X, hX⟩ : ∃ X, X = las2F (zeros 4) q kp 9 := ⟨_, rfl⟩
                  have hXl : X.length = 4 := by rw [hX, las2F_len, zeros_len]
                  have hXq : kp = q.length → X = apply q (zeros 4) := fun e => by rw [hX, e, las2F_whole]
                  replace hXq := Lib.hid hXq
                  rw [← hX] at HD
                  clear hX
                  have HP : Hid (S5 w d la (apply q (zeros 4)) X S8 4 (.int .i64 (0 : Nat)) w8) := ⟨0, by omega, rfl, rfl, HD.out, la8.out, fw8.out⟩
                  clear HD la8 fw8 HW hwt
                  go_wp2_with fail
                  go_loopg [18] 4 (fun g v18 wr => S5 w d la (apply q (zeros 4)) X S8 g v18 wr)
                  case atStart => exact HP.out
                  case round =>
                    obtain ⟨j, hj, rfl, rfl, hdk, hla, hfr⟩ := hrel
                    by_cases hj4 : j < 4
                    · obtain ⟨s, hs⟩ : ∃ s, X[j]? = some s := ⟨_, List.getElem?_eq_getElem (by omega)⟩
                      have hr1 := Lib.hid (read_some j s wr hdk hs)
                      have HS := Lib.hid hs
                      have HD := Lib.hid hdk
                      have HL := Lib.hid hla
                      have HF := Lib.hid hfr
                      clear hdk hla hfr hs
                      go_wp2_with fail
                      refine hr1.out.mono ?_
                      rintro e w9 ⟨y, hy, rfl, rdy, fr9⟩
                      have hr2 := Lib.hid (lasts_some j s w9 (HD.out.fr fr9 (fun _ _ h => h)) HS.out)
                      go_wp2_with fail
                      refine hr2.out.mono ?_
                      rintro e w10 ⟨y', hy', rfl, rdy', fr10⟩
                      have hsl : s.length = 256 := by
                        have := rdy.1
                        simpa [bv_len] using this
                      have rdy2 := rdy.fr fr10 (fun _ _ _ h => h)
                      have cx : ∀ n, (convert 27 9 (.slice (some ⟨y, 0, none⟩) 256 256)).run Try.prog (w10.drewN n) = .ok (.string ⟨s.toArray⟩) (w10.drewN n) := fun n => by
                        have := run_conv_rd (w10.drewN n) 27 9 5 Try.underlying27 Try.underlying5 Try.underlying9 s (by rw [hsl]; exact rdy2.drewN n)
                        rwa [hsl] at this
                      have cy : ∀ n, (convert 27 9 (.slice (some ⟨y', 0, none⟩) 256 256)).run Try.prog (w10.drewN n) = .ok (.string ⟨s.toArray⟩) (w10.drewN n) := fun n => by
                        have := run_conv_rd (w10.drewN n) 27 9 5 Try.underlying27 Try.underlying5 Try.underlying9 s (by rw [hsl]; exact rdy'.drewN n)
                        rwa [hsl] at this
                      have fr11 := fr9.trans fr10
                      have HT : Hid (DiskAt w10 S8 d X [] ∧ LastAt w10 la (apply q (zeros 4)) ∧ Fr NoB w w10) := ⟨HD.out.fr fr11 (fun _ _ h => h), HL.out.fr fr11 (fun h => h), HF.out.trans fr11⟩
                      have i0 : (0 : Int) ≤ (j : Int) := by omega
                      have i1 : (j : Int) < 4 := by omega
                      clear rdy rdy' rdy2 fr9 fr10 fr11 hr1 hr2 HD HF HL
                      by_cases hkn : kp = q.length
                      · have hx := hXq.out hkn
                        have yl := HT.out.2.1.get (by rw [← hx]; exact HS.out)
                        have hb : ((kp : Int) == (kp : Int)) = true := by simp [hkn]
                        replace hkn := Lib.hid hkn
                        clear hx
                        go_wp2_with fail
                        go_quiet (fail)
                        go_wp2_with fail
                        go_roundg (4 - (j + 1))
                        case measure => omega
                        case rel => exact ⟨j + 1, by omega, rfl, by go_num, HT.out.1.fr ((Fr.refl NoB w10).drewN _) (fun _ _ h => h), HT.out.2.1.fr ((Fr.refl NoB w10).drewN _) (fun h => h), HT.out.2.2.drewN _⟩
                      · exact (hkn hkpe.out).elim
                    · obtain rfl : j = 4 := by omega
                      go_wp2_with fail
                      refine (speaks_any wr).mono ?_
                      rintro e w12 ⟨rfl, fr12⟩
                      go_wp2_with fail
                      go_ret
                      exact ⟨rfl, hfr.trans fr12⟩
                · have hpos : (kp : Int) < keep := by omega
                  clear hkeep hkp
                  replace hkpe := Lib.hid hkpe
                  have hcr := crash_any kp 9 wr HW.out.dk (by omega)
                  have hcf : crashF (zeros 4) q kp 9 = (0, las2F (zeros 4) q kp 9, []) := by
                    have := HK.out
                    unfold crashF
                    rw [if_pos ⟨by omega, by omega, by omega, by omega⟩, Int.toNat_natCast]
                    rfl
                  rw [hcf] at hcr
                  have HCR := Lib.hid hcr
                  clear hcr hcf
                  go_wp2_with fail
                  refine HCR.out.mono ?_
                  rintro e w8 ⟨S8, rfl, dk8, fr8, gr8⟩
                  have HD := Lib.hid dk8
                  have la8 := Lib.hid (HW.out.last.fr fr8 HW.out.nl)
                  have fw8 := Lib.hid (HW.out.fr.up fr8 HW.out.up)
                  clear dk8 fr8 gr8 HCR
                  go_wp2_with fail
                  refine (waits_any w8 HD.out).mono ?_
                  have e0 : (([] : List (Nat × List UInt8)).length : Int) = 0 := rfl
                  rw [e0]
                  clear e0
                  rintro e w' ⟨rfl, rfl⟩
                  obtain ⟨X, hX⟩ : ∃ X, X = las2F (zeros 4) q kp 9 := ⟨_, rfl⟩
                  have hXl : X.length = 4 := by rw [hX, las2F_len, zeros_len]
                  have hXq : kp = q.length → X = apply q (zeros 4) := fun e => by rw [hX, e, las2F_whole]
                  replace hXq := Lib.hid hXq
                  rw [← hX] at HD
                  clear hX
                  have HP : Hid (S5 w d la (apply q (zeros 4)) X S8 4 (.int .i64 (0 : Nat)) w8) := ⟨0, by omega, rfl, rfl, HD.out, la8.out, fw8.out⟩
                  clear HD la8 fw8 HW hwt
                  go_wp2_with fail
                  go_loopg [18] 4 (fun g v18 wr => S5 w d la (apply q (zeros 4)) X S8 g v18 wr)
                  case atStart => exact HP.out
                  case round =>
                    obtain ⟨j, hj, rfl, rfl, hdk, hla, hfr⟩ := hrel
                    by_cases hj4 : j < 4
                    · obtain ⟨s, hs⟩ : ∃ s, X[j]? = some s := ⟨_, List.getElem?_eq_getElem (by omega)⟩
                      have hr1 := Lib.hid (read_some j s wr hdk hs)
                      have HS := Lib.hid hs
                      have HD := Lib.hid hdk
                      have HL := Lib.hid hla
                      have HF := Lib.hid hfr
                      clear hdk hla hfr hs
                      go_wp2_with fail
                      refine hr1.out.mono ?_
                      rintro e w9 ⟨y, hy, rfl, rdy, fr9⟩
                      have hr2 := Lib.hid (lasts_some j s w9 (HD.out.fr fr9 (fun _ _ h => h)) HS.out)
                      go_wp2_with fail
                      refine hr2.out.mono ?_
                      rintro e w10 ⟨y', hy', rfl, rdy', fr10⟩
                      have hsl : s.length = 256 := by
                        have := rdy.1
                        simpa [bv_len] using this
                      have rdy2 := rdy.fr fr10 (fun _ _ _ h => h)
                      have cx : ∀ n, (convert 27 9 (.slice (some ⟨y, 0, none⟩) 256 256)).run Try.prog (w10.drewN n) = .ok (.string ⟨s.toArray⟩) (w10.drewN n) := fun n => by
                        have := run_conv_rd (w10.drewN n) 27 9 5 Try.underlying27 Try.underlying5 Try.underlying9 s (by rw [hsl]; exact rdy2.drewN n)
                        rwa [hsl] at this
                      have cy : ∀ n, (convert 27 9 (.slice (some ⟨y', 0, none⟩) 256 256)).run Try.prog (w10.drewN n) = .ok (.string ⟨s.toArray⟩) (w10.drewN n) := fun n => by
                        have := run_conv_rd (w10.drewN n) 27 9 5 Try.underlying27 Try.underlying5 Try.underlying9 s (by rw [hsl]; exact rdy'.drewN n)
                        rwa [hsl] at this
                      have fr11 := fr9.trans fr10
                      have HT : Hid (DiskAt w10 S8 d X [] ∧ LastAt w10 la (apply q (zeros 4)) ∧ Fr NoB w w10) := ⟨HD.out.fr fr11 (fun _ _ h => h), HL.out.fr fr11 (fun h => h), HF.out.trans fr11⟩
                      have i0 : (0 : Int) ≤ (j : Int) := by omega
                      have i1 : (j : Int) < 4 := by omega
                      clear rdy rdy' rdy2 fr9 fr10 fr11 hr1 hr2 HD HF HL
                      by_cases hkn : kp = q.length
                      · have hx := hXq.out hkn
                        have yl := HT.out.2.1.get (by rw [← hx]; exact HS.out)
                        have hb : ((kp : Int) == (kp : Int)) = true := by simp [hkn]
                        replace hkn := Lib.hid hkn
                        clear hx
                        go_wp2_with fail
                        go_quiet (fail)
                        go_wp2_with fail
                        go_roundg (4 - (j + 1))
                        case measure => omega
                        case rel => exact ⟨j + 1, by omega, rfl, by go_num, HT.out.1.fr ((Fr.refl NoB w10).drewN _) (fun _ _ h => h), HT.out.2.1.fr ((Fr.refl NoB w10).drewN _) (fun h => h), HT.out.2.2.drewN _⟩
                      · exact (hkn hkpe.out).elim
                    · obtain rfl : j = 4 := by omega
                      go_wp2_with fail
                      refine (speaks_any wr).mono ?_
                      rintro e w12 ⟨rfl, fr12⟩
                      go_wp2_with fail
                      go_ret
                      exact ⟨rfl, hfr.trans fr12⟩
end Go.Proofs.Ytghddmdehbacaaa
