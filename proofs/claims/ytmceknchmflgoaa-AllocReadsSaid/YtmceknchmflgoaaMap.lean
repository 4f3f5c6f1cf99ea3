/- A map of pages in memory; contracts of there, Has, turn, set, Mark, Free. -/
import Derived.Test.YtmceknchmflgoaaBits
namespace Go.Proofs.Ytmceknchmflgoaa
open Go.RowKit

structure MapAt (w : World) (S : Nat → Prop) (m : Nat) (us : List Bool) : Prop where
  ex : ∃ g bs, Bk w m 49 #[.int .i64 us.length, .slice (some ⟨g, 0, none⟩) bs.length bs.length] ∧ Bk w g 5 (bv bs).toArray ∧ Bits bs us ∧ S g
  own : S m
  lt : ∀ k, S k → k < w.heap.size
  pos : 0 < us.length
  few : us.length ≤ 4096

def Gr (S S' : Nat → Prop) (w : World) : Prop := ∀ k, S' k → S k ∨ w.heap.size ≤ k
def Up (B : Nat) (S : Nat → Prop) : Prop := ∀ k, S k → B ≤ k
theorem Fr.up {S : Nat → Prop} {w w1 w2 : World} (h : Fr NoB w w1) (k : Fr S w1 w2) (hu : Up w.heap.size S) : Fr NoB w w2 :=
  h.join k fun j hj hs => by have := hu j hs; omega

theorem MapAt.fr {S T : Nat → Prop} {w w1 : World} {m : Nat} {us : List Bool} (h : MapAt w S m us) (hf : Fr T w w1) (hn : ∀ k, S k → ¬ T k) : MapAt w1 S m us := by
  obtain ⟨⟨g, bs, hb, hg, hbits, hS⟩, ho, hlt, hp, hw⟩ := h
  refine ⟨⟨g, bs, hb.fr hf (hn m ho), hg.fr hf (hn g hS), hbits, hS⟩, ho, fun k hk => ?_, hp, hw⟩
  have := hlt k hk
  have := hf.size
  omega

def isPage (m : Nat) (i : Int) : Bool := decide (1 ≤ i ∧ i ≤ m)

theorem there_any {S : Nat → Prop} {m : Nat} {us : List Bool} (i : Int) (w : World) (h : MapAt w S m us) :
    Calls Try.prog 26 #[.pointer (some ⟨m, 0, none⟩), .int .i64 i] w fun e w' => e = .returned (.bool (isPage us.length i)) ∧ w = w' := by
  obtain ⟨⟨g, bs, hb, _⟩, _⟩ := h
  have c0 : w.cell? ⟨m, 0, none⟩ = some (.int .i64 us.length) := hb.cell 0
  clear hb
  by_cases h1 : 1 ≤ i
  · by_cases h2 : i ≤ us.length
    · go_enter Try.func26, Try.ntmps26
      go_wp2
      go_ret
      exact ⟨by simp [isPage, h1, h2], rfl⟩
    · go_enter Try.func26, Try.ntmps26
      go_wp2
      go_ret
      exact ⟨by simp [isPage, h1]; omega, rfl⟩
  · have h1' : decide (1 ≤ i) = false := by simpa using h1
    go_enter Try.func26, Try.ntmps26
    go_wp2
    go_ret
    exact ⟨by simp [isPage]; omega, rfl⟩
theorem there_nil (i : Int) (w : World) : Calls Try.prog 26 #[.pointer none, .int .i64 i] w fun e w' => e = .returned (.bool false) ∧ w = w' := by
  go_enter Try.func26, Try.ntmps26
  go_wp2
  go_ret
  exact ⟨rfl, rfl⟩

/-- Is page i in use? -/
def hasU (us : List Bool) (i : Int) : Bool := isPage us.length i && us[(i - 1).toNat]?.getD false
theorem isPage_nat {m k : Nat} (h : k < m) : isPage m ((k : Int) + 1) = true := decide_eq_true (by omega)
theorem hasU_nat {us : List Bool} {k : Nat} (h : k < us.length) : hasU us ((k : Int) + 1) = us[k] := by
  unfold hasU
  rw [isPage_nat h, Bool.true_and, show ((k : Int) + 1 - 1).toNat = k by omega, List.getElem?_eq_getElem h]
  rfl
theorem page_of {m : Nat} {i : Int} (h : isPage m i = true) : ∃ k : Nat, i = (k : Int) + 1 ∧ k < m := by
  have := of_decide_eq_true h
  exact ⟨(i - 1).toNat, by omega, by omega⟩

theorem bs_cell {bs : List UInt8} {w : World} {g : Nat} (h : Bk w g 5 (bv bs).toArray) {k : Nat} (hk : k < bs.length) : w.cell? ⟨g, k, none⟩ = some (.int .u8 ((bs[k]?.getD 0).toNat : Int)) := by
  rw [h.cell, List.getElem?_eq_getElem hk]
  simp [bv, hk]

theorem has_any {S : Nat → Prop} {m : Nat} {us : List Bool} (i : Int) (w : World) (h : MapAt w S m us) :
    Calls Try.prog 15 #[.pointer (some ⟨m, 0, none⟩), .int .i64 i] w fun e w' => e = .returned (.bool (hasU us i)) ∧ w = w' := by
  have hth := there_any i w h
  by_cases hi : isPage us.length i = true
  · obtain ⟨k, rfl, hk⟩ := page_of hi
    rw [hi] at hth
    rw [hasU_nat hk]
    obtain ⟨⟨g, bs, hb, hg, hbits, _⟩, _, _, hp, hw⟩ := h
    have c1 : w.cell? ⟨m, 1, none⟩ = some (.slice (some ⟨g, 0, none⟩) bs.length bs.length) := hb.cell 1
    have hk8 := hbits.byte hk
    have hz := bs_cell hg hk8
    have hbit := hbits.get hk
    have hand := and_bit ⟨(bs[k / 8]?.getD 0).toNat, UInt8.toNat_lt _⟩ ⟨k % 8, Nat.mod_lt _ (by omega)⟩
    simp only [] at hand
    rw [hbit] at hand
    have hlt := UInt8.toNat_lt (bs[k / 8]?.getD 0)
    have hs : IntKind.i64.wrap ((k : Int) + 1 - 1) = k := by rw [IntKind.wrap_i64]; omega
    have hq0 : (k : Int).tdiv 8 = (k / 8 : Nat) := (Int.ofNat_tdiv k 8).symm
    have hq1 : (k : Int).tmod 8 = (k % 8 : Nat) := (Int.ofNat_tmod k 8).symm
    have hw0 : IntKind.i64.wrap (k : Int) = k := by rw [IntKind.wrap_i64]; omega
    have hw1 : IntKind.i64.wrap ((k : Int) / 8) = (k : Int) / 8 := by rw [IntKind.wrap_i64]; omega
    have hw2 : IntKind.i64.wrap ((k : Int) % 8) = (k : Int) % 8 := by rw [IntKind.wrap_i64]; omega
    generalize (bs[k / 8]?.getD 0).toNat = x at *
    have HA := Lib.hid hand
    clear hb hg hbit hbits hand
    go_enter Try.func15, Try.ntmps15
    go_wp2_with fail
    refine hth.mono ?_
    rintro e w' ⟨rfl, rfl⟩
    go_wp2_with fail
    go_ret
    exact ⟨by rw [← HA.out]; rfl, rfl⟩
  · have hi' : isPage us.length i = false := by simpa using hi
    rw [hi'] at hth
    have e : hasU us i = false := by simp [hasU, hi']
    rw [e]
    clear h hi
    go_enter Try.func15, Try.ntmps15
    go_wp2_with fail
    refine hth.mono ?_
    rintro e w' ⟨rfl, rfl⟩
    go_wp2_with fail
    go_ret
    exact ⟨rfl, rfl⟩
theorem has_nil (i : Int) (w : World) : Calls Try.prog 15 #[.pointer none, .int .i64 i] w fun e w' => e = .returned (.bool false) ∧ w = w' := by
  go_enter Try.func15, Try.ntmps15
  go_wp2_with fail
  refine (there_nil i w).mono ?_
  rintro e w' ⟨rfl, rfl⟩
  go_wp2_with fail
  go_ret
  exact ⟨rfl, rfl⟩

/-- turn: page k's bit. -/
theorem turn_any {S : Nat → Prop} {m : Nat} {us : List Bool} (k : Nat) (w : World) (h : MapAt w S m us) (hk : k < us.length) :
    Calls Try.prog 24 #[.pointer (some ⟨m, 0, none⟩), .int .i64 ((k : Int) + 1)] w fun e w' => e = .returned (.tuple #[]) ∧ MapAt w' S m (us.set k (!us[k])) ∧ Fr S w w' := by
  obtain ⟨⟨g, bs, hb, hg, hbits, hSg⟩, ho, hlt', hp, hw⟩ := h
  have c1 : w.cell? ⟨m, 1, none⟩ = some (.slice (some ⟨g, 0, none⟩) bs.length bs.length) := hb.cell 1
  have hk8 := hbits.byte hk
  have hz := bs_cell hg hk8
  have zf := hg.frozen (k / 8)
  have hxor := xor_tog ⟨(bs[k / 8]?.getD 0).toNat, UInt8.toNat_lt _⟩ ⟨k % 8, Nat.mod_lt _ (by omega)⟩
  have htl := tog_lt ⟨(bs[k / 8]?.getD 0).toNat, UInt8.toNat_lt _⟩ ⟨k % 8, Nat.mod_lt _ (by omega)⟩
  simp only [] at hxor htl
  have hlt := UInt8.toNat_lt (bs[k / 8]?.getD 0)
  have hs : IntKind.i64.wrap ((k : Int) + 1 - 1) = k := by rw [IntKind.wrap_i64]; omega
  have hq0 : (k : Int).tdiv 8 = (k / 8 : Nat) := (Int.ofNat_tdiv k 8).symm
  have hq1 : (k : Int).tmod 8 = (k % 8 : Nat) := (Int.ofNat_tmod k 8).symm
  have hw0 : IntKind.i64.wrap (k : Int) = k := by rw [IntKind.wrap_i64]; omega
  have hw1 : IntKind.i64.wrap ((k : Int) / 8) = (k : Int) / 8 := by rw [IntKind.wrap_i64]; omega
  have hw2 : IntKind.i64.wrap ((k : Int) % 8) = (k : Int) % 8 := by rw [IntKind.wrap_i64]; omega
  have hpw : IntKind.u8.wrap ((2 : Int) ^ (k % 8)) = (2 : Int) ^ (k % 8) := by
    have : ∀ j : Fin 8, IntKind.u8.wrap ((2 : Int) ^ j.val) = (2 : Int) ^ j.val := by decide
    exact this ⟨k % 8, Nat.mod_lt _ (by omega)⟩
  have i0 : (0 : Int) ≤ (k : Int) / 8 := by omega
  have i1 : (k : Int) / 8 < (bs.length : Int) := by omega
  have hto : ((k : Int) / 8).toNat = k / 8 := by omega
  have hto2 : ((k : Int) % 8).toNat = k % 8 := by omega
  have hturn := hbits.turn hk
  have hval : Value.int .u8 (bits BinOp.xor IntKind.u8 ((bs[k / 8]?.getD 0).toNat : Int) (2 ^ (k % 8))) = .int .u8 ((UInt8.ofNat (tog (bs[k / 8]?.getD 0).toNat (k % 8))).toNat : Int) := by
    rw [hxor, UInt8.toNat_ofNat_of_lt' (by simpa using htl)]
  have HV := Lib.hid hval
  have HT := Lib.hid hturn
  have HB := Lib.hid hb
  have HG := Lib.hid hg
  generalize (bs[k / 8]?.getD 0) = x at *
  clear hb hg hbits hxor hval hturn
  go_enter Try.func24, Try.ntmps24
  go_wp2_with fail
  refine wp_region_plan 15 (fun w' => w'.cell? ⟨m, 1, none⟩ = some (.slice (some ⟨g, 0, none⟩) bs.length bs.length) ∧ w'.cell? ⟨g, k / 8, none⟩ = some (.int .u8 (x.toNat : Int)))
    [(0, 0), (1, 0), (2, 0), (3, 1), (4, 0), (5, 0), (6, 0), (7, 0), (8, 1), (9, 0), (10, 0), (11, 0), (12, 0), (13, 0), (14, 0), (15, 2)] (by kernel_rfl) (by kernel_rfl) (fun _ _ _ _ _ h => h) ⟨c1, hz⟩ ?_
  refine wpPlan_free _ ?_ rfl (by rfl) (fun w' => ?_) ?_
  rotate_left
  · go_simp; with_reducible rfl
  simp only [Act.put, List.setIfInBounds_toArray, List.set_cons_zero, List.set_cons_succ]
  refine wpPlan_free _ ?_ rfl (by rfl) (fun w' => ?_) ?_
  rotate_left
  · go_simp; with_reducible rfl
  simp only [Act.put, List.setIfInBounds_toArray, List.set_cons_zero, List.set_cons_succ]
  refine wpPlan_free _ ?_ rfl (by rfl) (fun w' => ?_) ?_
  rotate_left
  · go_simp; with_reducible rfl
  simp only [Act.put, List.setIfInBounds_toArray, List.set_cons_zero, List.set_cons_succ]
  refine wpPlan_held _ ?_ rfl (by rfl) (fun w' hS => ?_) ?_
  rotate_left
  · obtain ⟨e0, e1⟩ := hS; go_simp; with_reducible rfl
  simp only [Act.put, List.setIfInBounds_toArray, List.set_cons_zero, List.set_cons_succ]
  refine wpPlan_free _ ?_ rfl (by rfl) (fun w' => ?_) ?_
  rotate_left
  · go_simp; with_reducible rfl
  simp only [Act.put, List.setIfInBounds_toArray, List.set_cons_zero, List.set_cons_succ]
  refine wpPlan_free _ ?_ rfl (by rfl) (fun w' => ?_) ?_
  rotate_left
  · go_simp; with_reducible rfl
  simp only [Act.put, List.setIfInBounds_toArray, List.set_cons_zero, List.set_cons_succ]
  refine wpPlan_free _ ?_ rfl (by rfl) (fun w' => ?_) ?_
  rotate_left
  · go_simp; with_reducible rfl
  simp only [Act.put, List.setIfInBounds_toArray, List.set_cons_zero, List.set_cons_succ]
  refine wpPlan_free _ ?_ rfl (by rfl) (fun w' => ?_) ?_
  rotate_left
  · go_simp; with_reducible rfl
  simp only [Act.put, List.setIfInBounds_toArray, List.set_cons_zero, List.set_cons_succ]
  refine wpPlan_held _ ?_ rfl (by rfl) (fun w' hS => ?_) ?_
  rotate_left
  · obtain ⟨e0, e1⟩ := hS; go_simp; with_reducible rfl
  simp only [Act.put, List.setIfInBounds_toArray, List.set_cons_zero, List.set_cons_succ]
  refine wpPlan_free _ ?_ rfl (by rfl) (fun w' => ?_) ?_
  rotate_left
  · go_simp; with_reducible rfl
  simp only [Act.put, List.setIfInBounds_toArray, List.set_cons_zero, List.set_cons_succ]
  refine wpPlan_free _ ?_ rfl (by rfl) (fun w' => ?_) ?_
  rotate_left
  · go_simp; with_reducible rfl
  simp only [Act.put, List.setIfInBounds_toArray, List.set_cons_zero, List.set_cons_succ]
  refine wpPlan_free _ ?_ rfl (by rfl) (fun w' => ?_) ?_
  rotate_left
  · go_simp; with_reducible rfl
  simp only [Act.put, List.setIfInBounds_toArray, List.set_cons_zero, List.set_cons_succ]
  refine wpPlan_free _ ?_ rfl (by rfl) (fun w' => ?_) ?_
  rotate_left
  · go_simp; with_reducible rfl
  simp only [Act.put, List.setIfInBounds_toArray, List.set_cons_zero, List.set_cons_succ]
  refine wpPlan_free _ ?_ rfl (by rfl) (fun w' => ?_) ?_
  rotate_left
  · go_simp; with_reducible rfl
  simp only [Act.put, List.setIfInBounds_toArray, List.set_cons_zero, List.set_cons_succ]
  refine wpPlan_free _ ?_ rfl (by rfl) (fun w' => ?_) ?_
  rotate_left
  · go_simp; with_reducible rfl
  simp only [Act.put, List.setIfInBounds_toArray, List.set_cons_zero, List.set_cons_succ]
  refine wpPlan_do _ rfl (fun K hK => ?_)
  go_simp
  refine hK _ _ (fun h => by cases h) ?_
  clear hK K
  refine wpPlan_nil ?_
  rw [HV.out]
  have g2 := HG.out.set (k / 8) (.int .u8 ((UInt8.ofNat (tog x.toNat (k % 8))).toNat : Int))
  have f2 : Fr (fun j => j = g) w (w.setCell ⟨g, k / 8, none⟩ (.int .u8 ((UInt8.ofNat (tog x.toNat (k % 8))).toNat : Int))) := Fr.setCell (S := fun j => j = g) (p := ⟨g, k / 8, none⟩) (Fr.refl _ w) (.inl rfl) _
  have nmg : m ≠ g := HB.out.types HG.out (by decide)
  have b2 := HB.out.fr f2 nmg
  have hset : (bv bs).toArray.setIfInBounds (k / 8) (.int .u8 ((UInt8.ofNat (tog x.toNat (k % 8))).toNat : Int)) = (bv (bs.set (k / 8) (UInt8.ofNat (tog x.toNat (k % 8))))).toArray := by
    simp [bv, List.map_set]
  rw [hset] at g2
  have hz2 := f2.size
  refine bodyPost_end (v := .tuple #[]) ?_ rfl ?_
  · simp [results, Try.results24, go_sem]
  · refine ⟨rfl, ⟨⟨g, bs.set (k / 8) (UInt8.ofNat (tog x.toNat (k % 8))), ?_, g2.drew, HT.out, hSg⟩, ho, fun j hj => ?_, by simpa using hp, by simpa using hw⟩, (f2.mono (fun j _ e => by subst e; exact hSg)).drew⟩
    · rw [List.length_set, List.length_set]
      exact b2.drew
    · have := hlt' j hj
      show j < (w.setCell ⟨g, k / 8, none⟩ _).heap.size
      omega

theorem not_of_ne : ∀ {a b : Bool}, a ≠ b → (!a) = b := by decide

def setF (us : List Bool) (i : Int) (used : Bool) : Int × List Bool :=
  if isPage us.length i = true then if hasU us i = used then (7, us) else (0, us.set (i - 1).toNat used) else (6, us)
def SetPost (S : Nat → Prop) (m : Nat) (r : Int × List Bool) (w : World) (e : Ending) (w' : World) : Prop := e = .returned (.int .i64 r.1) ∧ MapAt w' S m r.2 ∧ Fr S w w'

theorem set_any {S : Nat → Prop} {m : Nat} {us : List Bool} (i : Int) (used : Bool) (w : World) (h : MapAt w S m us) :
    Calls Try.prog 25 #[.pointer (some ⟨m, 0, none⟩), .int .i64 i, .bool used] w (SetPost S m (setF us i used) w) := by
  have hth := there_any i w h
  have hha := has_any i w h
  have H := Lib.hid h
  unfold setF
  by_cases hi : isPage us.length i = true
  · rw [if_pos hi]
    rw [hi] at hth
    by_cases hu : hasU us i = used
    · rw [if_pos hu]
      subst hu
      clear h
      generalize hasU us i = u at *
      go_enter Try.func25, Try.ntmps25
      go_wp2_with fail
      refine hth.mono ?_
      rintro e w' ⟨rfl, rfl⟩
      go_wp2_with fail
      refine hha.mono ?_
      rintro e w' ⟨rfl, rfl⟩
      go_wp2_with fail
      go_ret
      exact ⟨rfl, H.out, Fr.refl _ _⟩
    · rw [if_neg hu]
      obtain ⟨k, rfl, hk⟩ := page_of hi
      have htu := turn_any k w h hk
      rw [hasU_nat hk] at hu hha
      have hneg : (!us[k]) = used := not_of_ne hu
      rw [hneg] at htu
      have hb : (us[k] == used) = false := by simpa using hu
      have e1 : ((k : Int) + 1 - 1).toNat = k := by omega
      rw [e1]
      clear h hi hu hneg
      generalize us[k] = u at *
      go_enter Try.func25, Try.ntmps25
      go_wp2_with fail
      refine hth.mono ?_
      rintro e w' ⟨rfl, rfl⟩
      go_wp2_with fail
      refine hha.mono ?_
      rintro e w' ⟨rfl, rfl⟩
      go_wp2_with fail
      refine htu.mono ?_
      rintro e w' ⟨rfl, h1, h2⟩
      go_wp2_with fail
      go_ret
      exact ⟨rfl, h1, h2⟩
  · rw [if_neg hi]
    have hi' : isPage us.length i = false := by simpa using hi
    rw [hi'] at hth
    clear h hi hha
    go_enter Try.func25, Try.ntmps25
    go_wp2_with fail
    refine hth.mono ?_
    rintro e w' ⟨rfl, rfl⟩
    go_wp2_with fail
    go_ret
    exact ⟨rfl, H.out, Fr.refl _ _⟩
theorem set_nil (i : Int) (used : Bool) (w : World) : Calls Try.prog 25 #[.pointer none, .int .i64 i, .bool used] w fun e w' => e = .returned (.int .i64 6) ∧ w = w' := by
  go_enter Try.func25, Try.ntmps25
  go_wp2_with fail
  refine (there_nil i w).mono ?_
  rintro e w' ⟨rfl, rfl⟩
  go_wp2_with fail
  go_ret
  exact ⟨rfl, rfl⟩
theorem mark_any {S : Nat → Prop} {m : Nat} {us : List Bool} (i : Int) (w : World) (h : MapAt w S m us) :
    Calls Try.prog 12 #[.pointer (some ⟨m, 0, none⟩), .int .i64 i] w (SetPost S m (setF us i true) w) := by
  have hs := set_any i true w h
  clear h
  go_enter Try.func12, Try.ntmps12
  go_wp2_with fail
  refine hs.mono ?_
  rintro e w' ⟨rfl, h1, h2⟩
  go_wp2_with fail
  go_ret
  exact ⟨rfl, h1, h2⟩
theorem free_any {S : Nat → Prop} {m : Nat} {us : List Bool} (i : Int) (w : World) (h : MapAt w S m us) :
    Calls Try.prog 14 #[.pointer (some ⟨m, 0, none⟩), .int .i64 i] w (SetPost S m (setF us i false) w) := by
  have hs := set_any i false w h
  clear h
  go_enter Try.func14, Try.ntmps14
  go_wp2_with fail
  refine hs.mono ?_
  rintro e w' ⟨rfl, h1, h2⟩
  go_wp2_with fail
  go_ret
  exact ⟨rfl, h1, h2⟩
theorem mark_nil (i : Int) (w : World) : Calls Try.prog 12 #[.pointer none, .int .i64 i] w fun e w' => e = .returned (.int .i64 6) ∧ w = w' := by
  go_enter Try.func12, Try.ntmps12
  go_wp2_with fail
  refine (set_nil i true w).mono ?_
  rintro e w' ⟨rfl, rfl⟩
  go_wp2_with fail
  go_ret
  exact ⟨rfl, rfl⟩
theorem free_nil (i : Int) (w : World) : Calls Try.prog 14 #[.pointer none, .int .i64 i] w fun e w' => e = .returned (.int .i64 6) ∧ w = w' := by
  go_enter Try.func14, Try.ntmps14
  go_wp2_with fail
  refine (set_nil i false w).mono ?_
  rintro e w' ⟨rfl, rfl⟩
  go_wp2_with fail
  go_ret
  exact ⟨rfl, rfl⟩
end Go.Proofs.Ytmceknchmflgoaa
