/- The document's pool: memory, find, New, Pins, need, Flush, Unpin. -/
import Derived.Test.YtmbabgaanpjmpaaPins
namespace Go.Proofs.Ytmbabgaanpjmpaa
open Go.RowKit

theorem info72 : (Try.prog.info? 72).map (fun i => (i.zero, i.size, i.bytes)) = some (some (.agg #[.int .i64 0, .int .i64 0, .int .i64 0, .int .i64 0, .bool false]), 5, 40) := by kernel_rfl
def rc (f : Frm) : List Value := [.int .i64 f.page, .int .i64 f.pins, .int .i64 f.lsn, .int .i64 f.first, .bool f.dirty]
def rcells (L : List Frm) : List Value := (L.map rc).flatten
theorem rc_len (L : List Frm) : ∀ cs ∈ L.map rc, cs.length = 5 := by
  intro cs hcs
  obtain ⟨m, _, rfl⟩ := List.mem_map.1 hcs
  rfl
theorem rcells_len (L : List Frm) : (rcells L).length = L.length * 5 := by
  unfold rcells
  rw [flat_len (rc_len L), List.length_map]
theorem rcells_snoc (L : List Frm) (f : Frm) : rcells L ++ rc f = rcells (L ++ [f]) := by simp [rcells]
theorem rcells_get {L : List Frm} {j i : Nat} {u : Value} (hj : j < L.length) (hu : (rc L[j])[i]? = some u) (hi : i < 5) : (rcells L)[j * 5 + i]? = some u := by
  unfold rcells
  rw [flat_get (cs := rc L[j]) (rc_len L) (by simp [hj]) hi]
  exact hu
theorem rcells_set {L : List Frm} {j i : Nat} {v : Value} {f' : Frm} (hj : j < L.length) (hi : i < 5) (hc : rc f' = (rc L[j]).set i v) : (rcells L).set (j * 5 + i) v = rcells (L.set j f') := by
  have hl : ∀ f : Frm, (rc f).length = 5 := fun f => rfl
  apply List.ext_getElem?
  intro m
  by_cases hm : m < L.length * 5
  · have hq : m / 5 < L.length := by omega
    have e : m = m / 5 * 5 + m % 5 := by omega
    have hr : m % 5 < 5 := by omega
    have hq' : m / 5 < (L.set j f').length := by rw [List.length_set]; exact hq
    have e2 : (rcells (L.set j f'))[m]? = (rc ((L.set j f')[m / 5]))[m % 5]? := by
      rw [List.getElem?_eq_getElem (l := rc _) (by rw [hl]; exact hr)]
      conv => lhs; rw [e]
      exact rcells_get (L := L.set j f') (by rw [List.length_set]; exact hq) (List.getElem?_eq_getElem _) hr
    have e1 : (rcells L)[m]? = (rc L[m / 5])[m % 5]? := by
      rw [List.getElem?_eq_getElem (l := rc _) (by rw [hl]; exact hr)]
      conv => lhs; rw [e]
      exact rcells_get hq (List.getElem?_eq_getElem _) hr
    rw [e2, List.getElem?_set]
    by_cases hjm : j = m / 5
    · subst hjm
      simp only [List.getElem_set_self, hc, List.getElem?_set, hl]
      by_cases him : i = m % 5
      · rw [if_pos (by omega), if_pos him, if_pos (by rw [rcells_len]; omega), if_pos hi]
      · rw [if_neg (by omega), if_neg him, e1]
    · rw [if_neg (by omega), List.getElem_set_ne hjm, e1]
  · rw [List.getElem?_eq_none (by rw [List.length_set, rcells_len]; omega), List.getElem?_eq_none (by rw [rcells_len, List.length_set]; omega)]

theorem Arr.set {w : World} {e : TypeId} {size n c g : Nat} {xs : List Value} (h : Arr w e size (some ⟨g, 0, none⟩) n c xs) (i : Nat) (v : Value) : Arr (w.setCell ⟨g, i, none⟩ v) e size (some ⟨g, 0, none⟩) n c (xs.set i v) := by
  refine ⟨by rw [List.length_set]; exact h.1, ?_⟩
  rcases h.2 with ⟨h', _⟩ | ⟨g', cur, hg, hb, h1, h2, h3, h4⟩
  · cases h'
  · cases hg
    refine .inr ⟨g, cur.setIfInBounds i v, rfl, hb.set i v, h1, h2, by simpa using h3, ?_⟩
    rw [Array.toList_setIfInBounds, List.take_set, h4]

/-- The document's pool in memory. -/
structure RP (w : World) (T : Nat → Prop) (p n : Nat) (fl : Int) (L : List Frm) : Prop where
  ex : ∃ A c, Bk w p 65 #[.int .i64 n, .int .i64 fl, .slice A L.length c] ∧ Arr w 72 5 A L.length c (rcells L) ∧ ∀ k, InB A k → T k
  own : T p
  lt : ∀ k, T k → k < w.heap.size
theorem RP.fr {T S : Nat → Prop} {w w1 : World} {p n : Nat} {fl : Int} {L : List Frm} (h : RP w T p n fl L) (hf : Fr S w w1) (hn : ∀ k, T k → ¬ S k) : RP w1 T p n fl L := by
  obtain ⟨⟨A, c, hb, ha, h1⟩, ho, hlt⟩ := h
  refine ⟨⟨A, c, hb.fr hf (hn p ho), ha.fr hf (fun k hk => hn k (h1 k hk)), h1⟩, ho, fun k hk => ?_⟩
  have := hlt k hk
  have := hf.size
  omega
theorem Arr.blk {w : World} {e : TypeId} {size n c : Nat} {A : Option Addr} {xs : List Value} (h : Arr w e size A n c xs) {k : Nat} (hk : InB A k) : ∃ cur, Bk w k e cur := by
  rcases h.2 with ⟨rfl, _⟩ | ⟨g, cur, rfl, hb, _⟩
  · exact (InB.none_ k hk).elim
  · rw [InB.some_] at hk
    simp only [] at hk
    subst hk
    exact ⟨cur, hb⟩
theorem Arr.apart {w : World} {e e' : TypeId} {size size' n n' c c' : Nat} {A B : Option Addr} {xs ys : List Value} (h : Arr w e size A n c xs) (h' : Arr w e' size' B n' c' ys) (hne : e ≠ e') {k : Nat} (hk : InB A k) : ¬ InB B k := fun hb => by
  obtain ⟨c1, h1⟩ := h.blk hk
  obtain ⟨c2, h2⟩ := h'.blk hb
  exact h1.types h2 hne rfl
/-- A frame that lies there. -/
theorem rc_at {w : World} {A : Option Addr} {c : Nat} {L : List Frm} (h : Arr w 72 5 A L.length c (rcells L)) {j : Nat} (hj : j < L.length) :
    ∃ g, A = some ⟨g, 0, none⟩ ∧ g < w.heap.size ∧ (∀ i u, (rc L[j])[i]? = some u → i < 5 → w.cell? ⟨g, j * 5 + i, none⟩ = some u) ∧ ∀ i, w.frozen? ⟨g, i, none⟩ = false := by
  rcases h.2 with ⟨_, h', _⟩ | ⟨g, cur, rfl, hb, h1, h2, h3, h4⟩
  · omega
  · refine ⟨g, rfl, hb.lt, fun i u hu hi => ?_, fun i => hb.frozen i⟩
    have := rcells_get hj hu hi
    rw [← h4, List.getElem?_take_of_lt (by omega)] at this
    rw [hb.cell, ← Array.getElem?_toList]
    exact this
theorem RP.flush {T : Nat → Prop} {w : World} {p n : Nat} {fl : Int} {L : List Frm} (h : RP w T p n fl L) (x : Int) : RP (w.setCell ⟨p, 1, none⟩ (.int .i64 x)) T p n x L ∧ Fr T w (w.setCell ⟨p, 1, none⟩ (.int .i64 x)) := by
  obtain ⟨⟨A, c, hb, ha, h1⟩, ho, hlt⟩ := h
  have f2 : Fr (fun j => j = p) w (w.setCell ⟨p, 1, none⟩ (.int .i64 x)) := Fr.setCell (S := fun j => j = p) (p := ⟨p, 1, none⟩) (Fr.refl _ w) (.inl rfl) _
  have npA : ∀ k, InB A k → ¬ k = p := fun k hk e => by
    subst e
    obtain ⟨cur, hc⟩ := ha.blk hk
    exact hb.types hc (by decide) rfl
  exact ⟨⟨⟨A, c, hb.set 1 _, ha.fr f2 npA, h1⟩, ho, fun k hk => by have := hlt k hk; simpa using this⟩, f2.mono (fun j _ e => by subst e; exact ho)⟩
/-- A cell of a frame is written. -/
theorem RP.store {T : Nat → Prop} {w : World} {p n : Nat} {fl : Int} {L : List Frm} (h : RP w T p n fl L) {A : Option Addr} {c g : Nat} (hb : Bk w p 65 #[.int .i64 n, .int .i64 fl, .slice A L.length c]) (hA : A = some ⟨g, 0, none⟩) {j i : Nat} (v : Value) {f' : Frm} (hj : j < L.length) (hi : i < 5) (hc : rc f' = (rc L[j]).set i v) :
    RP (w.setCell ⟨g, j * 5 + i, none⟩ v) T p n fl (L.set j f') ∧ Fr T w (w.setCell ⟨g, j * 5 + i, none⟩ v) := by
  obtain ⟨⟨A', c', hb', ha, h1⟩, ho, hlt⟩ := h
  have e2 : A' = A ∧ c' = c := by
    unfold Bk at hb hb'
    rw [hb] at hb'
    simp at hb'
    exact ⟨hb'.1.symm, hb'.2.symm⟩
  obtain ⟨rfl, rfl⟩ := e2
  subst hA
  have hg : T g := h1 g rfl
  have f2 : Fr (fun k => k = g) w (w.setCell ⟨g, j * 5 + i, none⟩ v) := Fr.setCell (S := fun k => k = g) (p := ⟨g, j * 5 + i, none⟩) (Fr.refl _ w) (.inl rfl) _
  have npg : p ≠ g := fun e => by
    subst e
    obtain ⟨cur, hc⟩ := ha.blk (k := p) rfl
    exact hb'.types hc (by decide) rfl
  refine ⟨⟨⟨some ⟨g, 0, none⟩, c', ?_, ?_, h1⟩, ho, fun k hk => by have := hlt k hk; simpa using this⟩, f2.mono (fun k _ e => by subst e; exact hg)⟩
  · rw [List.length_set]
    exact hb'.fr f2 npg
  · rw [List.length_set, ← rcells_set hj hi hc]
    exact ha.set _ v

def findF (L : List Frm) (x : Int) : Option Nat := L.findIdx? fun f => f.page == x
theorem findF_some {L : List Frm} {x : Int} {i : Nat} (h : findF L x = some i) : ∃ hi : i < L.length, L[i].page = x := by
  unfold findF at h
  obtain ⟨hi, hp, _⟩ := List.findIdx?_eq_some_iff_getElem.1 h
  exact ⟨hi, by simpa using hp⟩
theorem findF_none {L : List Frm} {x : Int} (h : findF L x = none) : frameOf L x = none := by
  unfold findF at h
  rw [List.findIdx?_eq_none_iff] at h
  unfold frameOf
  rw [List.find?_eq_none]
  exact fun f hf => by have := h f hf; simpa using this
theorem upd_set {L : List Frm} (hn : (L.map (·.page)).Nodup) {i : Nat} (hi : i < L.length) (g : Frm → Frm) : upd L L[i].page g = L.set i (g L[i]) := by
  unfold upd
  apply List.ext_getElem
  · simp
  intro m h1 h2
  rw [List.getElem_map, List.getElem_set]
  have hm : m < L.length := by simpa using h1
  by_cases e : i = m
  · subst e; simp
  · rw [if_neg e, if_neg]
    intro e2
    have := List.pairwise_iff_getElem.1 hn
    rcases Nat.lt_or_gt_of_ne e with h | h
    · exact this i m (by simpa using hi) (by simpa using hm) h (by simpa using e2.symm)
    · exact this m i (by simpa using hm) (by simpa using hi) h (by simpa using e2)

theorem find_any {w : World} {T : Nat → Prop} {p n : Nat} {fl : Int} {L : List Frm} (x : Int) (h : RP w T p n fl L) :
    Calls Try.prog 35 #[.pointer (some ⟨p, 0, none⟩), .int .i64 x] w fun e w' => e = .returned (.int .i64 (idxV (findF L x))) ∧ Fr NoB w w' := by
  obtain ⟨⟨A, c, hb, ha, h1⟩, ho, hlt⟩ := h
  have c2 : w.cell? ⟨p, 2, none⟩ = some (.slice A L.length c) := hb.cell 2
  have hll : L.length ≤ 9223372036854775807 := by have := ha.rd.2.1; have := ha.rd.2.2.1; simp only [maxLen] at this; omega
  have HA := Lib.hid ha
  clear hb ha
  go_enter Try.func35, Try.ntmps35
  go_wp2_with fail
  go_loopg [12] L.length (fun g v12 wr => ∃ j : Nat, j ≤ L.length ∧ g = L.length - j ∧ v12 = .int .i64 j ∧ Fr NoB w wr ∧ ∀ i (hi : i < L.length), i < j → (L[i].page == x) = false)
  case atStart => exact ⟨0, Nat.zero_le _, rfl, rfl, Fr.refl _ _, fun i _ hi => by omega⟩
  case round =>
    obtain ⟨j, hj, rfl, rfl, hfr, hbef⟩ := hrel
    by_cases hjl : j < L.length
    · obtain ⟨g, rfl, hgl, hcell, _⟩ := rc_at (HA.out.fr hfr (fun _ _ h => h)) hjl
      have y0 := hcell 0 _ rfl (by omega)
      have y1 := hcell 1 _ rfl (by omega)
      have y2 := hcell 2 _ rfl (by omega)
      have y3 := hcell 3 _ rfl (by omega)
      have y4 := hcell 4 _ rfl (by omega)
      simp only [Nat.add_zero] at y0
      have HF := Lib.hid hfr
      clear hcell hfr
      cases hp : (L[j].page == x) with
      | true =>
        have HX : Hid (findF L x = some j) := Lib.hid (by
          unfold findF
          rw [List.findIdx?_eq_some_iff_getElem]
          exact ⟨hjl, hp, fun i hi => by simpa using hbef i (by omega) hi⟩)
        clear hbef
        generalize L[j] = f at *
        go_wp2_with fail
        go_ret
        exact ⟨by rw [HX.out]; rfl, HF.out.alloc _⟩
      | false =>
        have HN : Hid (∀ i (hi : i < L.length), i < j + 1 → (L[i].page == x) = false) := Lib.hid (fun i hi hij => by
          by_cases e : i = j
          · subst e; exact hp
          · exact hbef i hi (by omega))
        clear hbef
        generalize L[j] = f at *
        go_wp2_with fail
        go_roundg (L.length - (j + 1))
        case measure => omega
        case rel => exact ⟨j + 1, by omega, rfl, by go_num, HF.out.alloc _, HN.out⟩
    · obtain rfl : j = L.length := by omega
      have HX : Hid (findF L x = none) := Lib.hid (by
        unfold findF
        rw [List.findIdx?_eq_none_iff]
        intro f hf
        obtain ⟨i, hi, rfl⟩ := List.getElem_of_mem hf
        exact hbef i hi hi)
      clear hbef
      go_wp2_with fail
      go_ret
      exact ⟨by rw [HX.out]; rfl, hfr⟩

def RNewPost (n : Int) (w : World) (e : Ending) (w' : World) : Prop :=
  (1 ≤ n ∧ n ≤ 64 ∧ ∃ p T, w.heap.size ≤ p ∧ e = .returned (.tuple #[.pointer (some ⟨p, 0, none⟩), .int .i64 0]) ∧ RP w' T p n.toNat 0 [] ∧ Up w.heap.size T ∧ Fr NoB w w') ∨
  (¬ (1 ≤ n ∧ n ≤ 64) ∧ e = .returned (.tuple #[.pointer none, .int .i64 1]) ∧ Fr NoB w w')
theorem refNew_any (n : Int) (w : World) : Calls Try.prog 17 #[.int .i64 n] w (RNewPost n w) := by
  by_cases h1 : n < 1
  · go_enter Try.func17, Try.ntmps17
    go_wp2_with fail
    go_ret2
    exact .inr ⟨by omega, rfl, Fr.refl _ _⟩
  by_cases h2 : 64 < n
  · go_enter Try.func17, Try.ntmps17
    go_wp2_with fail
    go_ret2
    exact .inr ⟨by omega, rfl, Fr.refl _ _⟩
  obtain ⟨k, rfl⟩ := Int.eq_ofNat_of_zero_le (by omega : 0 ≤ n)
  have hp : RNewPost k w (.returned (.tuple #[.pointer (some ⟨w.heap.size, 0, none⟩), .int .i64 0])) (w.alloc (.cells #[.int .i64 k, .int .i64 0, .slice none 0 0] 65)) :=
    .inl ⟨by omega, by omega, w.heap.size, fun j => j = w.heap.size, Nat.le_refl _, rfl, ⟨⟨none, 0, by rw [Int.toNat_natCast]; exact Bk.new w 65 _, Arr.none_ _ _ _, fun k hk => (InB.none_ k hk).elim⟩, rfl, fun j e => by subst e; simp⟩, fun j e => by rw [e]; exact Nat.le_refl _, (Fr.refl _ _).alloc _⟩
  have HP := Lib.hid hp
  clear hp
  go_enter Try.func17, Try.ntmps17
  go_wp2_with fail
  go_ret2
  exact HP.out
end Go.Proofs.Ytmbabgaanpjmpaa
