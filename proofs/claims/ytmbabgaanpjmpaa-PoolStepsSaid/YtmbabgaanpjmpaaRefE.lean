/- The document's pool: without. -/
import Derived.Test.YtmbabgaanpjmpaaRefD
namespace Go.Proofs.Ytmbabgaanpjmpaa
open Go.RowKit

theorem rd_five {w : World} {g : Nat} {T : TypeId} {f : Frm} (h : Bk w g T (rc f).toArray) : Rd w (fun k => k = g) 5 (some ⟨g, 0, none⟩) 1 1 (rc f) :=
  ⟨rfl, Nat.le_refl _, by simp [maxLen], (fun h => by cases h), fun a ha _ => by cases ha; exact ⟨rfl, h.lt, At.of_bk (o := 0) (n := 5) h rfl⟩⟩
/-- A list of frames of one's own. -/
structure FL (w : World) (A : Option Addr) (c : Nat) (ys : List Frm) (W : World) : Prop where
  arr : Arr W 72 5 A ys.length c (rcells ys)
  new : ∀ k, InB A k → w.heap.size ≤ k
  fr : Fr NoB w W
theorem FL.put {w W w2 : World} {A A' : Option Addr} {c c' : Nat} {ys : List Frm} {f : Frm} {o : Obj} (h : FL w A c ys W) (ha : Arr w2 72 5 A' (ys.length + 1) c' (rcells ys ++ rc f)) (hf : Fr (InB A) (W.alloc o) w2) (hin : ∀ k, InB A' k → InB A k ∨ (W.alloc o).heap.size ≤ k) : FL w A' c' (ys ++ [f]) w2 := by
  have hz := h.fr.size
  have hz2 : (W.alloc o).heap.size = W.heap.size + 1 := by simp
  refine ⟨by rw [List.length_append, ← rcells_snoc]; exact ha, fun k hk => ?_, (h.fr.alloc o).join hf (fun j hj hb => by have := h.new j hb; omega)⟩
  rcases hin k hk with h' | h'
  · exact h.new k h'
  · omega
theorem FL.keep {w W : World} {A : Option Addr} {c : Nat} {ys : List Frm} (h : FL w A c ys W) (o : Obj) : FL w A c ys (W.alloc o) := ⟨h.arr.fr ((Fr.refl NoB _).alloc _) (fun _ _ h => h), h.new, h.fr.alloc _⟩
theorem FL.arg {w W : World} {A : Option Addr} {c : Nat} {ys : List Frm} (h : FL w A c ys W) (f : Frm) (s : Nat) (hs : W.heap.size = s) :
    Arr (W.alloc (.cells (rc f).toArray 72)) 72 5 A ys.length c (rcells ys) ∧ Rd (W.alloc (.cells (rc f).toArray 72)) (fun k => k = s) 5 (some ⟨s, 0, none⟩) 1 1 (rc f) := by
  subst hs
  exact ⟨h.arr.fr ((Fr.refl NoB _).alloc _) (fun _ _ h => h), rd_five (Bk.new W 72 _)⟩

theorem er_same {L : List Frm} {k : Nat} (hk : k < L.length) : (L.take (k + 1)).eraseIdx k = (L.take k).eraseIdx k := by
  rw [List.take_succ_eq_append_getElem hk, List.eraseIdx_append_of_length_le (by rw [List.length_take]; omega), List.eraseIdx_of_length_le (l := L.take k) (by rw [List.length_take]; omega)]
  have : k - (L.take k).length = 0 := by rw [List.length_take]; omega
  rw [this]
  simp
theorem er_next {L : List Frm} {j k : Nat} (hj : j < L.length) (hne : j ≠ k) : (L.take (j + 1)).eraseIdx k = (L.take j).eraseIdx k ++ [L[j]] := by
  rw [List.take_succ_eq_append_getElem hj]
  by_cases h : k < j
  · rw [List.eraseIdx_append_of_lt_length (by rw [List.length_take]; omega)]
  · rw [List.eraseIdx_append_of_length_le (by rw [List.length_take]; omega), List.eraseIdx_of_length_le (l := L.take j) (by rw [List.length_take]; omega), List.eraseIdx_of_length_le (l := [L[j]]) (by rw [List.length_take]; simp; omega)]

def WithPost (M : List Frm) (w : World) (e : Ending) (w' : World) : Prop := ∃ A c, e = .returned (.slice A M.length c) ∧ Arr w' 72 5 A M.length c (rcells M) ∧ (∀ k, InB A k → w.heap.size ≤ k) ∧ Fr NoB w w'

set_option maxHeartbeats 4000000 in
theorem without_any {w : World} {A0 : Option Addr} {c0 : Nat} {L : List Frm} (h : Arr w 72 5 A0 L.length c0 (rcells L)) (hll : L.length ≤ 64) {k : Nat} (hk : k < L.length) :
    Calls Try.prog 39 #[.slice A0 L.length c0, .int .i64 (k : Int)] w (WithPost (L.eraseIdx k) w) := by
  obtain ⟨i0, hi0, hz0, hz1, hz2⟩ := info_parts info72
  have HA := Lib.hid h
  clear h
  go_enter Try.func39, Try.ntmps39
  go_wp2_with fail
  go_loopg [5, 10] L.length (fun g v5 v10 W => ∃ (j : Nat) (B : Option Addr) (d : Nat), j ≤ L.length ∧ g = L.length - j ∧ v5 = .slice B ((L.take j).eraseIdx k).length d ∧ v10 = .int .i64 j ∧ FL w B d ((L.take j).eraseIdx k) W)
  case atStart => exact ⟨0, none, 0, Nat.zero_le _, rfl, rfl, rfl, ⟨Arr.none_ _ _ _, fun k hk => (InB.none_ k hk).elim, Fr.refl _ _⟩⟩
  case round =>
    obtain ⟨j, B, d, hj, rfl, rfl, rfl, hFL⟩ := hrel
    by_cases hjl : j < L.length
    · obtain ⟨g, rfl, hgl, hcell, _⟩ := rc_at (HA.out.fr hFL.fr (fun _ _ h => h)) hjl
      have y0 := hcell 0 _ rfl (by omega)
      have y1 := hcell 1 _ rfl (by omega)
      have y2 := hcell 2 _ rfl (by omega)
      have y3 := hcell 3 _ rfl (by omega)
      have y4 := hcell 4 _ rfl (by omega)
      simp only [Nat.add_zero] at y0
      have HFL := Lib.hid (hFL.keep (.cells (rc L[j]).toArray 72))
      have HFL' : Hid (FL w B d ((L.take j).eraseIdx k) (wr.alloc (.cells #[.int .i64 L[j].page, .int .i64 L[j].pins, .int .i64 L[j].lsn, .int .i64 L[j].first, .bool L[j].dirty] 72))) := HFL
      clear hcell hFL HFL
      by_cases hjk : j = k
      · subst hjk
        have HE := Lib.hid (er_same hjl)
        go_wp2_with fail
        go_roundg (L.length - (j + 1))
        case measure => omega
        case rel => exact ⟨j + 1, B, d, by omega, rfl, by rw [HE.out], by go_num, by rw [HE.out]; exact HFL'.out⟩
      · have HE := Lib.hid (er_next hjl hjk)
        have hne : ((j : Int) != (k : Int)) = true := by rw [bne_iff_ne]; omega
        have hyl : ((L.take j).eraseIdx k).length ≤ 64 := by
          have := List.length_eraseIdx_le (L.take j) k
          rw [List.length_take] at this
          omega
        have HG := Lib.hid (HFL'.out.arg L[j] (wr.heap.size + 1) (by simp))
        clear hjk
        generalize (L.take j).eraseIdx k = ys at *
        go_wp2_with (at_builtin; refine wpList_append_arr _ rfl _ _ 63 rfl 72 i0 _ 5 40 Try.underlying63 hi0 hz0 hz1 hz2 rfl B ys.length d (rcells ys) rfl HG.out.1 _ (some ⟨_, 0, none⟩) 1 1 (rc L[j]) rfl HG.out.2 (by intro u hu; simp [rc] at hu; rcases hu with rfl | rfl | rfl | rfl | rfl <;> rfl) (by simp only [maxLen]; omega) (by omega) ?_; intro B3 d3 w5 ha5 hf5 hin5 _)
        have HNX := Lib.hid (HFL'.out.put ha5 hf5 hin5)
        clear ha5 hf5 hin5
        go_wp2_with fail
        go_roundg (L.length - (j + 1))
        case measure => omega
        case rel => exact ⟨j + 1, B3, d3, by omega, rfl, by rw [HE.out, List.length_append]; rfl, by go_num, by rw [HE.out]; exact HNX.out⟩
    · obtain rfl : j = L.length := by omega
      rw [List.take_length] at hFL ⊢
      have HFL := Lib.hid hFL
      clear hFL
      go_wp2_with fail
      go_ret
      exact ⟨B, d, rfl, HFL.out.arr, HFL.out.new, HFL.out.fr⟩

theorem er_without {L : List Frm} (hn : (L.map (·.page)).Nodup) {i : Nat} (hi : i < L.length) : L.eraseIdx i = without L L[i].page := by
  have e : L = L.take i ++ L[i] :: L.drop (i + 1) := by rw [List.getElem_cons_drop, List.take_append_drop]
  have hpw := List.pairwise_iff_getElem.1 hn
  have hne : ∀ m (hm : m < L.length), m ≠ i → L[m].page ≠ L[i].page := fun m hm hmi e2 => by
    rcases Nat.lt_or_gt_of_ne hmi with h | h
    · exact hpw m i (by simpa using hm) (by simpa using hi) h (by simpa using e2)
    · exact hpw i m (by simpa using hi) (by simpa using hm) h (by simpa using e2.symm)
  have h1 : without (L.take i) L[i].page = L.take i := without_none fun f hf e2 => by
    obtain ⟨m, hm, rfl⟩ := List.getElem_of_mem hf
    rw [List.length_take] at hm
    rw [List.getElem_take] at e2
    exact hne m (by omega) (by omega) e2
  have h2 : without (L.drop (i + 1)) L[i].page = L.drop (i + 1) := without_none fun f hf e2 => by
    obtain ⟨m, hm, rfl⟩ := List.getElem_of_mem hf
    rw [List.length_drop] at hm
    rw [List.getElem_drop] at e2
    exact hne (i + 1 + m) (by omega) (by omega) e2
  rw [List.eraseIdx_eq_take_drop_succ]
  conv => rhs; arg 1; rw [e]
  unfold without at h1 h2 ⊢
  rw [List.filter_append, List.filter_cons_of_neg (by simp), h1, h2]
end Go.Proofs.Ytmbabgaanpjmpaa
