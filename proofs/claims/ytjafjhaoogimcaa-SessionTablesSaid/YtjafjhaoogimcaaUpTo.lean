/- Contract of upTo: plain law and the walk. -/
import Derived.Test.YtjafjhaoogimcaaCmp
import Derived.Laws.OwnMore
namespace Go.Proofs.Ytjafjhaoogimcaa
open Go.RowKit

theorem info3 : (Try.prog.info? 3).map (fun i => (i.zero, i.size, i.bytes)) = some (some (.int .i64 0), 1, 8) := by kernel_rfl
theorem rd_one {w : World} {g : Nat} {T : TypeId} {u : Value} (h : Bk w g T #[u]) : Rd w (fun k => k = g) 1 (some ⟨g, 0, none⟩) 1 1 [u] :=
  ⟨rfl, Nat.le_refl _, by simp [maxLen], (fun h => by cases h), fun a ha _ => by cases ha; exact ⟨rfl, h.lt, At.of_bk (o := 0) (n := 1) h rfl⟩⟩

def upF (q : List (Int × Int)) (commit : Int) : List Int := (q.filter fun p => decide (p.2 ≤ commit)).map (·.1)
def dnF (q : List (Int × Int)) (commit : Int) : List (Int × Int) := q.filter fun p => !decide (p.2 ≤ commit)
theorem upF_nil (commit : Int) : upF [] commit = [] := rfl
theorem upF_perm {q q' : List (Int × Int)} (h : q.Perm q') (commit : Int) : (upF q commit).Perm (upF q' commit) := (h.filter _).map _
theorem upF_yes {x v : Int} {l : List (Int × Int)} {commit : Int} (h : v ≤ commit) : upF ((x, v) :: l) commit = x :: upF l commit := by
  unfold upF
  rw [List.filter_cons_of_pos (by simpa using h)]
  rfl
theorem upF_no {x v : Int} {l : List (Int × Int)} {commit : Int} (h : ¬ v ≤ commit) : upF ((x, v) :: l) commit = upF l commit := by
  unfold upF
  rw [List.filter_cons_of_neg (by simpa using h)]
theorem upF_le (q : List (Int × Int)) (commit : Int) : (upF q commit).length ≤ q.length := by
  unfold upF
  rw [List.length_map]
  exact List.length_filter_le _ _
theorem mem_upF {q : List (Int × Int)} {commit x : Int} (h : x ∈ upF q commit) : ∃ p ∈ q, p.1 = x ∧ p.2 ≤ commit := by
  obtain ⟨p, hp, rfl⟩ := List.mem_map.1 h
  obtain ⟨h1, h2⟩ := List.mem_filter.1 hp
  exact ⟨p, h1, rfl, of_decide_eq_true h2⟩

def ltK (q : List (Int × Int)) (x y : Int) : Bool := decide (val q 0 x < val q 0 y ∨ (val q 0 x = val q 0 y ∧ x < y))
theorem cmp_lt (q : List (Int × Int)) (x y : Int) : decide (cmpF q x y < 0) = ltK q x y := by
  unfold cmpF ltK orF Lib.compareInt
  by_cases h1 : val q 0 x < val q 0 y
  · simp [h1]
  · by_cases h2 : val q 0 y < val q 0 x
    · have h3 : ¬ val q 0 x = val q 0 y := by omega
      simp [h1, h2, h3]
    · have h3 : val q 0 x = val q 0 y := by omega
      by_cases h4 : x < y
      · simp [h3, h4]
      · by_cases h5 : y < x <;> simp [h3, h4, h5]
theorem ltK_irr (q : List (Int × Int)) (x : Int) : ltK q x x = false := decide_eq_false (by omega)
theorem ltK_trans (q : List (Int × Int)) (x y z : Int) (h1 : ltK q x y = true) (h2 : ltK q y z = true) : ltK q x z = true := by
  have := of_decide_eq_true h1
  have := of_decide_eq_true h2
  exact decide_eq_true (by omega)
theorem ltK_tot (q : List (Int × Int)) (x y : Int) (h1 : ltK q x y = false) (h2 : ltK q y x = false) : x = y := by
  have := of_decide_eq_false h1
  have := of_decide_eq_false h2
  omega
theorem up_sorted {q : List (Int × Int)} (hs : q.Pairwise ltp) (hn : (q.map (·.1)).Nodup) (commit : Int) : (upF q commit).Pairwise (fun a b => ltK q a b = true ∨ a = b) := by
  unfold upF
  rw [List.pairwise_map]
  refine (List.Pairwise.filter _ hs).imp_of_mem ?_
  intro a b ha hb h
  have e1 := val_mem (z0 := 0) hn (List.mem_filter.1 ha).1
  have e2 := val_mem (z0 := 0) hn (List.mem_filter.1 hb).1
  refine .inl (decide_eq_true ?_)
  rw [e1, e2]
  exact h
theorem up_eq {q : List (Int × Int)} (hs : q.Pairwise ltp) (hn : (q.map (·.1)).Nodup) {commit : Int} {ys : List Int} (hp : ys.Perm (upF q commit)) (hy : ys.Pairwise (fun a b => ltK q a b = true ∨ a = b)) : ys = upF q commit := by
  refine List.Perm.eq_of_pairwise (fun a b _ _ h1 h2 => ?_) hy (up_sorted hs hn commit) hp
  rcases h1 with h1 | h1
  · rcases h2 with h2 | h2
    · have := ltK_trans q _ _ _ h1 h2
      rw [ltK_irr] at this
      cases this
    · exact h2.symm
  · exact h1

/-- The table's map behind the first k deletions. -/
def cutF (q : List (Int × Int)) (ys : List Int) : List (Int × Int) := q.filter fun p => !ys.contains p.1
theorem cutF_nil (q : List (Int × Int)) : cutF q [] = q := List.filter_eq_self.2 (fun p _ => by simp)
theorem cutF_snoc (q : List (Int × Int)) (ys : List Int) (y : Int) : (cutF q ys).filter (fun p => p.1 != y) = cutF q (ys ++ [y]) := by
  unfold cutF
  rw [List.filter_filter]
  refine List.filter_congr fun p _ => ?_
  by_cases h : p.1 = y <;> simp [h]
theorem cutF_up {q : List (Int × Int)} (hn : (q.map (·.1)).Nodup) (commit : Int) : cutF q (upF q commit) = dnF q commit := by
  unfold cutF dnF
  refine List.filter_congr fun p hp => ?_
  congr 1
  rw [Bool.eq_iff_iff]
  constructor
  · intro h
    obtain ⟨p', hp', e, hl⟩ := mem_upF (List.contains_iff_mem.1 h)
    have : p' = p := by
      have e1 := val_mem (z0 := 0) hn hp
      have e2 := val_mem (z0 := 0) hn hp'
      rw [e, e1] at e2
      exact Prod.ext e e2.symm
    rw [this] at hl
    exact decide_eq_true hl
  · intro h
    exact List.contains_iff_mem.2 (List.mem_map.2 ⟨p, List.mem_filter.2 ⟨hp, h⟩, rfl⟩)
theorem Good.down {q : List (Int × Int)} {dn : List Int} (h : Good q dn) (commit : Int) : Good (dnF q commit) dn :=
  ⟨fun p hp => h.rq p (List.mem_filter.1 hp).1, h.rd, fun p hp => h.dis p (List.mem_filter.1 hp).1, List.Pairwise.filter _ h.srt, (List.Sublist.map _ List.filter_sublist).nodup h.nd, Nat.le_trans (List.length_filter_le _ _) h.few⟩

/-- The state of the collecting loop. -/
structure UpL (w : World) (t bw B : Nat) (q : List (Int × Int)) (commit : Int) (left : List (Int × Int)) (xs : List Int) (A : Option Addr) (c : Nat) (wr : World) : Prop where
  un : Under Try.prog 3 (plainElem Try.prog 3) (fun x => .lit (kl x)) wr bw (B + 1) q left
  arr : Arr wr 3 1 A xs.length c (ints xs)
  hi : ∀ k, InB A k → B + 1 < k
  box : Bk wr B 23 #[.pointer (some ⟨t, 0, none⟩)]
  fr : Fr NoB w wr
  pm : (xs ++ upF left commit).Perm (upF q commit)
def UpR (w : World) (t bw B : Nat) (q : List (Int × Int)) (commit : Int) (g : Nat) (v5 : Value) (wr : World) : Prop :=
  ∃ left xs A c, g = left.length ∧ v5 = .slice A xs.length c ∧ UpL w t bw B q commit left xs A c wr

theorem UpL.next {w W w1 : World} {t bw : Nat} {q left left' : List (Int × Int)} {commit : Int} {xs : List Int} {A : Option Addr} {c : Nat} {x v : Int} (h : UpL w t bw w.heap.size q commit left xs A c W)
    (hp : left.Perm ((x, v) :: left')) (hu : Under Try.prog 3 (plainElem Try.prog 3) (fun x => .lit (kl x)) w1 bw (w.heap.size + 1) q left') (hf : Fr (fun j => j = w.heap.size + 1) W w1) (hv : ¬ v ≤ commit) :
    UpL w t bw w.heap.size q commit left' xs A c w1 := by
  refine ⟨hu, h.arr.fr hf (fun k hk e => by have := h.hi k hk; omega), h.hi, h.box.fr hf (by omega), h.fr.join hf (fun j hj e => by omega), ?_⟩
  have e := upF_perm hp commit
  rw [upF_no hv] at e
  exact (e.symm.append_left xs).trans h.pm
theorem UpL.more {w W w1 w2 : World} {t bw : Nat} {q left left' : List (Int × Int)} {commit : Int} {xs : List Int} {A A' : Option Addr} {c c' : Nat} {x v : Int} (h : UpL w t bw w.heap.size q commit left xs A c W)
    (hp : left.Perm ((x, v) :: left')) (hu : Under Try.prog 3 (plainElem Try.prog 3) (fun x => .lit (kl x)) w1 bw (w.heap.size + 1) q left') (hf : Fr (fun j => j = w.heap.size + 1) W w1) (hv : v ≤ commit) (hbw : bw < w.heap.size)
    (o : Obj) (ha : Arr w2 3 1 A' (xs.length + 1) c' (ints xs ++ [.int .i64 x])) (hf2 : Fr (InB A) (w1.alloc o) w2) (hin : ∀ k, InB A' k → InB A k ∨ (w1.alloc o).heap.size ≤ k) :
    UpL w t bw w.heap.size q commit left' (xs ++ [x]) A' c' w2 := by
  have z0 := hf.size
  have z1 := hu.lt
  have hf12 : Fr (InB A) w1 w2 := (((Fr.refl (InB A) w1).alloc o)).trans hf2
  refine ⟨hu.fr hf12 (fun hk => by have := h.hi _ hk; omega) (fun hk => by have := h.hi _ hk; omega), ?_, fun k hk => ?_, (h.box.fr hf (by omega)).fr hf12 (fun hk => by have := h.hi _ hk; omega),
    (h.fr.join hf (fun j hj e => by omega)).join hf12 (fun j hj hk => by have := h.hi _ hk; omega), ?_⟩
  · rw [List.length_append]
    simpa [ints] using ha
  · rcases hin k hk with h' | h'
    · exact h.hi k h'
    · simp at h'
      omega
  · have e := upF_perm hp commit
    rw [upF_yes hv] at e
    rw [List.append_assoc]
    exact (e.symm.append_left xs).trans h.pm

def UpPost (S : Nat → Prop) (t : Nat) (q : List (Int × Int)) (dn : List Int) (commit : Int) (w : World) (e : Ending) (w' : World) : Prop :=
  ∃ A c, e = .returned (.slice A (upF q commit).length c) ∧ Arr w' 3 1 A (upF q commit).length c (ints (upF q commit)) ∧ (∀ k, InB A k → w.heap.size ≤ k) ∧ TabAt w' S t (dnF q commit) dn ∧ Fr S w w'

/-- The state of the deleting loop. -/
def CutL (w : World) (t bw B : Nat) (q : List (Int × Int)) (ys : List Int) (A : Option Addr) (c : Nat) (g : Nat) (v34 : Value) (wr : World) : Prop :=
  ∃ k : Nat, k ≤ ys.length ∧ g = ys.length - k ∧ v34 = .int .i64 k ∧ MI wr bw (cutF q (ys.take k)) ∧ Arr wr 3 1 A ys.length c (ints ys) ∧ Bk wr B 23 #[.pointer (some ⟨t, 0, none⟩)] ∧ Fr (fun j => j = bw) w wr

set_option maxHeartbeats 4000000 in
theorem upTo_any {S : Nat → Prop} {t : Nat} {q : List (Int × Int)} {dn : List Int} (commit : Int) (w : World) (h : TabAt w S t q dn) :
    Calls Try.prog 26 #[.pointer (some ⟨t, 0, none⟩), .int .i64 commit] w (UpPost S t q dn commit w) := by
  obtain ⟨i0, hi0, hz0, hz1, hz2⟩ := info_parts info3
  obtain ⟨⟨bw, bd, hb, hw, hd, j1, j2, j3⟩, ho, hlt, hg⟩ := h
  have hbt := map_ne_bk hw hb
  have hbwl := hw.lt
  have htl := hb.lt
  have hfew := hg.few
  have HB := Lib.hid hb
  have HD := Lib.hid hd
  have HG := Lib.hid hg
  have c0 : w.cell? ⟨t, 0, none⟩ = some (.map (some bw)) := hb.cell 0
  have hw1 := hw.fr ((Fr.refl NoB w).alloc (.cells #[.pointer (some ⟨t, 0, none⟩)] 23)) (fun h => h)
  have hbx := Bk.new w 23 #[.pointer (some ⟨t, 0, none⟩)]
  have HBX := Lib.hid hbx
  clear hb hd hg hw hbx
  go_enter Try.func26, Try.ntmps26
  go_wp2_with (at_range; refine wpList_range_is rfl _ 58 rfl 3 Try.underlying3 Try.underlying58 rfl hw1 ?_; intro w0 hun hf0 hs0)
  have e1 : (w.alloc (.cells #[.pointer (some ⟨t, 0, none⟩)] 23)).heap.size = w.heap.size + 1 := by simp
  rw [e1] at hun hs0 ⊢
  have HN : Hid (UpR w t bw w.heap.size q commit q.length (.slice none 0 0) w0) :=
    ⟨q, [], none, 0, rfl, rfl, hun, Arr.none_ _ _ _, fun k hk => (InB.none_ k hk).elim, HBX.out.fr hf0 (fun h => h), ((Fr.refl NoB w).alloc _).trans hf0, List.Perm.refl _⟩
  clear hun hf0 hs0
  go_frame
  go_loopg [5] q.length (fun g v5 wr => UpR w t bw w.heap.size q commit g v5 wr)
  case atStart => exact HN.out
  case round =>
    obtain ⟨left, xs, A, c, rfl, rfl, hU⟩ := hrel
    have hUn := hU.un
    have HU := Lib.hid hU
    clear hU
    go_wp2_with (at_next; refine wpList_next_is elemI rfl _ rfl Try.underlying3 (w.heap.size + 1) left rfl hUn ?_ ?_)
    · intro hl
      subst hl
      have HP : Hid (xs.Perm (upF q commit)) := Lib.hid (by have := HU.out.pm; simpa [upF_nil] using this)
      have hxl : xs.length = (upF q commit).length := HP.out.length_eq
      have hule := upF_le q commit
      have HA := Lib.hid HU.out.arr
      have hok : ∀ x ∈ xs, okI x := fun x hx => by
        obtain ⟨p, hp, rfl, _⟩ := mem_upF (HP.out.mem_iff.1 hx)
        have := HG.out.rq p hp
        unfold okI
        omega
      have hsort := sort_any (ltK q) (cmpF q) (cmp_lt q) (ltK_irr q) (ltK_trans q) (ltK_tot q) 29 #[.pointer (some ⟨w.heap.size, 0, none⟩)] (enters_of Try.func29 (by kernel_rfl) rfl) A xs.length c xs wr HA.out hok
        (fun W hf x y hx hy => cmp_any W x y hx hy ((HU.out.box.fr hf (fun hk => by have := HU.out.hi _ hk; omega)).cell 0) (((HB.out.fr HU.out.fr (fun h => h)).fr hf (fun hk => by have := HU.out.hi _ hk; omega)).cell 0) (HU.out.un.map.fr hf (fun hk => by have := HU.out.hi _ hk; omega))) (by omega)
      have HS := Lib.hid hsort
      clear hsort hok hUn hxl hule
      go_wp2_with fail
      refine HS.out.mono ?_
      rintro e w2 ⟨rfl, ys, hperm, hpw, harr2, hf2⟩
      have hyx : xs.length = ys.length := hperm.length_eq.symm
      obtain rfl : ys = upF q commit := up_eq HG.out.srt HG.out.nd (hperm.trans HP.out) hpw
      rw [hyx] at harr2 ⊢
      have HF2 := Lib.hid hf2
      have HA2 := Lib.hid harr2
      have hle := upF_le q commit
      have hC0 : CutL w t bw w.heap.size q (upF q commit) A c (upF q commit).length (.int .i64 (0 : Nat)) w2 :=
        ⟨0, Nat.zero_le _, rfl, rfl, by rw [List.take_zero, cutF_nil]; exact HU.out.un.map.fr hf2 (fun hk => by have := HU.out.hi _ hk; omega), harr2, HU.out.box.fr hf2 (fun hk => by have := HU.out.hi _ hk; omega), (HU.out.fr.join hf2 (fun j hj hk => by have := HU.out.hi _ hk; omega)).mono (fun _ _ h => h.elim)⟩
      have HC := Lib.hid hC0
      have HHI : Hid (∀ k, InB A k → w.heap.size + 1 < k) := Lib.hid HU.out.hi
      clear hC0 hperm hpw harr2 hf2 hyx HS HP HA HU
      go_wp2_with fail
      go_loopg [34] (upF q commit).length (fun g v34 wr => CutL w t bw w.heap.size q (upF q commit) A c g v34 wr)
      case atStart => exact HC.out
      case round =>
        obtain ⟨k, hk, rfl, rfl, hm, ha, hx, hf⟩ := hrel
        by_cases hkl : k < (upF q commit).length
        · obtain ⟨g, off, u, rfl, hgS, hgl, hu, hcu⟩ := ha.rd.cell_at hkl 0 (by omega)
          simp only [Nat.mul_one, Nat.add_zero] at hu hcu
          have hux : u = .int .i64 ((upF q commit)[k]) := by
            simp only [ints, List.getElem?_map, List.getElem?_eq_getElem hkl, Option.map_some, Option.some.injEq] at hu
            exact hu.symm
          subst hux
          obtain ⟨p, hp, hpe, hpl⟩ := mem_upF (List.getElem_mem hkl)
          have hpr := HG.out.rq p hp
          have hoky : okI ((upF q commit)[k]) := by unfold okI; omega
          have hcut := cutF_snoc q ((upF q commit).take k) ((upF q commit)[k])
          rw [← List.take_succ_eq_append_getElem hkl] at hcut
          have HCUT := Lib.hid hcut
          have b0 : wr.cell? ⟨w.heap.size, 0, none⟩ = some (.pointer (some ⟨t, 0, none⟩)) := hx.cell 0
          have b1 : wr.cell? ⟨t, 0, none⟩ = some (.map (some bw)) := hf.cell_some c0 (fun e => hbt e.symm)
          have HX := Lib.hid hx
          have HM := Lib.hid hm
          have HAR := Lib.hid ha
          have HFF := Lib.hid hf
          clear hu hcut hp hpe hpl hpr hx ha hf
          generalize (upF q commit)[k] = y at *
          go_wp2_with (at_delete; refine wpList_drop_is rfl _ _ 58 rfl 3 Try.underlying3 Try.underlying58 rfl hm y rfl hoky ?_; intro w3 hm3 hf3)
          have hnA : ∀ j, InB (some ⟨g, off, none⟩) j → ¬ j = bw := fun j hj e => by have := HHI.out j hj; omega
          have e3 : CutL w t bw w.heap.size q (upF q commit) (some ⟨g, off, none⟩) c ((upF q commit).length - (k + 1)) (.int .i64 ((k + 1 : Nat) : Int)) w3 :=
            ⟨k + 1, by omega, rfl, rfl, by rw [← HCUT.out]; exact hm3, HAR.out.fr hf3 hnA, HX.out.fr hf3 (by omega), HFF.out.trans hf3⟩
          have H3 := Lib.hid e3
          clear e3 hm3 hf3
          go_wp2_with fail
          go_roundg ((upF q commit).length - (k + 1))
          case measure => omega
          case rel => exact (by have := H3.out; rwa [show (((k + 1 : Nat) : Int)) = (k : Int) + 1 by omega] at this)
        · obtain rfl : k = (upF q commit).length := by omega
          rw [List.take_length, cutF_up HG.out.nd] at hm
          have HM := Lib.hid hm
          have HAR := Lib.hid ha
          have HFF := Lib.hid hf
          clear hm ha hf hx
          go_wp2_with fail
          go_ret
          refine ⟨A, c, rfl, HAR.out, fun k hk => by have := HHI.out k hk; omega, ⟨⟨bw, bd, HB.out.fr HFF.out (fun e => hbt e.symm), HM.out, HD.out.fr HFF.out (fun e => j3 e.symm), j1, j2, j3⟩, ho, fun k hk => ?_, HG.out.down commit⟩, HFF.out.mono (fun j _ e => by subst e; exact j1)⟩
          have := hlt k hk
          have := HFF.out.size
          omega
    · intro x v left' w1 hmem hperm hun1 hf1 hsz hen
      have HP := Lib.hid hperm
      have HUN := Lib.hid hun1
      have HF1 := Lib.hid hf1
      have hll : left.length = left'.length + 1 := by simpa using hperm.length_eq
      clear hperm hun1 hf1 hmem hUn hsz
      by_cases hv : v ≤ commit
      · have HA := Lib.hid ((HU.out.arr.fr HF1.out (fun k hk e => by have := HU.out.hi k hk; omega)))
        have hB := Bk.new w1 3 #[.int .i64 x]
        have hsrc := rd_one hB
        have harr := HA.out.fr ((Fr.refl NoB w1).alloc (.cells #[.int .i64 x] 3)) (fun _ _ h => h)
        have hxl : xs.length ≤ 1024 := by
          have := HU.out.pm.length_eq
          have := upF_le q commit
          simp only [List.length_append] at *
          omega
        have HR := Lib.hid hsrc
        have HARR := Lib.hid harr
        clear hB hsrc harr
        go_wp2_with (at_builtin; refine wpList_append_arr _ rfl _ _ 25 rfl 3 i0 _ 1 8 Try.underlying25 hi0 hz0 hz1 hz2 rfl A xs.length c (ints xs) rfl HARR.out _ (some ⟨w1.heap.size, 0, none⟩) 1 1 [.int .i64 x] rfl HR.out (by intro u hu; simp at hu; subst hu; rfl) (by simp only [maxLen]; omega) (by omega) ?_; intro A1 c1 w2 harr1 hfr1 hin1 _)
        have HN1 := Lib.hid (HU.out.more HP.out HUN.out HF1.out hv hbwl (.cells #[.int .i64 x] 3) harr1 hfr1 hin1)
        clear harr1 hfr1 hin1
        go_wp2_with fail
        go_roundg left'.length
        case measure => omega
        case rel => exact ⟨left', xs ++ [x], A1, c1, rfl, by rw [List.length_append]; rfl, HN1.out⟩
      · have HN1 := Lib.hid (HU.out.next HP.out HUN.out HF1.out hv)
        go_wp2_with fail
        go_roundg left'.length
        case measure => omega
        case rel => exact ⟨left', xs, A, c, rfl, rfl, HN1.out⟩
end Go.Proofs.Ytjafjhaoogimcaa
