/- slices.SortFunc on an array of ints: a permutation of what it held, sorted. -/
import Derived.Test.YtmbabgaanpjmpaaFmap
import Derived.Test.YtmbabgaanpjmpaaLay
namespace Go.Proofs.Ytmbabgaanpjmpaa
open Go.RowKit Go.Sort Go.Lib

def ints (l : List Int) : List Value := l.map (Value.int .i64)
theorem ints_len (l : List Int) : (ints l).length = l.length := by simp [ints]
theorem ints_one (l : List Int) : ∀ u ∈ ints l, u.oneCell' = true := by
  intro u hu
  obtain ⟨x, _, rfl⟩ := List.mem_map.1 hu
  rfl

def encI {ok : Int → Prop} (x : {x : Int // ok x}) : Value := .int .i64 x.1
def toI {ok : Int → Prop} [DecidablePred ok] [Inhabited {x : Int // ok x}] (x : Int) : {x : Int // ok x} := if h : ok x then ⟨x, h⟩ else default
theorem toI_val {ok : Int → Prop} [DecidablePred ok] [Inhabited {x : Int // ok x}] {x : Int} (h : ok x) : (toI (ok := ok) x).1 = x := by unfold toI; rw [dif_pos h]

section
variable {α : Type} [Inhabited α] {w : World} {t : TypeId} {cur : Array Value}
theorem sortWorld_heap (enc : α → Value) (w : World) (blk off m : Nat) (dk : Array α) (os : Array Obj) {j : Nat} (hj : j < w.heap.size) :
    (sortWorld enc w blk off m dk os).heap[j]? = ((w.heap.modify blk (onCells (putCells enc off dk))))[j]? := by
  unfold sortWorld
  rw [heap_grow_old _ _ (by simpa using hj)]
  rfl
theorem sortWorld_fr (enc : α → Value) (w : World) (blk off m : Nat) (dk : Array α) (os : Array Obj) : Fr (fun j => j = blk) w (sortWorld enc w blk off m dk os) := by
  refine ⟨rfl, rfl, rfl, by simp [sortWorld], fun j hj hn => ?_⟩
  rw [sortWorld_heap enc w blk off m dk os hj, Array.getElem?_modify, if_neg (fun e => hn e.symm)]
theorem sortWorld_bk (enc : α → Value) (blk off m : Nat) (dk : Array α) (os : Array Obj) (h : Bk w blk t cur) : Bk (sortWorld enc w blk off m dk os) blk t (putCells enc off dk cur) := by
  have h' := h
  unfold Bk at h' ⊢
  rw [sortWorld_heap enc w blk off m dk os h.lt, Array.getElem?_modify, if_pos rfl, h']
  rfl
theorem grow_fr (w : World) (q : Nat) (os : Array Obj) : Fr NoB w (Sort.grow (w.drewN q) os) :=
  ⟨rfl, rfl, rfl, by simp, fun j hj _ => heap_grow_old (w.drewN q) os hj⟩
end

theorem sort_any (ok : Int → Prop) [DecidablePred ok] (lt : Int → Int → Bool) (cf : Int → Int → Int) (hcf : ∀ x y, decide (cf x y < 0) = lt x y) (h1 : ∀ x, lt x x = false) (h2 : ∀ x y z, lt x y = true → lt y z = true → lt x z = true) (h3 : ∀ x y, ok x → ok y → lt x y = false → lt y x = false → x = y)
    (f : Nat) (cb : Array Value) (eg : ∀ args w, (callFunc f args).run Try.prog w = .ok (.enter f args) w) (A : Option Addr) (n c : Nat) (xs : List Int) (w : World) (harr : Arr w 3 1 A n c (ints xs)) (hok : ∀ x ∈ xs, ok x)
    (hc : ∀ W, Fr (InB A) w W → ∀ x y, ok x → ok y → Calls Try.prog f (#[.int .i64 x, .int .i64 y] ++ cb) W fun e w' => e = .returned (.int .i64 (cf x y)) ∧ ∃ q os, w' = Sort.grow (W.drewN q) os) (hn : n < 4611686018427387904) :
    Calls Try.prog 23 #[.slice A n c, .func (.func f) #[] cb] w fun e w' => e = .returned (.tuple #[]) ∧ ∃ ys : List Int, ys.Perm xs ∧ ys.Pairwise (fun a b => lt a b = true ∨ a = b) ∧ Arr w' 3 1 A n c (ints ys) ∧ Fr (InB A) w w' := by
  have hlen : xs.length = n := by have := harr.1; rwa [ints_len, Nat.mul_one] at this
  by_cases h0 : n = 0
  · subst h0
    have hx : xs = [] := List.eq_nil_of_length_eq_zero hlen
    subst hx
    have h := AnyF.slices_SortFunc_none (P := Try.prog) (ρ := Try.sortL_ren) { Try.sortL with } A c (.func (.func f) #[] cb) w
    change Calls Try.prog 23 _ _ _ at h
    exact h.mono fun e w' ⟨he, hw⟩ => ⟨he, [], List.Perm.refl _, List.Pairwise.nil, by rw [hw]; exact harr, by rw [hw]; exact Fr.refl _ _⟩
  · obtain ⟨g, cur, rfl, hb, hnc, hcm, hcs, htake⟩ : ∃ g cur, A = some ⟨g, 0, none⟩ ∧ Bk w g 3 cur ∧ n ≤ c ∧ c ≤ maxLen ∧ c * 1 ≤ cur.size ∧ cur.toList.take (n * 1) = ints xs := by
      rcases harr.2 with ⟨_, h, _⟩ | h
      · exact absurd h h0
      · exact h
    rw [Nat.mul_one] at htake
    haveI : Inhabited {x : Int // ok x} := ⟨⟨xs[0]'(by omega), hok _ (List.getElem_mem _)⟩⟩
    obtain ⟨d, hd⟩ : ∃ d : Array {x : Int // ok x}, d = (xs.map toI).toArray := ⟨_, rfl⟩
    have hds : d.size = n := by rw [hd]; simpa using hlen
    have hget : ∀ j (h : j < xs.length), d[j]!.1 = xs[j] := fun j h => by
      rw [getElem!_pos d j (by omega)]
      simp only [hd, List.getElem_toArray, List.getElem_map]
      exact toI_val (hok _ (List.getElem_mem h))
    have hH : Holds encI w g 0 d := fun j hj => by
      have hj' : j < xs.length := by omega
      refine ⟨?_, hb.frozen _⟩
      rw [Nat.zero_add, hb.cell]
      have e1 : cur.toList[j]? = some (.int .i64 xs[j]) := by
        have : (cur.toList.take n)[j]? = some (.int .i64 xs[j]) := by
          rw [htake]
          simp [ints, hj']
        rwa [List.getElem?_take, if_pos (by omega)] at this
      rw [Array.getElem?_toList] at e1
      rw [e1]
      unfold encI
      rw [hget j hj']
    have hlt : ∀ x y : {x : Int // ok x}, ltOf (fun a b : {x : Int // ok x} => cf a.1 b.1) x y = lt x.1 y.1 := fun x y => hcf x.1 y.1
    have hO : SWO (ltOf fun a b : {x : Int // ok x} => cf a.1 b.1) := by
      refine ⟨fun x => ?_, fun x y z => ?_, fun x y z => ?_⟩
      · rw [hlt]; exact h1 _
      · rw [hlt, hlt, hlt]; exact h2 _ _ _
      · rw [hlt, hlt, hlt]
        intro a b
        cases hxz : lt x.1 z.1 with
        | false => rfl
        | true =>
          exfalso
          by_cases hxy : lt y.1 x.1 = true
          · have := h2 _ _ _ hxy hxz
            rw [b] at this
            cases this
          · have := h3 _ _ x.2 y.2 a (by simpa using hxy)
            rw [this, b] at hxz
            cases hxz
    have hT : ∀ x y : {x : Int // ok x}, (ltOf fun a b : {x : Int // ok x} => cf a.1 b.1) x y = false → (ltOf fun a b : {x : Int // ok x} => cf a.1 b.1) y x = false → x = y := fun x y a b => by
      rw [hlt] at a b
      exact Subtype.ext (h3 _ _ x.2 y.2 a b)
    have hcmp : CmpLays1 Try.prog f cb encI (fun a b => cf a.1 b.1) g 0 d.size w := fun m os dk _ x y =>
      hc _ ((sortWorld_fr encI w g 0 m dk os).mono (fun j _ e => by simp [InB, e])) x.1 y.1 x.2 y.2
    have h := Any.slices_SortFunc_total Try.sortL encI (fun _ => rfl) (fun a b => cf a.1 b.1) hO f cb g 0 c d w eg hcmp hH hb.lt (by rw [hds]; exact hn) hT
    rw [hds] at h
    change Calls Try.prog 23 _ _ _ at h
    refine h.mono ?_
    rintro e w' ⟨he, m, os, rfl⟩
    obtain ⟨zs, hzs⟩ : ∃ zs, zs = d.toList.mergeSort fun x y => !(ltOf fun a b : {x : Int // ok x} => cf a.1 b.1) y x := ⟨_, rfl⟩
    rw [← hzs]
    have hperm : zs.Perm d.toList := by rw [hzs]; exact List.mergeSort_perm _ _
    have hzl : zs.length = n := by rw [hperm.length_eq]; simpa using hds
    have hsort : zs.Pairwise (fun x y => (!(ltOf fun a b : {x : Int // ok x} => cf a.1 b.1) y x) = true) := by
      rw [hzs]
      refine List.pairwise_mergeSort (fun x y z a b => ?_) (fun x y => ?_) _
      · rw [Bool.not_eq_true'] at a b ⊢
        exact hO.ntrans _ _ _ b a
      · rw [Bool.or_eq_true, Bool.not_eq_true', Bool.not_eq_true', hlt, hlt]
        cases hxy : lt y.1 x.1 with
        | false => exact .inl rfl
        | true =>
          refine .inr ?_
          cases hyx : lt x.1 y.1 with
          | false => rfl
          | true =>
            have := h2 _ _ _ hxy hyx
            rw [h1] at this
            cases this
    have hdm : d.toList.map (·.1) = xs := by
      rw [hd]
      simp only [List.map_map]
      conv => rhs; rw [← List.map_id xs]
      exact List.map_congr_left fun x hx => toI_val (hok x hx)
    refine ⟨he, zs.map (·.1), ?_, ?_, ⟨by rw [ints_len, List.length_map, hzl, Nat.mul_one], .inr ⟨g, _, rfl, sortWorld_bk encI g 0 m zs.toArray os hb, hnc, hcm, by simpa [putCells] using hcs, ?_⟩⟩, (sortWorld_fr encI w g 0 m _ os).mono (fun j _ e => by simp [InB, e])⟩
    · have := hperm.map (·.1)
      rwa [hdm] at this
    · rw [List.pairwise_map]
      refine hsort.imp (fun {x y} a => ?_)
      rw [Bool.not_eq_true', hlt] at a
      cases hxy : lt x.1 y.1 with
      | true => exact .inl rfl
      | false => exact .inr (h3 _ _ x.2 y.2 hxy a)
    · rw [Nat.mul_one]
      apply List.ext_getElem?
      intro j
      by_cases hj : j < n
      · rw [List.getElem?_take, if_pos hj, Array.getElem?_toList]
        have hjc : j < cur.size := by omega
        simp only [putCells, Array.getElem?_mapIdx, Array.getElem?_eq_getElem hjc, Option.map_some, List.size_toArray, hzl]
        rw [if_pos ⟨Nat.zero_le _, by omega⟩]
        simp [ints, encI, hzl, hj]
      · rw [List.getElem?_eq_none (by simp; omega), List.getElem?_eq_none (by rw [ints_len, List.length_map]; omega)]
end Go.Proofs.Ytmbabgaanpjmpaa
