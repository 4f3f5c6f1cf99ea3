/- A disk in memory: what lasts, what waits; what is seen follows. Contracts of has, Waits. -/
import Derived.Test.YtghddmdehbacaaaMid
namespace Go.Proofs.Ytghddmdehbacaaa
open Go.RowKit

/-- What is seen behind the writes that wait. -/
def apply (q : List (Nat × List UInt8)) (las : List (List UInt8)) : List (List UInt8) := q.foldl (fun l p => l.set p.1 p.2) las
def wcell (p : Nat × List UInt8) : List Value := .int .i64 p.1 :: bv p.2
def qcells (q : List (Nat × List UInt8)) : List Value := (q.map wcell).flatten

theorem apply_len (q : List (Nat × List UInt8)) : ∀ las, (apply q las).length = las.length := by
  induction q with
  | nil => intro las; rfl
  | cons p r ih => intro las; simp only [apply, List.foldl_cons] at ih ⊢; rw [ih]; simp
theorem apply_snoc (q : List (Nat × List UInt8)) (p : Nat × List UInt8) (las : List (List UInt8)) : apply (q ++ [p]) las = (apply q las).set p.1 p.2 := by simp [apply]
theorem apply_all {q : List (Nat × List UInt8)} : ∀ {las : List (List UInt8)}, (∀ s ∈ las, s.length = 256) → (∀ p ∈ q, p.2.length = 256) → ∀ s ∈ apply q las, s.length = 256 := by
  induction q with
  | nil => intro las h _; exact h
  | cons p r ih =>
    intro las h hq
    simp only [apply, List.foldl_cons] at ih ⊢
    refine ih (fun s hs => ?_) (fun x hx => hq x (List.mem_cons_of_mem _ hx))
    rcases List.mem_or_eq_of_mem_set hs with h' | h'
    · exact h s h'
    · subst h'
      exact hq p List.mem_cons_self

structure DiskAt (w : World) (S : Nat → Prop) (d : Nat) (las : List (List UInt8)) (q : List (Nat × List UInt8)) : Prop where
  ex : ∃ gl gs Aq cq, Bk w d 54 #[.slice (some ⟨gl, 0, none⟩) las.length las.length, .slice (some ⟨gs, 0, none⟩) las.length las.length, .slice Aq q.length cq] ∧
    Row w gl 57 256 (las.map bv) ∧ Row w gs 57 256 ((apply q las).map bv) ∧ Arr w 59 257 Aq q.length cq (qcells q) ∧ gl ≠ gs ∧ S gl ∧ S gs ∧ ∀ k, InB Aq k → S k
  own : S d
  lt : ∀ k, S k → k < w.heap.size
  las_len : ∀ s ∈ las, s.length = 256
  q_ok : ∀ p ∈ q, p.1 < las.length ∧ p.2.length = 256
  pos : 0 < las.length
  few : las.length ≤ 8192

theorem DiskAt.fr {S T : Nat → Prop} {w w1 : World} {d : Nat} {las : List (List UInt8)} {q : List (Nat × List UInt8)} (h : DiskAt w S d las q) (hf : Fr T w w1) (hn : ∀ k, S k → ¬ T k) : DiskAt w1 S d las q := by
  obtain ⟨⟨gl, gs, Aq, cq, hb, h1, h2, h3, h4, h5, h6, h7⟩, ho, hlt, hl, hq, hp, hw⟩ := h
  refine ⟨⟨gl, gs, Aq, cq, hb.fr hf (hn d ho), h1.fr hf (hn _ h5), h2.fr hf (hn _ h6), h3.fr hf fun k hk => hn k (h7 k hk), h4, h5, h6, h7⟩, ho, fun k hk => ?_, hl, hq, hp, hw⟩
  have := hlt k hk
  have := hf.size
  omega

def Gr (S S' : Nat → Prop) (w : World) : Prop := ∀ k, S' k → S k ∨ w.heap.size ≤ k
def Up (B : Nat) (S : Nat → Prop) : Prop := ∀ k, S k → B ≤ k
theorem Gr.up {B : Nat} {S S' : Nat → Prop} {w : World} (h : Gr S S' w) (hu : Up B S) (hB : B ≤ w.heap.size) : Up B S' := fun k hk => by
  rcases h k hk with h | h
  · exact hu k h
  · omega
theorem Fr.up {S : Nat → Prop} {w w1 w2 : World} (h : Fr NoB w w1) (k : Fr S w1 w2) (hu : Up w.heap.size S) : Fr NoB w w2 :=
  h.join k fun j hj hs => by have := hu j hs; omega

/-- The disk's three words alone. -/
theorem DiskAt.words {S : Nat → Prop} {w : World} {d : Nat} {las : List (List UInt8)} {q : List (Nat × List UInt8)} (h : DiskAt w S d las q) :
    ∃ gl gs Aq cq, w.cell? ⟨d, 0, none⟩ = some (.slice (some ⟨gl, 0, none⟩) las.length las.length) ∧ w.cell? ⟨d, 1, none⟩ = some (.slice (some ⟨gs, 0, none⟩) las.length las.length) ∧ w.cell? ⟨d, 2, none⟩ = some (.slice Aq q.length cq) := by
  obtain ⟨⟨gl, gs, Aq, cq, hb, _⟩, _⟩ := h
  exact ⟨gl, gs, Aq, cq, hb.cell 0, hb.cell 1, hb.cell 2⟩

def hasB (m : Nat) (i : Int) : Bool := decide (0 ≤ i ∧ i < m)

theorem has_any {S : Nat → Prop} {d : Nat} {las : List (List UInt8)} {q : List (Nat × List UInt8)} (i : Int) (w : World) (h : DiskAt w S d las q) :
    Calls Try.prog 20 #[.pointer (some ⟨d, 0, none⟩), .int .i64 i] w fun e w' => e = .returned (.bool (hasB las.length i)) ∧ w = w' := by
  obtain ⟨gl, gs, Aq, cq, _, c1, _⟩ := h.words
  clear h
  by_cases h1 : 0 ≤ i
  · by_cases h2 : i < las.length
    · go_enter Try.func20, Try.ntmps20
      go_wp2
      go_ret
      exact ⟨by simp [hasB, h1, h2], rfl⟩
    · go_enter Try.func20, Try.ntmps20
      go_wp2
      go_ret
      exact ⟨by simp [hasB, h1]; omega, rfl⟩
  · have h1' : decide (0 ≤ i) = false := by simpa using h1
    go_enter Try.func20, Try.ntmps20
    go_wp2
    go_ret
    exact ⟨by simp [hasB]; omega, rfl⟩

theorem has_nil (i : Int) (w : World) : Calls Try.prog 20 #[.pointer none, .int .i64 i] w fun e w' => e = .returned (.bool false) ∧ w = w' := by
  go_enter Try.func20, Try.ntmps20
  go_wp2
  go_ret
  exact ⟨rfl, rfl⟩

theorem waits_any {S : Nat → Prop} {d : Nat} {las : List (List UInt8)} {q : List (Nat × List UInt8)} (w : World) (h : DiskAt w S d las q) :
    Calls Try.prog 10 #[.pointer (some ⟨d, 0, none⟩)] w fun e w' => e = .returned (.int .i64 q.length) ∧ w = w' := by
  obtain ⟨gl, gs, Aq, cq, _, _, c2⟩ := h.words
  clear h
  go_enter Try.func10, Try.ntmps10
  go_wp2
  go_ret
  exact ⟨rfl, rfl⟩

theorem waits_nil (w : World) : Calls Try.prog 10 #[.pointer none] w fun e w' => e = .returned (.int .i64 0) ∧ w = w' := by
  go_enter Try.func10, Try.ntmps10
  go_wp2
  go_ret
  exact ⟨rfl, rfl⟩

/-- Zero values behind plain words. -/
def zcells : Array Value := Array.replicate 256 (.int .u8 0)
def zw : Value := .agg (#[.int .i64 0] ++ zcells)
theorem zcells_bv : zcells.toList = bv (List.replicate 256 0) := by
  unfold zcells bv
  rw [Array.toList_replicate, List.map_replicate]
  rfl
theorem zero57 : (Try.prog.info? 57).map (·.zero) = some (some (.agg zcells)) := by kernel_rfl
theorem zero59 : (Try.prog.info? 59).map (·.zero) = some (some zw) := by kernel_rfl
theorem size57 : (Try.prog.info? 57).map (·.size) = some 256 := by kernel_rfl
theorem size59 : (Try.prog.info? 59).map (·.size) = some 257 := by kernel_rfl
theorem size5 : (Try.prog.info? 5).map (·.size) = some 1 := by kernel_rfl
theorem size3 : (Try.prog.info? 3).map (·.size) = some 1 := by kernel_rfl

/-- What Read and Lasts hand out: a new array. -/
def ReadPost (w : World) (s : List UInt8) (e : Ending) (w' : World) : Prop :=
  ∃ x, w.heap.size ≤ x ∧ e = .returned (.tuple #[.slice (some ⟨x, 0, none⟩) 256 256, .int .i64 0]) ∧ Rd w' (fun k => k = x) 1 (some ⟨x, 0, none⟩) 256 256 (bv s) ∧ Fr NoB w w'
def ReadNone (w : World) (e : Ending) (w' : World) : Prop := e = .returned (.tuple #[.slice none 0 0, .int .i64 6]) ∧ Fr NoB w w'

theorem read_none {S : Nat → Prop} {d : Nat} {las : List (List UInt8)} {q : List (Nat × List UInt8)} (i : Int) (w : World) (h : DiskAt w S d las q) (hi : hasB las.length i = false) :
    Calls Try.prog 13 #[.pointer (some ⟨d, 0, none⟩), .int .i64 i] w (ReadNone w) := by
  have hh := has_any i w h
  clear h
  go_enter Try.func13, Try.ntmps13
  go_wp2_with fail
  refine hh.mono ?_
  rintro e w' ⟨rfl, rfl⟩
  rw [hi]
  go_wp2_with fail
  go_ret2
  exact ⟨rfl, Fr.refl _ _⟩

theorem lasts_none {S : Nat → Prop} {d : Nat} {las : List (List UInt8)} {q : List (Nat × List UInt8)} (i : Int) (w : World) (h : DiskAt w S d las q) (hi : hasB las.length i = false) :
    Calls Try.prog 19 #[.pointer (some ⟨d, 0, none⟩), .int .i64 i] w (ReadNone w) := by
  have hh := has_any i w h
  clear h
  go_enter Try.func19, Try.ntmps19
  go_wp2_with fail
  refine hh.mono ?_
  rintro e w' ⟨rfl, rfl⟩
  rw [hi]
  go_wp2_with fail
  go_ret2
  exact ⟨rfl, Fr.refl _ _⟩

theorem hasB_nat {m k : Nat} (h : k < m) : hasB m k = true := decide_eq_true (by omega)

theorem Row.get {w : World} {g : Nat} {e : TypeId} {L : List (List UInt8)} (h : Row w g e 256 (L.map bv)) {k : Nat} {s : List UInt8} (hk : L[k]? = some s) : w.rangeAt g (k * 256) (bv s) := h.at_ k _ (by simp [hk])

/-- A new array that is filled at once. -/
theorem new_filled (w : World) (e : TypeId) (s : List UInt8) (hs : s.length = 256) :
    ((w.alloc (.cells zcells e)).setCells w.heap.size 0 (bv s)).rangeAt w.heap.size 0 (bv s) ∧ (w.alloc (.cells zcells e)).there w.heap.size 0 256 ∧ Fr NoB w ((w.alloc (.cells zcells e)).setCells w.heap.size 0 (bv s)) := by
  have hb := Bk.new w e zcells
  have ht : (w.alloc (.cells zcells e)).there w.heap.size 0 256 := hb.there (by simp [zcells])
  refine ⟨World.rangeAt_setCells_same _ _ _ _ (by rw [bv_len, hs]; exact ht), ht, Fr.setCells (.inr (Nat.le_refl _)) _ _ ((Fr.refl _ _).alloc _)⟩
theorem bv_all (s : List UInt8) : (bv s).toArray.all (·.oneCell') = true := all_oneCell_toArray (bv_one s)
theorem rd_of_range {w : World} {g o : Nat} {s : List UInt8} {n c : Nat} (h : w.rangeAt g o (bv s)) (hn : s.length = n) (hc : n ≤ c) (hm : c ≤ maxLen) (hg : g < w.heap.size) : Rd w (fun k => k = g) 1 (some ⟨g, o, none⟩) n c (bv s) :=
  ⟨by simp [bv_len, hn], hc, hm, (fun h => by cases h), fun a ha _ => by cases ha; exact ⟨rfl, hg, rangeAt_at h⟩⟩

theorem read_some {S : Nat → Prop} {d : Nat} {las : List (List UInt8)} {q : List (Nat × List UInt8)} (k : Nat) (s : List UInt8) (w : World) (h : DiskAt w S d las q) (hk : (apply q las)[k]? = some s) :
    Calls Try.prog 13 #[.pointer (some ⟨d, 0, none⟩), .int .i64 k] w (ReadPost w s) := by
  have hh := has_any k w h
  have hkl : k < las.length := by have := (List.getElem?_eq_some_iff.1 hk).1; rwa [apply_len] at this
  rw [hasB_nat hkl] at hh
  have hs : s.length = 256 := apply_all h.las_len (fun p hp => (h.q_ok p hp).2) s (List.mem_of_getElem? hk)
  obtain ⟨⟨gl, gs, Aq, cq, hb, _, h2, _⟩, _⟩ := h
  have c1 : w.cell? ⟨d, 1, none⟩ = some (.slice (some ⟨gs, 0, none⟩) las.length las.length) := hb.cell 1
  have hr := h2.get hk
  have hsz : (Try.prog.info? 57).map (·.size) = some (bv s).length := by rw [size57, bv_len, hs]
  have hsz' : (Try.prog.info? 57).map (·.size) = some (bv s).toArray.size := by rw [hsz]; simp
  clear hb
  obtain ⟨hn, ht, hf⟩ := new_filled w 57 s hs
  go_enter Try.func13, Try.ntmps13
  go_wp2_with fail
  refine hh.mono ?_
  rintro e w' ⟨rfl, rfl⟩
  have HR := Lib.hid hr
  have HT := Lib.hid ht
  have HS := Lib.hid hsz
  have HS2 := Lib.hid hsz'
  have hL : s.length = (bv s).toArray.size := by simp [bv_len]
  have HL := Lib.hid hL
  clear hr ht hsz hsz' hL
  go_wp2_with (first
    | (refine wpList_load_mid rfl 57 _ rfl gs (k * 256) rfl (bv s) _ HR.out Try.underlying57 rfl HS.out ?_)
    | (refine wpList_alloc_z rfl 57 _ rfl zero57 ?_)
    | (refine wpList_store_mid rfl 57 _ _ rfl w.heap.size 0 (bv s).toArray rfl rfl (by rw [← HL.out, hs]; exact HT.out) HS2.out (bv_all s) ?_)
    | fail)
  go_ret2
  refine ⟨w.heap.size, Nat.le_refl _, rfl, ?_, by simpa using hf⟩
  have hz := hf.size
  refine rd_of_range ?_ hs (Nat.le_refl _) (by simp [maxLen]) ?_
  · simpa using hn
  · rw [size_setCells]
    simp

theorem lasts_some {S : Nat → Prop} {d : Nat} {las : List (List UInt8)} {q : List (Nat × List UInt8)} (k : Nat) (s : List UInt8) (w : World) (h : DiskAt w S d las q) (hk : (las)[k]? = some s) :
    Calls Try.prog 19 #[.pointer (some ⟨d, 0, none⟩), .int .i64 k] w (ReadPost w s) := by
  have hh := has_any k w h
  have hkl : k < las.length := (List.getElem?_eq_some_iff.1 hk).1
  rw [hasB_nat hkl] at hh
  have hs : s.length = 256 := h.las_len s (List.mem_of_getElem? hk)
  obtain ⟨⟨gl, gs, Aq, cq, hb, h2, _⟩, _⟩ := h
  have c1 : w.cell? ⟨d, 0, none⟩ = some (.slice (some ⟨gl, 0, none⟩) las.length las.length) := hb.cell 0
  have hr := h2.get hk
  have hsz : (Try.prog.info? 57).map (·.size) = some (bv s).length := by rw [size57, bv_len, hs]
  have hsz' : (Try.prog.info? 57).map (·.size) = some (bv s).toArray.size := by rw [hsz]; simp
  clear hb
  obtain ⟨hn, ht, hf⟩ := new_filled w 57 s hs
  go_enter Try.func19, Try.ntmps19
  go_wp2_with fail
  refine hh.mono ?_
  rintro e w' ⟨rfl, rfl⟩
  have HR := Lib.hid hr
  have HT := Lib.hid ht
  have HS := Lib.hid hsz
  have HS2 := Lib.hid hsz'
  have hL : s.length = (bv s).toArray.size := by simp [bv_len]
  have HL := Lib.hid hL
  clear hr ht hsz hsz' hL
  go_wp2_with (first
    | (refine wpList_load_mid rfl 57 _ rfl gl (k * 256) rfl (bv s) _ HR.out Try.underlying57 rfl HS.out ?_)
    | (refine wpList_alloc_z rfl 57 _ rfl zero57 ?_)
    | (refine wpList_store_mid rfl 57 _ _ rfl w.heap.size 0 (bv s).toArray rfl rfl (by rw [← HL.out, hs]; exact HT.out) HS2.out (bv_all s) ?_)
    | fail)
  go_ret2
  refine ⟨w.heap.size, Nat.le_refl _, rfl, ?_, by simpa using hf⟩
  have hz := hf.size
  refine rd_of_range ?_ hs (Nat.le_refl _) (by simp [maxLen]) ?_
  · simpa using hn
  · rw [size_setCells]
    simp
end Go.Proofs.Ytghddmdehbacaaa
