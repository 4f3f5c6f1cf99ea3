/- A pool in memory. -/
import Derived.Test.YtmbabgaanpjmpaaSort
import Derived.Deep.LoopGhost
import Derived.Carry
namespace Go.Proofs.Ytmbabgaanpjmpaa
open Go.RowKit

def Gr (S S' : Nat → Prop) (w : World) : Prop := ∀ k, S' k → S k ∨ w.heap.size ≤ k
def Up (B : Nat) (S : Nat → Prop) : Prop := ∀ k, S k → B ≤ k
theorem Fr.up {S : Nat → Prop} {w w1 w2 : World} (h : Fr NoB w w1) (k : Fr S w1 w2) (hu : Up w.heap.size S) : Fr NoB w w2 :=
  h.join k fun j hj hs => by have := hu j hs; omega
theorem Gr.up {S S' : Nat → Prop} {w : World} {B : Nat} (h : Gr S S' w) (hu : Up B S) (hB : B ≤ w.heap.size) : Up B S' := fun k hk => by
  rcases h k hk with h' | h'
  · exact hu k h'
  · omega

/-- Elements that are pointers to blocks. -/
def evP (o : Option Nat) : Value := .pointer (o.map fun b => ⟨b, 0, none⟩)
def dvP (o : Option Nat) : DataW Unit := match o with
  | none => .lit (.bool false)
  | some b => .lit (.int .i64 b)
def ptrElem (v : Value) : Option (DataW Unit × List MemPlace) := match v with
  | .pointer none => some (dvP none, [])
  | .pointer (some ⟨b, 0, none⟩) => some (dvP (some b), [])
  | _ => none
theorem elemP : ElemK ptrElem evP dvP (fun _ => True) where
  rd x _ := by cases x <;> exact ⟨[], rfl⟩
  inv v y h := by
    unfold ptrElem at h
    split at h
    · cases h; exact ⟨none, rfl, rfl, trivial⟩
    · cases h; exact ⟨some _, rfl, rfl, trivial⟩
    · cases h
  inj x y h := by
    cases x <;> cases y <;> simp [dvP] at h ⊢
    omega
  ne x h := by cases x <;> cases h

structure Frm where
  page : Int
  pins : Int
  lsn : Int
  first : Int
  used : Int
  dirty : Bool
  blk : Nat

def fcells (f : Frm) : Array Value := #[.int .i64 f.pins, .int .i64 f.lsn, .int .i64 f.first, .int .i64 f.used, .bool f.dirty]
def keysP (L : List Frm) : List (Int × Option Nat) := L.map fun f => (f.page, some f.blk)
abbrev MP (w : World) (b : Nat) (q : List (Int × Option Nat)) : Prop := MapIs Try.prog 3 ptrElem dvP w b q
theorem keysP_fst (L : List Frm) : (keysP L).map (·.1) = L.map (·.page) := by simp [keysP]
theorem zero58 (w : World) : (zeroValue 58).run Try.prog w = .ok (evP none) w := by kernel_rfl

/-- The memory alone. -/
structure PoolRaw (w : World) (S : Nat → Prop) (p n : Nat) (fl ck : Int) (L : List Frm) : Prop where
  ex : ∃ bm, Bk w p 53 #[.int .i64 n, .int .i64 fl, .int .i64 ck, .map (some bm)] ∧ MP w bm (keysP L) ∧ S bm
  frs : ∀ f ∈ L, Bk w f.blk 57 (fcells f) ∧ S f.blk
  bn : (L.map (·.blk)).Nodup
  own : S p
  lt : ∀ k, S k → k < w.heap.size

structure PGood (n : Nat) (fl ck N : Int) (L : List Frm) : Prop where
  n1 : 1 ≤ n
  n2 : n ≤ 64
  len : L.length ≤ n
  pg : ∀ f ∈ L, 1 ≤ f.page ∧ f.page ≤ 4096
  pin : ∀ f ∈ L, 0 ≤ f.pins ∧ f.pins ≤ N
  ls : ∀ f ∈ L, 0 ≤ f.lsn ∧ f.lsn ≤ 1099511627776
  fs : ∀ f ∈ L, 0 ≤ f.first ∧ f.first ≤ 1099511627776
  us : ∀ f ∈ L, 0 < f.used ∧ f.used ≤ ck
  srt : L.Pairwise (fun a b => a.used < b.used)
  nd : (L.map (·.page)).Nodup
  f0 : 0 ≤ fl
  f1 : fl ≤ 1099511627776
  c0 : 0 ≤ ck
  c1 : ck ≤ N

section
variable {w w1 : World} {S T : Nat → Prop} {p n : Nat} {fl ck : Int} {L L' : List Frm}

theorem PoolRaw.fr (h : PoolRaw w S p n fl ck L) (hf : Fr T w w1) (hn : ∀ k, S k → ¬ T k) : PoolRaw w1 S p n fl ck L := by
  obtain ⟨⟨bm, hb, hm, h1⟩, hfr, hbn, ho, hlt⟩ := h
  refine ⟨⟨bm, hb.fr hf (hn p ho), hm.fr hf (hn bm h1), h1⟩, fun f hf' => ?_, hbn, ho, fun k hk => ?_⟩
  · obtain ⟨a, b⟩ := hfr f hf'
    exact ⟨a.fr hf (hn _ b), b⟩
  · have := hlt k hk
    have := hf.size
    omega
theorem map_ne_bk {b t : Nat} {U : TypeId} {q : List (Int × Option Nat)} {cs : Array Value} (h : MP w b q) (hb : Bk w t U cs) : b ≠ t := by
  rintro rfl
  obtain ⟨⟨D, ⟨es, clock, h1, _⟩, _⟩, _⟩ := h
  unfold Bk at hb
  rw [h1] at hb
  cases hb

theorem blk_unique : ∀ {L : List Frm}, (L.map (·.blk)).Nodup → ∀ {f g : Frm}, f ∈ L → g ∈ L → f.blk = g.blk → f = g
  | [], _, f, g, hf, _, _ => by simp at hf
  | a :: r, hn, f, g, hf, hg, h => by
    rw [List.map_cons, List.nodup_cons] at hn
    rcases List.mem_cons.1 hf with e1 | hf1
    · rcases List.mem_cons.1 hg with e2 | hg1
      · rw [e1, e2]
      · subst e1
        exact absurd (by rw [h]; exact List.mem_map.2 ⟨g, hg1, rfl⟩) hn.1
    · rcases List.mem_cons.1 hg with e2 | hg1
      · subst e2
        exact absurd (by rw [← h]; exact List.mem_map.2 ⟨f, hf1, rfl⟩) hn.1
      · exact blk_unique hn.2 hf1 hg1 h

/-- A frame's cell is written; the frame may move in the list. -/
theorem PoolRaw.write (h : PoolRaw w S p n fl ck L) {f f' : Frm} (hf : f ∈ L) (o : Nat) (v : Value) (hb : f'.blk = f.blk) (hc : fcells f' = (fcells f).setIfInBounds o v) (hL : ∀ g ∈ L', g = f' ∨ (g ∈ L ∧ g ≠ f)) (hk : (keysP L).Perm (keysP L')) :
    PoolRaw (w.setCell ⟨f.blk, o, none⟩ v) S p n fl ck L' ∧ Fr S w (w.setCell ⟨f.blk, o, none⟩ v) := by
  obtain ⟨⟨bm, hbp, hm, h1⟩, hfr, hbn, ho, hlt⟩ := h
  obtain ⟨bf, sf⟩ := hfr f hf
  have f2 : Fr (fun j => j = f.blk) w (w.setCell ⟨f.blk, o, none⟩ v) := Fr.setCell (S := fun j => j = f.blk) (p := ⟨f.blk, o, none⟩) (Fr.refl _ w) (.inl rfl) _
  have npf : p ≠ f.blk := hbp.types bf (by decide)
  have nmf : bm ≠ f.blk := map_ne_bk hm bf
  refine ⟨⟨⟨bm, hbp.fr f2 npf, (hm.fr f2 nmf).perm hk, h1⟩, fun g hg => ?_, ?_, ho, fun k hk => by have := hlt k hk; simpa using this⟩, f2.mono (fun j _ e => by subst e; exact sf)⟩
  · rcases hL g hg with rfl | ⟨hg1, hg2⟩
    · rw [hb, hc]
      exact ⟨bf.set o v, sf⟩
    · obtain ⟨bg, sg⟩ := hfr g hg1
      exact ⟨bg.fr f2 (fun e => hg2 (blk_unique hbn hg1 hf e)), sg⟩
  · have h2 := hk.map (fun x => x.2)
    have e1 : (keysP L).map (fun x => x.2) = (L.map (·.blk)).map some := by simp [keysP]
    have e2 : (keysP L').map (fun x => x.2) = (L'.map (·.blk)).map some := by simp [keysP]
    rw [e1, e2] at h2
    have h3 : ((L.map (·.blk)).map some).Nodup := List.Pairwise.map _ (fun a b (hab : a ≠ b) => by simpa using hab) hbn
    have h4 := h2.nodup_iff.1 h3
    exact (List.pairwise_map.1 h4).imp (fun hab e => hab (by rw [e]))

/-- The pool's own cells. -/
theorem PoolRaw.flush (h : PoolRaw w S p n fl ck L) (x : Int) : PoolRaw (w.setCell ⟨p, 1, none⟩ (.int .i64 x)) S p n x ck L ∧ Fr S w (w.setCell ⟨p, 1, none⟩ (.int .i64 x)) := by
  obtain ⟨⟨bm, hbp, hm, h1⟩, hfr, hbn, ho, hlt⟩ := h
  have f2 : Fr (fun j => j = p) w (w.setCell ⟨p, 1, none⟩ (.int .i64 x)) := Fr.setCell (S := fun j => j = p) (p := ⟨p, 1, none⟩) (Fr.refl _ w) (.inl rfl) _
  refine ⟨⟨⟨bm, hbp.set 1 _, hm.fr f2 (map_ne_bk hm hbp), h1⟩, fun f hf => ?_, hbn, ho, fun k hk => by have := hlt k hk; simpa using this⟩, f2.mono (fun j _ e => by subst e; exact ho)⟩
  obtain ⟨a, b⟩ := hfr f hf
  exact ⟨a.fr f2 (fun e => a.types hbp (by decide) e), b⟩
theorem PoolRaw.tick (h : PoolRaw w S p n fl ck L) (x : Int) : PoolRaw (w.setCell ⟨p, 2, none⟩ (.int .i64 x)) S p n fl x L ∧ Fr S w (w.setCell ⟨p, 2, none⟩ (.int .i64 x)) := by
  obtain ⟨⟨bm, hbp, hm, h1⟩, hfr, hbn, ho, hlt⟩ := h
  have f2 : Fr (fun j => j = p) w (w.setCell ⟨p, 2, none⟩ (.int .i64 x)) := Fr.setCell (S := fun j => j = p) (p := ⟨p, 2, none⟩) (Fr.refl _ w) (.inl rfl) _
  refine ⟨⟨⟨bm, hbp.set 2 _, hm.fr f2 (map_ne_bk hm hbp), h1⟩, fun f hf => ?_, hbn, ho, fun k hk => by have := hlt k hk; simpa using this⟩, f2.mono (fun j _ e => by subst e; exact ho)⟩
  obtain ⟨a, b⟩ := hfr f hf
  exact ⟨a.fr f2 (fun e => a.types hbp (by decide) e), b⟩
end
theorem PGood.mono {n : Nat} {fl ck N N' : Int} {L : List Frm} (h : PGood n fl ck N L) (hN : N ≤ N') : PGood n fl ck N' L :=
  ⟨h.n1, h.n2, h.len, h.pg, fun f hf => ⟨(h.pin f hf).1, by have := (h.pin f hf).2; omega⟩, h.ls, h.fs, h.us, h.srt, h.nd, h.f0, h.f1, h.c0, by have := h.c1; omega⟩

/-- The frame of a page. -/
theorem val_page {L : List Frm} (hn : (L.map (·.page)).Nodup) {f : Frm} (hf : f ∈ L) : val (keysP L) none f.page = some f.blk :=
  val_mem (by rw [keysP_fst]; exact hn) (List.mem_map.2 ⟨f, hf, rfl⟩)
theorem val_none {L : List Frm} {x : Int} (h : ∀ f ∈ L, f.page ≠ x) : val (keysP L) none x = none :=
  val_not (mem_key.2 (by
    rw [keysP_fst]
    intro hx
    obtain ⟨f, hf, e⟩ := List.mem_map.1 hx
    exact h f hf e))

theorem at_some {w : World} {S : Nat → Prop} {p n : Nat} {fl ck N : Int} {L : List Frm} (h : PoolRaw w S p n fl ck L) (hg : PGood n fl ck N L) {f : Frm} (hf : f ∈ L) :
    Calls Try.prog 26 #[.pointer (some ⟨p, 0, none⟩), .int .i64 f.page] w fun e w' => e = .returned (.pointer (some ⟨f.blk, 0, none⟩)) ∧ w = w' := by
  obtain ⟨⟨bm, hb, hm, _⟩, _⟩ := h
  have c3 : w.cell? ⟨p, 3, none⟩ = some (.map (some bm)) := hb.cell 3
  have hp := hg.pg f hf
  have hl := hm.run_look elemP Try.underlying3 Try.underlying51 none trivial (zero58 w) (x := f.page) (by unfold okI; omega)
  rw [val_page hg.nd hf] at hl
  have hl' : (Instr.lookup 51 (.map (some bm)) (.int .i64 f.page) false).run Try.prog w = .ok (.pointer (some ⟨f.blk, 0, none⟩)) w := hl
  clear hb hm hg hl
  go_enter Try.func26, Try.ntmps26
  go_wp2_with fail
  go_ret
  exact ⟨rfl, rfl⟩
theorem at_none {w : World} {S : Nat → Prop} {p n : Nat} {fl ck : Int} {L : List Frm} (h : PoolRaw w S p n fl ck L) {x : Int} (hx : okI x) (hn : ∀ f ∈ L, f.page ≠ x) :
    Calls Try.prog 26 #[.pointer (some ⟨p, 0, none⟩), .int .i64 x] w fun e w' => e = .returned (.pointer none) ∧ w = w' := by
  obtain ⟨⟨bm, hb, hm, _⟩, _⟩ := h
  have c3 : w.cell? ⟨p, 3, none⟩ = some (.map (some bm)) := hb.cell 3
  have hl := hm.run_look elemP Try.underlying3 Try.underlying51 none trivial (zero58 w) hx
  rw [val_none hn] at hl
  have hl' : (Instr.lookup 51 (.map (some bm)) (.int .i64 x) false).run Try.prog w = .ok (.pointer none) w := hl
  clear hb hm hl hn
  go_enter Try.func26, Try.ntmps26
  go_wp2_with fail
  go_ret
  exact ⟨rfl, rfl⟩
theorem at_nil (x : Int) (w : World) : Calls Try.prog 26 #[.pointer none, .int .i64 x] w fun e w' => e = .returned (.pointer none) ∧ w = w' := by
  go_enter Try.func26, Try.ntmps26
  go_wp2_with fail
  go_ret
  exact ⟨rfl, rfl⟩

def NewPost (n : Int) (w : World) (e : Ending) (w' : World) : Prop :=
  (1 ≤ n ∧ n ≤ 64 ∧ ∃ p S, w.heap.size ≤ p ∧ e = .returned (.tuple #[.pointer (some ⟨p, 0, none⟩), .int .i64 0]) ∧ PoolRaw w' S p n.toNat 0 0 [] ∧ Up w.heap.size S ∧ Fr NoB w w') ∨
  (¬ (1 ≤ n ∧ n ≤ 64) ∧ e = .returned (.tuple #[.pointer none, .int .i64 1]) ∧ Fr NoB w w')
theorem PGood.empty {n : Nat} (h1 : 1 ≤ n) (h2 : n ≤ 64) : PGood n 0 0 0 [] :=
  ⟨h1, h2, by simp, fun _ h => by simp at h, fun _ h => by simp at h, fun _ h => by simp at h, fun _ h => by simp at h, fun _ h => by simp at h, List.Pairwise.nil, List.nodup_nil, by omega, by omega, by omega, by omega⟩

theorem new_any (n : Int) (w : World) : Calls Try.prog 7 #[.int .i64 n] w (NewPost n w) := by
  by_cases h1 : n < 1
  · go_enter Try.func7, Try.ntmps7
    go_wp2_with fail
    go_ret2
    exact .inr ⟨by omega, rfl, Fr.refl _ _⟩
  by_cases h2 : 64 < n
  · go_enter Try.func7, Try.ntmps7
    go_wp2_with fail
    go_ret2
    exact .inr ⟨by omega, rfl, Fr.refl _ _⟩
  obtain ⟨k, rfl⟩ := Int.eq_ofNat_of_zero_le (by omega : 0 ≤ n)
  have hmm := @run_makeMap Try.prog
  have hp : NewPost k w (.returned (.tuple #[.pointer (some ⟨w.heap.size + 1, 0, none⟩), .int .i64 0])) ((w.alloc (.map #[] 0)).alloc (.cells #[.int .i64 k, .int .i64 0, .int .i64 0, .map (some w.heap.size)] 53)) := by
    have e1 : (w.alloc (.map #[] 0)).heap.size = w.heap.size + 1 := by simp
    have m1 : MP (w.alloc (.map #[] 0)) w.heap.size [] := MapIs.made w Try.prog 3 _ _
    have f3 : Fr NoB (w.alloc (.map #[] 0)) ((w.alloc (.map #[] 0)).alloc (.cells #[.int .i64 k, .int .i64 0, .int .i64 0, .map (some w.heap.size)] 53)) := (Fr.refl _ _).alloc _
    have b3 := Bk.new (w.alloc (.map #[] 0)) 53 #[.int .i64 k, .int .i64 0, .int .i64 0, .map (some w.heap.size)]
    rw [e1] at b3
    exact .inl ⟨by omega, by omega, w.heap.size + 1, fun j => w.heap.size ≤ j ∧ j < w.heap.size + 2, by omega, rfl,
      ⟨⟨w.heap.size, by rw [Int.toNat_natCast]; exact b3, m1.fr f3 (fun h => h), by omega⟩, fun f hf => by simp at hf, List.nodup_nil, by omega, fun j hj => by simp; omega⟩, fun j hj => hj.1, ((Fr.refl NoB w).alloc _).alloc _⟩
  have HP := Lib.hid hp
  clear hp
  go_enter Try.func7, Try.ntmps7
  go_wp2_with fail
  go_ret2
  exact HP.out
end Go.Proofs.Ytmbabgaanpjmpaa
