/- The document's disk: the contract of Crash. -/
import Derived.Test.YtghddmdehbacaaaRefWrite
namespace Go.Proofs.Ytghddmdehbacaaa
open Go.RowKit

def tornL (q : List (Nat × List UInt8)) (keep torn : Nat) (l : List (List UInt8)) : List (List UInt8) :=
  match q[keep]? with
  | none => l
  | some p => l.set p.1 (p.2.take torn ++ (full (l[p.1]?.getD [])).drop torn)
def stageL (L : List (List UInt8)) (q : List (Nat × List UInt8)) (keep torn j : Nat) : List (List UInt8) :=
  if j ≤ keep then apply (q.take j) L else tornL q keep torn (apply (q.take keep) L)
def las2R (L : List (List UInt8)) (q : List (Nat × List UInt8)) (keep torn : Nat) : List (List UInt8) := stageL L q keep torn q.length
theorem tornL_len (q : List (Nat × List UInt8)) (keep torn : Nat) (l : List (List UInt8)) : (tornL q keep torn l).length = l.length := by
  unfold tornL
  split <;> simp
theorem stageL_len (L : List (List UInt8)) (q : List (Nat × List UInt8)) (keep torn j : Nat) : (stageL L q keep torn j).length = L.length := by
  unfold stageL
  split
  · rw [apply_len]
  · rw [tornL_len, apply_len]
theorem full_full {s : List UInt8} (h : s.length = 256) : full s = s := by
  unfold full
  rw [h]
  simp
theorem map_apply {q : List (Nat × List UInt8)} : ∀ {L : List (List UInt8)}, (∀ x ∈ q, x.2.length = 256) → (apply q L).map full = apply q (L.map full) := by
  induction q with
  | nil => intro L _; rfl
  | cons x r ih =>
    intro L h
    simp only [apply, List.foldl_cons] at ih ⊢
    rw [ih fun y hy => h y (List.mem_cons_of_mem _ hy), List.map_set, full_full (h x List.mem_cons_self)]
theorem map_las2 {L : List (List UInt8)} {q : List (Nat × List UInt8)} {keep torn : Nat} (hq : ∀ x ∈ q, x.1 < L.length ∧ x.2.length = 256) (hL : ∀ s ∈ L, s.length = 0 ∨ s.length = 256) (hk : keep ≤ q.length) (ht : torn ≤ 256) : (las2R L q keep torn).map full = las2F (L.map full) q keep torn := by
  unfold las2R stageL
  by_cases h : q.length ≤ keep
  · rw [if_pos h, List.take_length]
    obtain rfl : keep = q.length := by omega
    rw [las2F_whole, map_apply fun x hx => (hq x hx).2]
  · rw [if_neg h]
    unfold tornL las2F tornF
    have hx : q[keep]? = some q[keep] := List.getElem?_eq_getElem (by omega)
    rw [hx]
    simp only []
    have hm : (apply (q.take keep) L).map full = apply (q.take keep) (L.map full) := map_apply fun x hx => (hq x (List.mem_of_mem_take hx)).2
    have hxq := hq q[keep] (List.getElem_mem (by omega))
    generalize q[keep] = x at *
    have hl : x.1 < (apply (q.take keep) L).length := by rw [apply_len]; exact hxq.1
    rw [List.map_set, ← hm, List.getElem?_map, List.getElem?_eq_getElem hl]
    simp only [Option.getD_some, Option.map_some]
    have hfl : (full (apply (q.take keep) L)[x.1]).length = 256 ∨ True := .inr trivial
    have h01 : (apply (q.take keep) L)[x.1].length ≤ 256 := by
      have : ∀ s ∈ apply (q.take keep) L, s.length ≤ 256 := by
        have hgen : ∀ (q' : List (Nat × List UInt8)) (L' : List (List UInt8)), (∀ y ∈ q', y.2.length = 256) → (∀ s ∈ L', s.length ≤ 256) → ∀ s ∈ apply q' L', s.length ≤ 256 := by
          intro q'
          induction q' with
          | nil => intro L' _ h; exact h
          | cons y r ih =>
            intro L' hy h
            simp only [apply, List.foldl_cons] at ih ⊢
            refine ih _ (fun z hz => hy z (List.mem_cons_of_mem _ hz)) (fun s hs => ?_)
            rcases List.mem_or_eq_of_mem_set hs with h' | h'
            · exact h s h'
            · subst h'
              have := hy y List.mem_cons_self
              omega
        refine hgen _ _ (fun y hy => (hq y (List.mem_of_mem_take hy)).2) (fun s hs => ?_)
        rcases hL s hs with h' | h' <;> omega
      exact this _ (List.getElem_mem hl)
    have hf256 := full_len h01
    rw [full_full (s := x.2.take torn ++ (full (apply (q.take keep) L)[x.1]).drop torn) (by simp only [List.length_append, List.length_take, List.length_drop, hxq.2, hf256]; omega)]

def part2 (B f : List UInt8) (i : Nat) : List UInt8 := B.take i ++ f.drop i
theorem part2_set {B f : List UInt8} {i : Nat} (hB : i < B.length) (hf : i < f.length) : (part2 B f i).set i B[i] = part2 B f (i + 1) := by
  unfold part2
  rw [List.set_append_right _ _ (by rw [List.length_take]; omega), List.length_take, Nat.min_eq_left (by omega), Nat.sub_self, List.take_succ_eq_append_getElem hB, List.append_assoc]
  congr 1
  rw [List.drop_eq_getElem_cons hf]
  rfl

def CR (w : World) (gl : Nat) (U : Nat → Prop) (L : List (List UInt8)) (q : List (Nat × List UInt8)) (keep torn : Nat) (g : Nat) (v35 : Value) (wr : World) : Prop :=
  ∃ (j : Nat) (U' : Nat → Prop) (vs : Array Value), j ≤ q.length ∧ g = q.length - j ∧ v35 = .int .i64 j ∧ Bk wr gl 27 vs ∧ vs.size = L.length ∧ (∀ (i : Nat) v s, vs[i]? = some v → (stageL L q keep torn j)[i]? = some s → LIs wr U' v s) ∧
    Gr U U' w ∧ (∀ k, U k → U' k) ∧ (∀ k, U' k → k < wr.heap.size) ∧ Fr (fun k => k = gl) w wr
def CT (w2 : World) (x : Nat) (B f : List UInt8) (torn : Nat) (g : Nat) (v10 : Value) (wr : World) : Prop :=
  ∃ i : Nat, i ≤ torn ∧ g = torn - i ∧ v10 = .int .i64 i ∧ Arr wr 5 1 (some ⟨x, 0, none⟩) 256 256 (bv (part2 B f i)) ∧ Fr (fun k => k = x) w2 wr

def RefCPost (T U : Nat → Prop) (p : Nat) (r : Int × List (List UInt8) × List (Nat × List UInt8)) (w : World) (e : Ending) (w' : World) : Prop :=
  ∃ T' U', e = .returned (.int .i64 r.1) ∧ RefAt w' T' U' p r.2.1 r.2.2 ∧ Fr T w w' ∧ Gr T T' w ∧ Gr U U' w

set_option maxHeartbeats 4000000 in
theorem refCrash_ok {T U : Nat → Prop} {p : Nat} {L : List (List UInt8)} {q : List (Nat × List UInt8)} (keep torn : Nat) (w : World) (h : RefAt w T U p L q) (hk : keep ≤ q.length) (ht : torn ≤ 256) (hql : q.length ≤ 16777215) :
    Calls Try.prog 17 #[.pointer (some ⟨p, 0, none⟩), .int .i64 keep, .int .i64 torn] w (RefCPost T U p (0, las2R L q keep torn, []) w) := by
  obtain ⟨⟨gl, Aq, cq, vs, css, hbk, hg, hvs, hL, ha, hc, hq, tg, tq⟩, ho, hdis, hltT, hltU, hqo, hfew, hpos⟩ := h
  have c0 : w.cell? ⟨p, 0, none⟩ = some (.slice (some ⟨gl, 0, none⟩) L.length L.length) := hbk.cell 0
  have c1 : w.cell? ⟨p, 1, none⟩ = some (.slice Aq q.length cq) := hbk.cell 1
  have d0 : decide ((keep : Int) < 0) = false := decide_eq_false (by omega)
  have d1 : decide (q.length < keep) = false := decide_eq_false (by omega)
  have d2 : decide ((torn : Int) < 0) = false := decide_eq_false (by omega)
  have d3 : decide (256 < (torn : Int)) = false := decide_eq_false (by omega)
  have HB := Lib.hid hbk
  have hpl := hltT p ho
  have hgl := hltT gl tg
  have npg : p ≠ gl := HB.out.types hg (by decide)
  have nA : ∀ j t cur, Bk w j t cur → t ≠ 62 → ¬ InB Aq j := fun j t cur hb hne hj => by
    rcases ha.2 with ⟨rfl, _⟩ | ⟨g', cur', rfl, hbq, _⟩
    · exact InB.none_ _ hj
    · rw [InB.some_] at hj
      simp only [] at hj
      exact hbq.types hb (Ne.symm hne) hj
  have ngq := nA gl 27 _ hg (by decide)
  have nUg : ∀ k, U k → k ≠ gl := fun k hk e => hdis k (e ▸ tg) hk
  have HN : Hid (CR w gl U L q keep torn q.length (.int .i64 (0 : Nat)) w) := ⟨0, U, vs, Nat.zero_le _, rfl, rfl, hg, hvs, hL, fun _ h => .inl h, fun _ h => h, hltU, Fr.refl _ _⟩
  clear hbk hL
  go_enter Try.func17, Try.ntmps17
  go_wp2_with fail
  go_loopg [35] q.length (fun g v35 wr => CR w gl U L q keep torn g v35 wr)
  case atStart => exact HN.out
  case round =>
    obtain ⟨j, U', vs', hj, rfl, rfl, hg', hvs', hL', hgr, hUU, hltU', hfr⟩ := hrel
    have r0 := hfr.cell_some c0 npg
    have hzr := hfr.size
    have nU'g : ∀ k, U' k → k ≠ gl := fun k hk e => by
      rcases hgr k hk with h' | h'
      · exact nUg k h' e
      · omega
    by_cases hjl : j < q.length
    · obtain ⟨y, hy⟩ : ∃ y, q[j]? = some y := ⟨_, List.getElem?_eq_getElem hjl⟩
      have hyl := hqo y (List.mem_of_getElem? hy)
      have hqr : ∀ (i : Nat) cs x, css[i]? = some cs → q[i]? = some x → QIs wr U cs x := fun i cs x h h' => (hq i cs x h h').fr hfr nUg
      obtain ⟨g, A', c', rfl, z0, z1, zl, zr⟩ := q_cells (ha.fr hfr (fun j hj e => ngq (e ▸ hj))) hc hqr hy
      have zgl := World.block_lt_of_cell? wr _ z0
      obtain ⟨ya, yb⟩ := y
      simp only [] at z0 z1 zl zr hyl
      have fN : Fr NoB wr (wr.alloc (.cells #[.int .i64 ya, .slice A' 256 c'] 62)) := (Fr.refl _ _).alloc _
      have i0 : (0 : Int) ≤ (ya : Int) := by omega
      have i1 : (ya : Int) < (L.length : Int) := by omega
      have bx := Bk.new wr 62 #[.int .i64 ya, .slice A' 256 c']
      have s0 := fN.cell_some r0 (fun h => h)
      have s1 : (wr.alloc (.cells #[.int .i64 ya, .slice A' 256 c'] 62)).cell? ⟨wr.heap.size, 0, none⟩ = some (.int .i64 ya) := bx.cell 0
      have s2 : (wr.alloc (.cells #[.int .i64 ya, .slice A' 256 c'] 62)).cell? ⟨wr.heap.size, 1, none⟩ = some (.slice A' 256 c') := bx.cell 1
      have gW := hg'.fr fN (fun h => h)
      have HW := Lib.hid (⟨gW, bx, fN⟩ : Bk (wr.alloc (.cells #[.int .i64 ya, .slice A' 256 c'] 62)) gl 27 vs' ∧ Bk (wr.alloc (.cells #[.int .i64 ya, .slice A' 256 c'] 62)) wr.heap.size 62 #[.int .i64 ya, .slice A' 256 c'] ∧ Fr NoB wr (wr.alloc (.cells #[.int .i64 ya, .slice A' 256 c'] 62)))
      have hWz : (wr.alloc (.cells #[.int .i64 ya, .slice A' 256 c'] 62)).heap.size = wr.heap.size + 1 := by simp
      have HWZ := Lib.hid hWz
      clear hWz gW bx fN
      by_cases hjk : j < keep
      · go_wp2_with fail
        generalize wr.alloc (.cells #[.int .i64 ya, .slice A' 256 c'] 62) = W at *
        obtain ⟨b, hb⟩ : ∃ b, b = wr.heap.size := ⟨_, rfl⟩
        rw [← hb] at s1 s2 HW HWZ ⊢
        replace hb := Lib.hid hb
        refine wp_region_plan 9 (fun w' => w'.cell? ⟨p, 0, none⟩ = some (.slice (some ⟨gl, 0, none⟩) L.length L.length) ∧ w'.cell? ⟨b, 0, none⟩ = some (.int .i64 ya) ∧ w'.cell? ⟨b, 1, none⟩ = some (.slice A' 256 c'))
          [(0, 0), (1, 0), (2, 0), (3, 1), (4, 0), (5, 1), (6, 0), (7, 1), (8, 0), (9, 2)] (by kernel_rfl) (by kernel_rfl) (fun _ _ _ _ _ h => h) ⟨s0, s1, s2⟩ ?_
        refine wpPlan_free _ ?_ rfl (by rfl) (fun w' => ?_) ?_
        rotate_left
        · go_simp; with_reducible rfl
        simp only [Act.put, List.setIfInBounds_toArray, List.set_cons_zero, List.set_cons_succ]
        refine wpPlan_free _ ?_ rfl (by rfl) (fun w' => ?_) ?_
        rotate_left
        · go_simp; with_reducible rfl
        simp only [Act.put, List.setIfInBounds_toArray, List.set_cons_zero, List.set_cons_succ]
        refine wpPlan_free _ ?_ rfl (by rfl) (fun w' => ?_) ?_
        rotate_left
        · go_simp; with_reducible rfl
        simp only [Act.put, List.setIfInBounds_toArray, List.set_cons_zero, List.set_cons_succ]
        refine wpPlan_held _ ?_ rfl (by rfl) (fun w' hS => ?_) ?_
        rotate_left
        · obtain ⟨e0, e1, e2⟩ := hS; go_simp; with_reducible rfl
        simp only [Act.put, List.setIfInBounds_toArray, List.set_cons_zero, List.set_cons_succ]
        refine wpPlan_free _ ?_ rfl (by rfl) (fun w' => ?_) ?_
        rotate_left
        · go_simp; with_reducible rfl
        simp only [Act.put, List.setIfInBounds_toArray, List.set_cons_zero, List.set_cons_succ]
        refine wpPlan_held _ ?_ rfl (by rfl) (fun w' hS => ?_) ?_
        rotate_left
        · obtain ⟨e0, e1, e2⟩ := hS; go_simp; with_reducible rfl
        simp only [Act.put, List.setIfInBounds_toArray, List.set_cons_zero, List.set_cons_succ]
        refine wpPlan_free _ ?_ rfl (by rfl) (fun w' => ?_) ?_
        rotate_left
        · go_simp; with_reducible rfl
        simp only [Act.put, List.setIfInBounds_toArray, List.set_cons_zero, List.set_cons_succ]
        refine wpPlan_held _ ?_ rfl (by rfl) (fun w' hS => ?_) ?_
        rotate_left
        · obtain ⟨e0, e1, e2⟩ := hS; go_simp; with_reducible rfl
        simp only [Act.put, List.setIfInBounds_toArray, List.set_cons_zero, List.set_cons_succ]
        refine wpPlan_free _ ?_ rfl (by rfl) (fun w' => ?_) ?_
        rotate_left
        · go_simp; with_reducible rfl
        simp only [Act.put, List.setIfInBounds_toArray, List.set_cons_zero, List.set_cons_succ]
        have g1 : W.cell? ⟨gl, ya, none⟩ = some vs'[ya] := by rw [HW.out.1.cell, Array.getElem?_eq_getElem (by omega)]
        have g2 := HW.out.1.frozen ya
        refine wpPlan_do _ rfl (fun K hK => ?_)
        go_simp
        refine hK _ _ (fun h => by cases h) ?_
        clear hK K
        refine wpPlan_nil ?_
        have f5 : Fr (fun k => k = gl) W (W.setCell ⟨gl, ya, none⟩ (.slice A' 256 c')) := Fr.setCell (S := fun k => k = gl) (p := ⟨gl, ya, none⟩) (Fr.refl _ _) (.inl rfl) _
        have hst : stageL L q keep torn (j + 1) = (stageL L q keep torn j).set ya yb := by
          unfold stageL
          rw [if_pos (by omega), if_pos (by omega), apply_take_succ hy]
        have hrel2 : CR w gl U L q keep torn (q.length - (j + 1)) (.int .i64 ((j : Int) + 1)) (W.setCell ⟨gl, ya, none⟩ (.slice A' 256 c')).drew := by
          refine ⟨j + 1, U', vs'.setIfInBounds ya (.slice A' 256 c'), by omega, rfl, by simp, HW.out.1.set ya _, by simpa using hvs', fun i v s hv hs => ?_, hgr, hUU, fun k hk => ?_, ((hfr.join HW.out.2.2 (fun _ _ h => h.elim)).trans f5).drew⟩
          · by_cases e : ya = i
            · subst e
              rw [hst, List.getElem?_set_self (by rw [stageL_len]; exact hyl)] at hs
              cases hs
              rw [Array.getElem?_setIfInBounds_self, if_pos (by omega)] at hv
              cases hv
              refine ⟨A', c', by rw [zl], .inr zl, ?_⟩
              rw [zl]
              exact (((zr.fr HW.out.2.2 (fun _ _ _ h => h)).fr f5 (fun k _ hk e => nUg k hk e)).mono hUU).drew
            · rw [hst, List.getElem?_set_ne e] at hs
              rw [Array.getElem?_setIfInBounds_ne e] at hv
              exact ((hL' i v s hv hs).fr HW.out.2.2 (fun _ _ h => h)).fr (f5.drew) nU'g
          · have h1 := hltU' k hk
            have h2 := HWZ.out
            have h3 := f5.size
            have h4 := hb.out
            show k < (W.setCell ⟨gl, ya, none⟩ (.slice A' 256 c')).heap.size
            omega
        have HR := Lib.hid hrel2
        clear hrel2 f5 hst hL' hgr hUU
        go_wp2_with fail
        go_roundg (q.length - (j + 1))
        case measure => omega
        case rel => exact HR.out
      · by_cases hje : j = keep
        · subst hje
          have hlt0 : ya < (stageL L q j torn j).length := by rw [stageL_len]; exact hyl
          obtain ⟨v0, hv0⟩ : ∃ v0, vs'[ya]? = some v0 := ⟨_, Array.getElem?_eq_getElem (by omega)⟩
          obtain ⟨l0, hl0⟩ : ∃ l0, (stageL L q j torn j)[ya]? = some l0 := ⟨_, List.getElem?_eq_getElem hlt0⟩
          obtain ⟨A0, c00, rfl, hlen0, hr0⟩ := hL' ya v0 l0 hv0 hl0
          have hl256 : l0.length ≤ 256 := by rcases hlen0 with h' | h' <;> omega
          have s3 : (wr.alloc (.cells #[.int .i64 ya, .slice A' 256 c'] 62)).cell? ⟨gl, ya, none⟩ = some (.slice A0 l0.length c00) := (HW.out.1.cell ya).trans hv0
          have rW := hr0.fr HW.out.2.2 (fun _ _ _ h => h)
          have rB := zr.fr HW.out.2.2 (fun _ _ _ h => h)
          go_wp2_with fail
          generalize wr.alloc (.cells #[.int .i64 ya, .slice A' 256 c'] 62) = W at *
          obtain ⟨b, hb⟩ : ∃ b, b = wr.heap.size := ⟨_, rfl⟩
          rw [← hb] at s1 s2 HW HWZ ⊢
          have nbg : b ≠ gl := by omega
          replace hb := Lib.hid hb
          refine wp_region_plan 10 (fun w' => w'.cell? ⟨p, 0, none⟩ = some (.slice (some ⟨gl, 0, none⟩) L.length L.length) ∧ w'.cell? ⟨b, 0, none⟩ = some (.int .i64 ya) ∧ w'.cell? ⟨gl, ya, none⟩ = some (.slice A0 l0.length c00))
            [(0, 0), (1, 0), (2, 0), (3, 1), (4, 0), (5, 1), (6, 0), (7, 1), (8, 2), (9, 0)] (by kernel_rfl) (by kernel_rfl) (fun _ _ _ _ _ h => h) ⟨s0, s1, s3⟩ ?_
          refine wpPlan_free _ ?_ rfl (by rfl) (fun w' => ?_) ?_
          rotate_left
          · go_simp; with_reducible rfl
          simp only [Act.put, List.setIfInBounds_toArray, List.set_cons_zero, List.set_cons_succ]
          refine wpPlan_free _ ?_ rfl (by rfl) (fun w' => ?_) ?_
          rotate_left
          · go_simp; with_reducible rfl
          simp only [Act.put, List.setIfInBounds_toArray, List.set_cons_zero, List.set_cons_succ]
          refine wpPlan_free _ ?_ rfl (by rfl) (fun w' => ?_) ?_
          rotate_left
          · go_simp; with_reducible rfl
          simp only [Act.put, List.setIfInBounds_toArray, List.set_cons_zero, List.set_cons_succ]
          refine wpPlan_held _ ?_ rfl (by rfl) (fun w' hS => ?_) ?_
          rotate_left
          · obtain ⟨e0, e1, e2⟩ := hS; go_simp; with_reducible rfl
          simp only [Act.put, List.setIfInBounds_toArray, List.set_cons_zero, List.set_cons_succ]
          refine wpPlan_free _ ?_ rfl (by rfl) (fun w' => ?_) ?_
          rotate_left
          · go_simp; with_reducible rfl
          simp only [Act.put, List.setIfInBounds_toArray, List.set_cons_zero, List.set_cons_succ]
          refine wpPlan_held _ ?_ rfl (by rfl) (fun w' hS => ?_) ?_
          rotate_left
          · obtain ⟨e0, e1, e2⟩ := hS; go_simp; with_reducible rfl
          simp only [Act.put, List.setIfInBounds_toArray, List.set_cons_zero, List.set_cons_succ]
          refine wpPlan_free _ ?_ rfl (by rfl) (fun w' => ?_) ?_
          rotate_left
          · go_simp; with_reducible rfl
          simp only [Act.put, List.setIfInBounds_toArray, List.set_cons_zero, List.set_cons_succ]
          refine wpPlan_held _ ?_ rfl (by rfl) (fun w' hS => ?_) ?_
          rotate_left
          · obtain ⟨e0, e1, e2⟩ := hS; go_simp; with_reducible rfl
          simp only [Act.put, List.setIfInBounds_toArray, List.set_cons_zero, List.set_cons_succ]
          refine wpPlan_do _ rfl (fun K hK => ?_)
          go_simp
          refine (full_any A0 c00 l0 _ rW.drew hl256).mono ?_
          rintro e w2 ⟨x, hx, rfl, harr, hf⟩
          have hf2 : Fr NoB W w2 := ((Fr.refl NoB W).drew).trans hf
          have hx' : W.heap.size ≤ x := hx
          have u0 := hf2.cell_some s0 (fun h => h)
          have u1 := hf2.cell_some s1 (fun h => h)
          have u2 := hf2.cell_some s2 (fun h => h)
          have u3 := hf2.cell_some s3 (fun h => h)
          refine hK _ _ (fun _ => ⟨u0, u1, u3⟩) ?_
          clear hK K
          refine wpPlan_free _ ?_ rfl (by rfl) (fun w' => ?_) ?_
          rotate_left
          · go_simp; with_reducible rfl
          simp only [Act.put, List.setIfInBounds_toArray, List.set_cons_zero, List.set_cons_succ]
          refine wpPlan_nil ?_
          have hfl : (full l0).length = 256 := full_len hl256
          have zx : x < w2.heap.size := harr.lt x (by simp [InB])
          have HM : Hid (CT w2 x yb (full l0) torn torn (.int .i64 (0 : Nat)) w2) := ⟨0, Nat.zero_le _, rfl, rfl, harr, Fr.refl _ _⟩
          have rB2 := rB.fr hf2 (fun _ _ _ h => h)
          have hwz := HWZ.out
          have hbo := hb.out
          have nbx : b ≠ x := by omega
          have npx : p ≠ x := by omega
          have ngx : gl ≠ x := by omega
          have nUx : ∀ k, U k → k ≠ x := fun k hk e => by have := hltU k hk; omega
          have nU'x : ∀ k, U' k → k ≠ x := fun k hk e => by have := hltU' k hk; omega
          have HST : Hid (stageL L q j torn (j + 1) = (stageL L q j torn j).set ya (yb.take torn ++ (full l0).drop torn)) := Lib.hid (by
            unfold stageL at hl0 ⊢
            rw [if_pos (Nat.le_refl _)] at hl0
            rw [if_neg (by omega), if_pos (Nat.le_refl _)]
            unfold tornL
            rw [hy]
            simp only []
            rw [hl0]
            rfl)
          have HHF := Lib.hid hf
          clear harr hf rW rB hx hwz hbo hv0 hl0 hlen0 hr0 z0 z1 zr
          go_wp2_with fail
          go_loopg [10] torn (fun g v10 wr => CT w2 x yb (full l0) torn g v10 wr)
          case atStart => exact HM.out
          case round =>
            obtain ⟨i, hi, rfl, rfl, harr, hf⟩ := hrel
            have t0 := hf.cell_some u0 npx
            have t1 := hf.cell_some u1 nbx
            have t2 := hf.cell_some u2 nbx
            have rB3 := rB2.fr hf (fun k _ hk e => nUx k hk e)
            by_cases hit : i < torn
            · obtain ⟨g', off', u, rfl, hgS, hgl', hu, hcu⟩ := rB3.cell_at (k := i) (by omega) 0 (by omega)
              simp only [Nat.mul_one, Nat.add_zero] at hu hcu
              have hiy : i < yb.length := by omega
              have hux : u = .int .u8 ((yb[i]).toNat : Int) := by
                simp only [bv, List.getElem?_map, List.getElem?_eq_getElem hiy, Option.map_some, Option.some.injEq] at hu
                exact hu.symm
              subst hux
              obtain ⟨⟨v, q0⟩, q1⟩ := harr.spot (j := i) (by omega)
              have hnew := harr.store i (.int .u8 ((yb[i]).toNat : Int))
              rw [bv_set, part2_set hiy (by omega)] at hnew
              have hfn : Fr (fun k => k = x) w2 (wr.setCell ⟨x, i, none⟩ (.int .u8 ((yb[i]).toNat : Int))) := Fr.setCell (S := fun k => k = x) (p := ⟨x, i, none⟩) hf (.inl rfl) _
              have j0 : (0 : Int) ≤ (i : Int) := by omega
              have j1 : (i : Int) < 256 := by omega
              generalize ((yb[i]).toNat : Int) = xv at *
              have HS := Lib.hid hnew
              have HF := Lib.hid hfn
              clear hnew hfn
              go_wp2_with fail
              go_roundg (torn - (i + 1))
              case measure => omega
              case rel => exact ⟨i + 1, by omega, rfl, by go_num, HS.out, HF.out⟩
            · obtain rfl : i = torn := by omega
              have bk6 := (HW.out.1.fr hf2 (fun h => h)).fr hf ngx
              have HB6 := Lib.hid bk6
              have hfr6 : Fr (fun k => k = gl) w wr := ((hfr.join HW.out.2.2 (fun _ _ h => h.elim)).join hf2 (fun _ _ h => h.elim)).join hf (fun k hk e => by have := HWZ.out; have := hb.out; omega)
              have harr2 := harr.rd
              have HF := Lib.hid hf
              clear bk6 hf harr HM
              go_wp2_with fail
              refine wp_region_plan 8 (fun w' => w'.cell? ⟨p, 0, none⟩ = some (.slice (some ⟨gl, 0, none⟩) L.length L.length) ∧ w'.cell? ⟨b, 0, none⟩ = some (.int .i64 ya))
                [(0, 0), (1, 0), (2, 0), (3, 1), (4, 0), (5, 1), (6, 0), (7, 0), (8, 2)] (by kernel_rfl) (by kernel_rfl) (fun _ _ _ _ _ h => h) ⟨t0, t1⟩ ?_
              refine wpPlan_free _ ?_ rfl (by rfl) (fun w' => ?_) ?_
              rotate_left
              · go_simp; with_reducible rfl
              simp only [Act.put, List.setIfInBounds_toArray, List.set_cons_zero, List.set_cons_succ]
              refine wpPlan_free _ ?_ rfl (by rfl) (fun w' => ?_) ?_
              rotate_left
              · go_simp; with_reducible rfl
              simp only [Act.put, List.setIfInBounds_toArray, List.set_cons_zero, List.set_cons_succ]
              refine wpPlan_free _ ?_ rfl (by rfl) (fun w' => ?_) ?_
              rotate_left
              · go_simp; with_reducible rfl
              simp only [Act.put, List.setIfInBounds_toArray, List.set_cons_zero, List.set_cons_succ]
              refine wpPlan_held _ ?_ rfl (by rfl) (fun w' hS => ?_) ?_
              rotate_left
              · obtain ⟨e0, e1⟩ := hS; go_simp; with_reducible rfl
              simp only [Act.put, List.setIfInBounds_toArray, List.set_cons_zero, List.set_cons_succ]
              refine wpPlan_free _ ?_ rfl (by rfl) (fun w' => ?_) ?_
              rotate_left
              · go_simp; with_reducible rfl
              simp only [Act.put, List.setIfInBounds_toArray, List.set_cons_zero, List.set_cons_succ]
              refine wpPlan_held _ ?_ rfl (by rfl) (fun w' hS => ?_) ?_
              rotate_left
              · obtain ⟨e0, e1⟩ := hS; go_simp; with_reducible rfl
              simp only [Act.put, List.setIfInBounds_toArray, List.set_cons_zero, List.set_cons_succ]
              refine wpPlan_free _ ?_ rfl (by rfl) (fun w' => ?_) ?_
              rotate_left
              · go_simp; with_reducible rfl
              simp only [Act.put, List.setIfInBounds_toArray, List.set_cons_zero, List.set_cons_succ]
              refine wpPlan_free _ ?_ rfl (by rfl) (fun w' => ?_) ?_
              rotate_left
              · go_simp; with_reducible rfl
              simp only [Act.put, List.setIfInBounds_toArray, List.set_cons_zero, List.set_cons_succ]
              have g1 : wr.cell? ⟨gl, ya, none⟩ = some vs'[ya] := by rw [HB6.out.cell, Array.getElem?_eq_getElem (by omega)]
              have g2 := HB6.out.frozen ya
              refine wpPlan_do _ rfl (fun K hK => ?_)
              go_simp
              refine hK _ _ (fun h => by cases h) ?_
              clear hK K
              refine wpPlan_nil ?_
              have f5 : Fr (fun k => k = gl) wr (wr.setCell ⟨gl, ya, none⟩ (.slice (some ⟨x, 0, none⟩) 256 256)) := Fr.setCell (S := fun k => k = gl) (p := ⟨gl, ya, none⟩) (Fr.refl _ _) (.inl rfl) _
              have hpl2 : (part2 yb (full l0) i).length = 256 := by simp [part2, hfl]; omega
              have hrel2 : CR w gl U L q j i (q.length - (j + 1)) (.int .i64 ((j : Int) + 1)) (wr.setCell ⟨gl, ya, none⟩ (.slice (some ⟨x, 0, none⟩) 256 256)).drew := by
                refine ⟨j + 1, fun k => U' k ∨ k = x, vs'.setIfInBounds ya (.slice (some ⟨x, 0, none⟩) 256 256), by omega, rfl, by simp, HB6.out.set ya _, by simpa using hvs', fun m v s hv hs => ?_, fun k hk => ?_, fun k hk => .inl (hUU k hk), fun k hk => ?_, (hfr6.trans f5).drew⟩
                · by_cases e : ya = m
                  · subst e
                    rw [HST.out, List.getElem?_set_self hlt0] at hs
                    cases hs
                    rw [Array.getElem?_setIfInBounds_self, if_pos (by omega)] at hv
                    cases hv
                    refine ⟨some ⟨x, 0, none⟩, 256, by rw [show (yb.take i ++ (full l0).drop i).length = 256 from hpl2], .inr hpl2, ?_⟩
                    rw [show (yb.take i ++ (full l0).drop i).length = 256 from hpl2]
                    exact ((harr2.fr f5 (fun k _ hk e => by rw [InB.some_] at hk; simp only [] at hk; omega)).mono (fun k hk => by rw [InB.some_] at hk; simp only [] at hk; exact .inr hk.symm)).drew
                  · rw [HST.out, List.getElem?_set_ne e] at hs
                    rw [Array.getElem?_setIfInBounds_ne e] at hv
                    exact ((((((hL' m v s hv hs).fr HW.out.2.2 (fun _ _ h => h)).fr hf2 (fun _ _ h => h)).fr HF.out nU'x).fr f5.drew nU'g)).mono (fun _ h => .inl h)
                · rcases hk with h' | h'
                  · exact hgr k h'
                  · have := HWZ.out
                    have := hb.out
                    exact .inr (by omega)
                · have h3 := f5.size
                  have h4 := HF.out.size
                  show k < (wr.setCell ⟨gl, ya, none⟩ (.slice (some ⟨x, 0, none⟩) 256 256)).heap.size
                  have h5 := hf2.size
                  have h6 := HWZ.out
                  rcases hk with h' | h'
                  · have := hltU' k h'
                    have := hb.out
                    omega
                  · omega
              have HR := Lib.hid hrel2
              clear hrel2 f5 harr2
              go_wp2_with fail
              go_roundg (q.length - (j + 1))
              case measure => omega
              case rel => exact HR.out
        · have hje' : ((j : Int) == (keep : Int)) = false := by simp; omega
          have hst : stageL L q keep torn (j + 1) = stageL L q keep torn j := by
            unfold stageL
            rw [if_neg (by omega), if_neg (by omega)]
          have hrel2 : CR w gl U L q keep torn (q.length - (j + 1)) (.int .i64 ((j : Int) + 1)) (wr.alloc (.cells #[.int .i64 ya, .slice A' 256 c'] 62)) :=
            ⟨j + 1, U', vs', by omega, rfl, by simp, HW.out.1, hvs', fun i v s hv hs => by rw [hst] at hs; exact (hL' i v s hv hs).fr HW.out.2.2 (fun _ _ h => h), hgr, hUU, fun k hk => by have := hltU' k hk; have := HWZ.out; omega, hfr.join HW.out.2.2 (fun _ _ h => h.elim)⟩
          have HR := Lib.hid hrel2
          clear hrel2
          go_wp2_with fail
          go_roundg (q.length - (j + 1))
          case measure => omega
          case rel => exact HR.out
    · obtain rfl : j = q.length := by omega
      have bp := HB.out.fr hfr npg
      have HBP := Lib.hid bp
      have zf := bp.frozen 1
      have y1 : wr.cell? ⟨p, 1, none⟩ = some (.slice Aq q.length cq) := bp.cell 1
      have f4 : Fr (fun j => j = p) wr (wr.setCell ⟨p, 1, none⟩ (.slice none 0 0)) := Fr.setCell (S := fun j => j = p) (p := ⟨p, 1, none⟩) (Fr.refl _ wr) (.inl rfl) _
      have nU'p : ∀ k, U' k → k ≠ p := fun k hk e => by
        rcases hgr k hk with h' | h'
        · exact hdis k (e ▸ ho) h'
        · omega
      have hsz : (las2R L q keep torn).length = L.length := stageL_len _ _ _ _ _
      have b4 := bp.set 1 (.slice none 0 0)
      have g4 := hg'.fr f4 (Ne.symm npg)
      have z4 := f4.size
      have fall : Fr T w (wr.setCell ⟨p, 1, none⟩ (.slice none 0 0)) := (hfr.mono (fun k _ e => by subst e; exact tg)).join f4 (fun k _ e => by subst e; exact ho)
      clear bp
      go_wp2_with fail
      go_ret
      refine ⟨T, U', rfl, ⟨⟨gl, none, 0, vs', [], ?_, g4, hvs'.trans hsz.symm, fun i v s hv hs => ((hL' i v s hv hs).fr f4 nU'p), Arr.none_ _ _ _, rfl, by simp, tg, fun k hk => (InB.none_ k hk).elim⟩, ho, fun k hk hu => ?_, fun k hk => ?_, fun k hk => ?_, by simp, by rw [hsz]; exact hfew, by rw [hsz]; exact hpos⟩, fall, fun _ h => .inl h, hgr⟩
      · rw [hsz]
        simpa using b4
      · rcases hgr k hu with h' | h'
        · exact hdis k hk h'
        · have := hltT k hk
          omega
      · have := hltT k hk
        omega
      · have := hltU' k hk
        omega

def crashR (L : List (List UInt8)) (q : List (Nat × List UInt8)) (keep torn : Int) : Int × List (List UInt8) × List (Nat × List UInt8) :=
  if 0 ≤ keep ∧ keep ≤ q.length ∧ 0 ≤ torn ∧ torn ≤ 256 then (0, las2R L q keep.toNat torn.toNat, []) else (1, L, q)

theorem refCrash_any {T U : Nat → Prop} {p : Nat} {L : List (List UInt8)} {q : List (Nat × List UInt8)} (keep torn : Int) (w : World) (h : RefAt w T U p L q) (hql : q.length ≤ 16777215) :
    Calls Try.prog 17 #[.pointer (some ⟨p, 0, none⟩), .int .i64 keep, .int .i64 torn] w (RefCPost T U p (crashR L q keep torn) w) := by
  unfold crashR
  by_cases hb : 0 ≤ keep ∧ keep ≤ q.length ∧ 0 ≤ torn ∧ torn ≤ 256
  · rw [if_pos hb]
    obtain ⟨h1, h2, h3, h4⟩ := hb
    obtain ⟨k, rfl⟩ := Int.eq_ofNat_of_zero_le h1
    obtain ⟨t, rfl⟩ := Int.eq_ofNat_of_zero_le h3
    exact refCrash_ok k t w h (by omega) (by omega) hql
  · rw [if_neg hb]
    have HS : Hid (RefCPost T U p (1, L, q) w (.returned (.int .i64 1)) w) := ⟨T, U, rfl, h, Fr.refl _ _, fun _ h => .inl h, fun _ h => .inl h⟩
    obtain ⟨gl, Aq, cq, c0, c1⟩ := h.words
    clear h
    by_cases h1 : keep < 0
    · clear hb
      go_enter Try.func17, Try.ntmps17
      go_wp2_with fail
      go_ret
      exact HS.out
    by_cases h2 : (q.length : Int) < keep
    · clear hb
      go_enter Try.func17, Try.ntmps17
      go_wp2_with fail
      go_ret
      exact HS.out
    by_cases h3 : torn < 0
    · clear hb
      go_enter Try.func17, Try.ntmps17
      go_wp2_with fail
      go_ret
      exact HS.out
    have h4 : 256 < torn := by omega
    clear hb
    go_enter Try.func17, Try.ntmps17
    go_wp2_with fail
    go_ret
    exact HS.out
end Go.Proofs.Ytghddmdehbacaaa
