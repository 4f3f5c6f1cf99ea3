/- The contract of Crash. -/
import Derived.Test.YtghddmdehbacaaaCrashLaw
import Derived.Deep.LoopGhost
namespace Go.Proofs.Ytghddmdehbacaaa
open Go.RowKit

def CrashPost (S : Nat → Prop) (d : Nat) (r : Int × List (List UInt8) × List (Nat × List UInt8)) (w : World) (e : Ending) (w' : World) : Prop :=
  ∃ S', e = .returned (.int .i64 r.1) ∧ DiskAt w' S' d r.2.1 r.2.2 ∧ Fr S w w' ∧ Gr S S' w

theorem crash_bad {S : Nat → Prop} {d : Nat} {las : List (List UInt8)} {q : List (Nat × List UInt8)} (keep torn : Int) (w : World) (h : DiskAt w S d las q) (hb : ¬ (0 ≤ keep ∧ keep ≤ q.length ∧ 0 ≤ torn ∧ torn ≤ 256)) :
    Calls Try.prog 12 #[.pointer (some ⟨d, 0, none⟩), .int .i64 keep, .int .i64 torn] w fun e w' => e = .returned (.int .i64 1) ∧ w = w' := by
  have hh := waits_any w h
  clear h
  by_cases h1 : keep < 0
  · clear hb
    go_enter Try.func12, Try.ntmps12
    go_wp2_with fail
    refine hh.mono ?_
    rintro e w' ⟨rfl, rfl⟩
    go_wp2_with fail
    go_ret
    exact ⟨rfl, rfl⟩
  by_cases h2 : (q.length : Int) < keep
  · clear hb
    go_enter Try.func12, Try.ntmps12
    go_wp2_with fail
    refine hh.mono ?_
    rintro e w' ⟨rfl, rfl⟩
    go_wp2_with fail
    go_ret
    exact ⟨rfl, rfl⟩
  by_cases h3 : torn < 0
  · clear hb
    go_enter Try.func12, Try.ntmps12
    go_wp2_with fail
    refine hh.mono ?_
    rintro e w' ⟨rfl, rfl⟩
    go_wp2_with fail
    go_ret
    exact ⟨rfl, rfl⟩
  have h4 : 256 < torn := by omega
  clear hb
  go_enter Try.func12, Try.ntmps12
  go_wp2_with fail
  refine hh.mono ?_
  rintro e w' ⟨rfl, rfl⟩
  go_wp2_with fail
  go_ret
  exact ⟨rfl, rfl⟩

/-- The first loop's state, and the second's. -/
def C1 (w : World) (gl : Nat) (las : List (List UInt8)) (q : List (Nat × List UInt8)) (keep g : Nat) (v : Value) (wr : World) : Prop :=
  ∃ j : Nat, j ≤ keep ∧ g = keep - j ∧ v = .int .i64 j ∧ Row wr gl 57 256 ((apply (q.take j) las).map bv) ∧ Fr (fun k => k = gl) w wr
def C2 (w : World) (gs : Nat) (L s : List (List UInt8)) (q : List (Nat × List UInt8)) (g : Nat) (v : Value) (wr : World) : Prop :=
  ∃ j : Nat, j ≤ q.length ∧ g = q.length - j ∧ v = .int .i64 j ∧ Row wr gs 57 256 ((sees L (q.take j) s).map bv) ∧ Fr (fun k => k = gs) w wr

/-- A write that waits, out of its array. -/
theorem q_range {w : World} {g c : Nat} {q : List (Nat × List UInt8)} (h : Arr w 59 257 (some ⟨g, 0, none⟩) q.length c (qcells q)) (hq : ∀ p ∈ q, p.2.length = 256) {j : Nat} {p : Nat × List UInt8} (hj : q[j]? = some p) : w.rangeAt g (j * 257) (wcell p) := by
  rcases h.2 with ⟨h', _⟩ | ⟨g', cur, e', hb, h1, h2, h3, h4⟩
  · cases h'
  · obtain rfl : g = g' := by simpa using e'
    have hlen : ∀ cs ∈ q.map wcell, cs.length = 257 := by
      intro cs hcs
      obtain ⟨x, hx, rfl⟩ := List.mem_map.1 hcs
      simp [wcell, bv_len, hq x hx]
    have hat : At w ⟨g, 0, none⟩ (qcells q) := At.of_bk (o := 0) (n := q.length * 257) hb (by simpa using h4)
    intro i v hv
    have hi : i < 257 := by
      have := (List.getElem?_eq_some_iff.1 hv).1
      rwa [hlen _ (List.mem_map_of_mem (List.mem_of_getElem? hj))] at this
    have hget : (qcells q)[j * 257 + i]? = some v := by
      unfold qcells
      rw [flat_get (cs := wcell p) hlen (by simp [hj]) hi]
      exact hv
    have := hat _ _ hget
    rw [addr_lit] at this
    simpa using this

theorem wcell_all (p : Nat × List UInt8) : (wcell p).toArray.all (·.oneCell') = true := all_oneCell_toArray fun v hv => by
  rcases List.mem_cons.1 hv with rfl | h'
  · rfl
  · exact bv_one _ v h'
/-- A new box that is filled at once. -/
theorem new_box (w : World) (cs : List Value) (hs : cs.length = 257) :
    ((w.alloc (.cells zw.cells 59)).setCells w.heap.size 0 cs).rangeAt w.heap.size 0 cs ∧ (w.alloc (.cells zw.cells 59)).there w.heap.size 0 257 ∧ Fr NoB w ((w.alloc (.cells zw.cells 59)).setCells w.heap.size 0 cs) := by
  have hb := Bk.new w 59 zw.cells
  have ht : (w.alloc (.cells zw.cells 59)).there w.heap.size 0 257 := hb.there (by rw [zw_size]; exact Nat.le_refl _)
  exact ⟨World.rangeAt_setCells_same _ _ _ _ (by rw [hs]; exact ht), ht, Fr.setCells (.inr (Nat.le_refl _)) _ _ ((Fr.refl _ _).alloc _)⟩

set_option maxHeartbeats 4000000 in
theorem crash_ok {S : Nat → Prop} {d : Nat} {las : List (List UInt8)} {q : List (Nat × List UInt8)} (keep torn : Nat) (w : World) (h : DiskAt w S d las q) (hk : keep ≤ q.length) (ht : torn ≤ 256) (hq0 : 0 < q.length) (hql : q.length ≤ 16777215) :
    Calls Try.prog 12 #[.pointer (some ⟨d, 0, none⟩), .int .i64 keep, .int .i64 torn] w (CrashPost S d (0, las2F las q keep torn, []) w) := by
  have hh := waits_any w h
  obtain ⟨⟨gl, gs, Aq, cq, hbk, hrl, hrs, hrq, hne, hSl, hSs, hSq⟩, hS, hlt, hll, hqo, hpos, hfew⟩ := h
  obtain ⟨gq, rfl, hcq⟩ : ∃ gq, Aq = some ⟨gq, 0, none⟩ ∧ q.length ≤ cq := by
    rcases hrq.2 with ⟨_, h0, _⟩ | ⟨g, _, e, _, h0, _⟩
    · omega
    · exact ⟨g, e, h0⟩
  have c0 : w.cell? ⟨d, 0, none⟩ = some (.slice (some ⟨gl, 0, none⟩) las.length las.length) := hbk.cell 0
  have c2 : w.cell? ⟨d, 2, none⟩ = some (.slice (some ⟨gq, 0, none⟩) q.length cq) := hbk.cell 2
  have d0 : decide ((keep : Int) < 0) = false := decide_eq_false (by omega)
  have d1 : decide (q.length < keep) = false := decide_eq_false (by omega)
  have d2 : decide ((torn : Int) < 0) = false := decide_eq_false (by omega)
  have d3 : decide (256 < (torn : Int)) = false := decide_eq_false (by omega)
  have HBK := Lib.hid hbk
  clear hbk
  go_enter Try.func12, Try.ntmps12
  go_wp2_with fail
  refine hh.mono ?_
  rintro e w' ⟨rfl, rfl⟩
  have k0 : (0 : Int) ≤ (keep : Int) := by omega
  have k1 : (keep : Int) ≤ (cq : Int) := by omega
  go_wp2_with fail
  have HN : Hid (C1 w gl las q keep keep (.int .i64 (0 : Nat)) w) := ⟨0, Nat.zero_le _, rfl, rfl, hrl, Fr.refl _ _⟩
  have hq256 : ∀ p ∈ q, p.2.length = 256 := fun p hp => (hqo p hp).2
  have nqs : gq ≠ gs := fun e => by
    subst e
    obtain ⟨cur, hb'⟩ := hrs.blk
    rcases hrq.2 with ⟨h', _⟩ | ⟨g', cur', e', hbq, _⟩
    · cases h'
    · obtain rfl : gq = g' := by simpa using e'
      exact hbq.types hb' (by decide) rfl
  have nql : gq ≠ gl := fun e => by
    subst e
    obtain ⟨cur, hb'⟩ := hrl.blk
    rcases hrq.2 with ⟨h', _⟩ | ⟨g', cur', e', hbq, _⟩
    · cases h'
    · obtain rfl : gq = g' := by simpa using e'
      exact hbq.types hb' (by decide) rfl
  have ndl : d ≠ gl := by
    obtain ⟨cur, hb'⟩ := hrl.blk
    exact HBK.out.types hb' (by decide)
  have nds : d ≠ gs := by
    obtain ⟨cur, hb'⟩ := hrs.blk
    exact HBK.out.types hb' (by decide)
  have hgl := hlt _ hSl
  have hgs := hlt _ hSs
  have hdl := hlt _ hS
  have hgq := hlt gq (hSq gq (by simp [InB]))
  go_loopg [39] keep (fun g v wr => C1 w gl las q keep g v wr)
  case atStart => exact HN.out
  case round =>
    obtain ⟨j, hj, rfl, rfl, hrow, hf⟩ := hrel
    by_cases hjl : j < keep
    · obtain ⟨p, hp⟩ : ∃ p, q[j]? = some p := ⟨_, List.getElem?_eq_getElem (by omega)⟩
      have hpm := hqo p (List.mem_of_getElem? hp)
      have hlp : (wcell p).length = 257 := by simp [wcell, bv_len, hpm.2]
      have hqr := rangeAt_fr (q_range hrq hq256 hp) hf nql
      have hsz59 : (Try.prog.info? 59).map (·.size) = some (wcell p).length := by rw [size59, hlp]
      have hsz59' : (Try.prog.info? 59).map (·.size) = some (wcell p).toArray.size := by rw [hsz59]; simp
      obtain ⟨nb1, nb2, nb3⟩ := new_box wr (wcell p) hlp
      have j0 : (0 : Int) ≤ (j : Int) := by omega
      have HQ := Lib.hid hqr
      have HS := Lib.hid hsz59
      have HS2 := Lib.hid hsz59'
      have HT := Lib.hid nb2
      have hL : 257 = (wcell p).toArray.size := by simp [hlp]
      have HL := Lib.hid hL
      clear hqr hsz59 hsz59' nb2 hL
      go_wp2_with (first
        | (refine wpList_load_mid rfl 59 _ rfl gq (j * 257) rfl (wcell p) _ HQ.out Try.underlying59 rfl HS.out ?_)
        | (refine wpList_alloc_z rfl 59 _ rfl zero59 ?_)
        | (refine wpList_store_mid rfl 59 _ _ rfl wr.heap.size 0 (wcell p).toArray rfl rfl (by rw [← HL.out]; exact HT.out) HS2.out (wcell_all p) ?_)
        | fail)
      have hWz : ((wr.alloc (.cells zw.cells 59)).setCells wr.heap.size 0 (wcell p)).heap.size = wr.heap.size + 1 := by rw [size_setCells]; simp
      generalize (wr.alloc (.cells zw.cells 59)).setCells wr.heap.size 0 (wcell p) = W at *
      obtain ⟨x, hX⟩ : ∃ x, x = wr.heap.size := ⟨_, rfl⟩
      rw [← hX] at nb1 ⊢
      have HX := Lib.hid hX
      have HWZ := Lib.hid hWz
      clear hX hWz HQ HS HS2 HT HL
      have y0 : W.cell? ⟨d, 0, none⟩ = some (.slice (some ⟨gl, 0, none⟩) las.length las.length) := nb3.cell_some (hf.cell_some c0 ndl) (fun h => h)
      have y1 : W.cell? ⟨x, 0, none⟩ = some (.int .i64 p.1) := nb1 0 _ rfl
      have y2 : W.rangeAt x 1 (bv p.2) := rangeAt_drop (n := 1) nb1
      have hszd : (Try.prog.info? 57).map (·.size) = some (bv p.2).length := by rw [size57, bv_len, hpm.2]
      have hszd' : (Try.prog.info? 57).map (·.size) = some (bv p.2).toArray.size := by rw [hszd]; simp
      have i0 : (0 : Int) ≤ (p.1 : Int) := by omega
      have i1 : (p.1 : Int) < (las.length : Int) := by omega
      refine wp_region_plan 9 (fun w' => w'.cell? ⟨d, 0, none⟩ = some (.slice (some ⟨gl, 0, none⟩) las.length las.length) ∧ w'.cell? ⟨x, 0, none⟩ = some (.int .i64 p.1) ∧ w'.rangeAt x 1 (bv p.2))
        [(0, 0), (1, 0), (2, 0), (3, 1), (4, 0), (5, 1), (6, 0), (7, 1), (8, 0), (9, 2)] (by kernel_rfl) (by kernel_rfl) (fun _ _ _ _ _ h => h) ⟨y0, y1, (World.rangeAt_drew _ _ _ _).2 y2⟩ ?_
      refine wpPlan_free _ ?_ rfl (by rfl) (fun w' => ?_) ?_
      rotate_left
      · go_simp; with_reducible rfl
      simp only [Act.put, List.setIfInBounds_toArray, List.set_cons_zero, List.set_cons_succ]
      refine wpPlan_free _ ?_ rfl (by rfl) (fun w' => ?_) ?_
      rotate_left
      · go_simp; with_reducible rfl
      simp only [Act.put, List.setIfInBounds_toArray, List.set_cons_zero, List.set_cons_succ]
      refine wpPlan_free _ ?_ rfl (by rfl) (fun w' => ?_) ?_
      rotate_left
      · go_simp; with_reducible rfl
      simp only [Act.put, List.setIfInBounds_toArray, List.set_cons_zero, List.set_cons_succ]
      refine wpPlan_held _ ?_ rfl (by rfl) (fun w' hS => ?_) ?_
      rotate_left
      · obtain ⟨e0, e1, e2⟩ := hS; go_simp; with_reducible rfl
      simp only [Act.put, List.setIfInBounds_toArray, List.set_cons_zero, List.set_cons_succ]
      refine wpPlan_free _ ?_ rfl (by rfl) (fun w' => ?_) ?_
      rotate_left
      · go_simp; with_reducible rfl
      simp only [Act.put, List.setIfInBounds_toArray, List.set_cons_zero, List.set_cons_succ]
      refine wpPlan_held _ ?_ rfl (by rfl) (fun w' hS => ?_) ?_
      rotate_left
      · obtain ⟨e0, e1, e2⟩ := hS; go_simp; with_reducible rfl
      simp only [Act.put, List.setIfInBounds_toArray, List.set_cons_zero, List.set_cons_succ]
      refine wpPlan_free _ ?_ rfl (by rfl) (fun w' => ?_) ?_
      rotate_left
      · go_simp; with_reducible rfl
      simp only [Act.put, List.setIfInBounds_toArray, List.set_cons_zero, List.set_cons_succ]
      refine wpPlan_held _ ?_ rfl (by rfl) (fun w' hS => ?_) ?_
      rotate_left
      · refine exec_load_mid 57 (.tmp 49) ?_ x 1 ?_ (bv p.2) _ hS.2.2 Try.underlying57 rfl hszd <;> rfl
      simp only [Act.put, List.setIfInBounds_toArray, List.set_cons_zero, List.set_cons_succ]
      refine wpPlan_free _ ?_ rfl (by rfl) (fun w' => ?_) ?_
      rotate_left
      · go_simp; with_reducible rfl
      simp only [Act.put, List.setIfInBounds_toArray, List.set_cons_zero, List.set_cons_succ]
      have rowW := (hrow.fr nb3 (fun h => h)).fr ((Fr.refl NoB W).drew) (fun h => h)
      have hin : p.1 < ((apply (q.take j) las).map bv).length := by rw [List.length_map, apply_len]; exact hpm.1
      refine wpPlan_do _ rfl (fun K hK => ?_)
      refine step_wp rfl (wp_store_mid 57 (.tmp 51) (.tmp 50) rfl gl (p.1 * 256) (bv p.2).toArray (by rfl) (by rfl) (by simpa [bv_len, hpm.2] using rowW.spot hin) hszd' (bv_all _) ?_)
      refine hK _ _ (fun h => by cases h) ?_
      clear hK K
      refine wpPlan_nil ?_
      have rowW2 := rowW.store hin (bv p.2) (by rw [bv_len, hpm.2])
      rw [← List.map_set, ← apply_take_succ hp] at rowW2
      have fW2 : Fr (fun k => k = gl) w (W.drew.setCells gl (p.1 * 256) (bv p.2)) := Fr.setCells (S := fun k => k = gl) (.inl rfl) _ _ ((hf.join nb3 (fun _ _ h => h.elim)).drew)
      go_wp2_with fail
      go_roundg (keep - (j + 1))
      case measure => omega
      case rel => exact ⟨j + 1, by omega, rfl, by go_num, rowW2, fW2⟩
    · obtain rfl : keep = j := by omega
      clear HN
      have dd := hf.cell_some c2 ndl
      by_cases hkn : keep < q.length
      · obtain ⟨p, hp⟩ : ∃ p, q[keep]? = some p := ⟨_, List.getElem?_eq_getElem hkn⟩
        have hpm := hqo p (List.mem_of_getElem? hp)
        have hlp : (wcell p).length = 257 := by simp [wcell, bv_len, hpm.2]
        have hqr := rangeAt_fr (q_range hrq hq256 hp) hf nql
        have hsz59 : (Try.prog.info? 59).map (·.size) = some (wcell p).length := by rw [size59, hlp]
        have hsz59' : (Try.prog.info? 59).map (·.size) = some (wcell p).toArray.size := by rw [hsz59]; simp
        obtain ⟨nb1, nb2, nb3⟩ := new_box wr (wcell p) hlp
        have j0 : (0 : Int) ≤ (keep : Int) := by omega
        have HQ := Lib.hid hqr
        have HS := Lib.hid hsz59
        have HS2 := Lib.hid hsz59'
        have HT := Lib.hid nb2
        have hL : 257 = (wcell p).toArray.size := by simp [hlp]
        have HL := Lib.hid hL
        clear hqr hsz59 hsz59' nb2 hL
        go_wp2_with (first
          | (refine wpList_load_mid rfl 59 _ rfl gq (keep * 257) rfl (wcell p) _ HQ.out Try.underlying59 rfl HS.out ?_)
          | (refine wpList_alloc_z rfl 59 _ rfl zero59 ?_)
          | (refine wpList_store_mid rfl 59 _ _ rfl wr.heap.size 0 (wcell p).toArray rfl rfl (by rw [← HL.out]; exact HT.out) HS2.out (wcell_all p) ?_)
          | fail)
        have hWz : ((wr.alloc (.cells zw.cells 59)).setCells wr.heap.size 0 (wcell p)).heap.size = wr.heap.size + 1 := by rw [size_setCells]; simp
        generalize (wr.alloc (.cells zw.cells 59)).setCells wr.heap.size 0 (wcell p) = W at *
        obtain ⟨x, hX⟩ : ∃ x, x = wr.heap.size := ⟨_, rfl⟩
        rw [← hX] at nb1 ⊢
        have HX := Lib.hid hX
        have HWZ := Lib.hid hWz
        clear hX hWz HQ HS HS2 HT HL
        have y0 : W.cell? ⟨d, 0, none⟩ = some (.slice (some ⟨gl, 0, none⟩) las.length las.length) := nb3.cell_some (hf.cell_some c0 ndl) (fun h => h)
        have y1 : W.cell? ⟨x, 0, none⟩ = some (.int .i64 p.1) := nb1 0 _ rfl
        have y2 : W.rangeAt x 1 (bv p.2) := rangeAt_drop (n := 1) nb1
        have i0 : (0 : Int) ≤ (p.1 : Int) := by omega
        have i1 : (p.1 : Int) < (las.length : Int) := by omega
        have t0 : (0 : Int) ≤ (torn : Int) := by omega
        have t1 : (torn : Int) ≤ 256 := by omega
        refine wp_region_plan 12 (fun w' => w'.cell? ⟨d, 0, none⟩ = some (.slice (some ⟨gl, 0, none⟩) las.length las.length) ∧ w'.cell? ⟨x, 0, none⟩ = some (.int .i64 p.1))
          [(0, 0), (1, 0), (2, 0), (3, 1), (4, 0), (5, 1), (6, 0), (7, 0), (8, 0), (9, 0), (10, 0), (11, 2)] (by kernel_rfl) (by kernel_rfl) (fun _ _ _ _ _ h => h) ⟨y0, y1⟩ ?_
        refine wpPlan_free _ ?_ rfl (by rfl) (fun w' => ?_) ?_
        rotate_left
        · go_simp; with_reducible rfl
        simp only [Act.put, List.setIfInBounds_toArray, List.set_cons_zero, List.set_cons_succ]
        refine wpPlan_free _ ?_ rfl (by rfl) (fun w' => ?_) ?_
        rotate_left
        · go_simp; with_reducible rfl
        simp only [Act.put, List.setIfInBounds_toArray, List.set_cons_zero, List.set_cons_succ]
        refine wpPlan_free _ ?_ rfl (by rfl) (fun w' => ?_) ?_
        rotate_left
        · go_simp; with_reducible rfl
        simp only [Act.put, List.setIfInBounds_toArray, List.set_cons_zero, List.set_cons_succ]
        refine wpPlan_held _ ?_ rfl (by rfl) (fun w' hS => ?_) ?_
        rotate_left
        · obtain ⟨e0, e1⟩ := hS; go_simp; with_reducible rfl
        simp only [Act.put, List.setIfInBounds_toArray, List.set_cons_zero, List.set_cons_succ]
        refine wpPlan_free _ ?_ rfl (by rfl) (fun w' => ?_) ?_
        rotate_left
        · go_simp; with_reducible rfl
        simp only [Act.put, List.setIfInBounds_toArray, List.set_cons_zero, List.set_cons_succ]
        refine wpPlan_held _ ?_ rfl (by rfl) (fun w' hS => ?_) ?_
        rotate_left
        · obtain ⟨e0, e1⟩ := hS; go_simp; with_reducible rfl
        simp only [Act.put, List.setIfInBounds_toArray, List.set_cons_zero, List.set_cons_succ]
        refine wpPlan_free _ ?_ rfl (by rfl) (fun w' => ?_) ?_
        rotate_left
        · go_simp; with_reducible rfl
        simp only [Act.put, List.setIfInBounds_toArray, List.set_cons_zero, List.set_cons_succ]
        refine wpPlan_free _ ?_ rfl (by rfl) (fun w' => ?_) ?_
        rotate_left
        · go_simp; with_reducible rfl
        simp only [Act.put, List.setIfInBounds_toArray, List.set_cons_zero, List.set_cons_succ]
        refine wpPlan_free _ ?_ rfl (by rfl) (fun w' => ?_) ?_
        rotate_left
        · go_simp; with_reducible rfl
        simp only [Act.put, List.setIfInBounds_toArray, List.set_cons_zero, List.set_cons_succ]
        refine wpPlan_free _ ?_ rfl (by rfl) (fun w' => ?_) ?_
        rotate_left
        · go_simp; with_reducible rfl
        simp only [Act.put, List.setIfInBounds_toArray, List.set_cons_zero, List.set_cons_succ]
        refine wpPlan_free _ ?_ rfl (by rfl) (fun w' => ?_) ?_
        rotate_left
        · go_simp; with_reducible rfl
        simp only [Act.put, List.setIfInBounds_toArray, List.set_cons_zero, List.set_cons_succ]
        have rowW := (hrow.fr nb3 (fun h => h)).fr ((Fr.refl NoB W).drew) (fun h => h)
        have hin : p.1 < ((apply (q.take keep) las).map bv).length := by rw [List.length_map, apply_len]; exact hpm.1
        have hmin : Nat.min 256 torn = torn := Nat.min_eq_right ht
        have hxl : x < W.heap.size := by have := HX.out; have := HWZ.out; omega
        have rdx := rd_of_range (n := 256) (c := 256) ((World.rangeAt_drew W x 1 (bv p.2)).2 y2) hpm.2 (Nat.le_refl _) (by simp [maxLen]) (by simpa using hxl)
        refine wpPlan_do _ rfl (fun K hK => ?_)
        refine step_wp rfl (wp_copy_rd rfl 5 Try.underlying27 size5 gl (p.1 * 256) torn 256 (by rfl) (by rfl) rdx (by rw [hmin]; exact there_sub (rowW.spot hin) (Nat.le_refl _) (by omega)) (bv_one _) ?_)
        have nxl : x ≠ gl := by have := HX.out; have := hf.size; omega
        refine hK _ _ (fun _ => ⟨(World.cell?_setCells_out gl _ _ _ _ (fun h => absurd h ndl)).trans y0, (World.cell?_setCells_out gl _ _ _ _ (fun h => absurd h nxl)).trans y1⟩) ?_
        clear hK K
        refine wpPlan_nil ?_
        have hlap : p.1 < (apply (q.take keep) las).length := by rw [apply_len]; exact hpm.1
        have htl : ((bv p.2).take torn).length = torn := by rw [List.length_take, bv_len, hpm.2]; omega
        have rowW2 := rowW.put (i := p.1) (by rw [List.getElem?_map, List.getElem?_eq_getElem hlap]; rfl) ((bv p.2).take torn) (by rw [htl]; exact ht)
        have hL2 : ((apply (q.take keep) las).map bv).set p.1 ((bv p.2).take torn ++ (bv (apply (q.take keep) las)[p.1]).drop ((bv p.2).take torn).length) = (las2F las q keep torn).map bv := by
          unfold las2F tornF
          rw [hp]
          simp only []
          rw [List.map_set, htl, bv_append, ← bv_take, ← bv_drop, List.getElem?_eq_getElem hlap]
          rfl
        rw [hL2] at rowW2
        have hf2 : Fr (fun k => k = gl) w (W.drew.setCells gl (p.1 * 256) ((bv p.2).take torn)) := Fr.setCells (S := fun k => k = gl) (.inl rfl) _ _ ((hf.join nb3 (fun _ _ h => h.elim)).drew)
        simp only [Act.put, List.setIfInBounds_toArray, List.set_cons_zero, List.set_cons_succ, hmin]
        clear hmin dd rdx y0 y1 y2 hrow hf nb1 nb3 HX HWZ rowW
        generalize W.drew.setCells gl (p.1 * 256) ((bv p.2).take torn) = w2 at *
        clear nxl hxl
        generalize x = xo at *
        obtain ⟨L, hLd⟩ : ∃ L, L = las2F las q keep torn := ⟨_, rfl⟩
        rw [← hLd] at rowW2 ⊢
        have hrowL := rowW2
        clear hL2
        have hL2 : True := trivial
        have hLl : L.length = las.length := by rw [hLd]; exact las2F_len _ _ _ _
        have hLa : ∀ s ∈ L, s.length = 256 := by rw [hLd]; exact las2F_all hll hqo ht
        have g0 := hf2.cell_some c0 ndl
        have g1 : w2.cell? ⟨d, 1, none⟩ = some (.slice (some ⟨gs, 0, none⟩) las.length las.length) := hf2.cell_some (HBK.out.cell 1) ndl
        have g2 := hf2.cell_some c2 ndl
        have HM : Hid (C2 w2 gs L (apply q las) q q.length (.int .i64 (0 : Nat)) w2) := ⟨0, Nat.zero_le _, rfl, rfl, hrs.fr hf2 (Ne.symm hne), Fr.refl _ _⟩
        have HL2 := Lib.hid hL2
        have HLD := Lib.hid hLd
        clear hL2 hLd
        go_wp2_with fail
        go_loopg [80] q.length (fun g v wr => C2 w2 gs L (apply q las) q g v wr)
        case atStart => exact HM.out
        case round =>
          obtain ⟨j, hj, rfl, rfl, hrow, hf⟩ := hrel
          have hf12 : Fr (fun k => k = gl ∨ k = gs) w wr := (hf2.mono (fun _ _ h => .inl h)).trans (hf.mono (fun _ _ h => .inr h))
          have h0 := hf.cell_some g0 nds
          have h1 := hf.cell_some g1 nds
          have h2 := hf.cell_some g2 nds
          by_cases hjl : j < q.length
          · obtain ⟨p, hp⟩ : ∃ p, q[j]? = some p := ⟨_, List.getElem?_eq_getElem (by omega)⟩
            have hpm := hqo p (List.mem_of_getElem? hp)
            have hlp : (wcell p).length = 257 := by simp [wcell, bv_len, hpm.2]
            have hqr := rangeAt_fr (q_range hrq hq256 hp) hf12 (fun h => by rcases h with h | h; exact nql h; exact nqs h)
            have hsz59 : (Try.prog.info? 59).map (·.size) = some (wcell p).length := by rw [size59, hlp]
            have hsz59' : (Try.prog.info? 59).map (·.size) = some (wcell p).toArray.size := by rw [hsz59]; simp
            obtain ⟨nb1, nb2, nb3⟩ := new_box wr (wcell p) hlp
            have j0 : (0 : Int) ≤ (j : Int) := by omega
            have HQ := Lib.hid hqr
            have HS := Lib.hid hsz59
            have HS2 := Lib.hid hsz59'
            have HT := Lib.hid nb2
            have hL : 257 = (wcell p).toArray.size := by simp [hlp]
            have HL := Lib.hid hL
            clear hqr hsz59 hsz59' nb2 hL
            go_wp2_with (first
              | (refine wpList_load_mid rfl 59 _ rfl gq (j * 257) rfl (wcell p) _ HQ.out Try.underlying59 rfl HS.out ?_)
              | (refine wpList_alloc_z rfl 59 _ rfl zero59 ?_)
              | (refine wpList_store_mid rfl 59 _ _ rfl wr.heap.size 0 (wcell p).toArray rfl rfl (by rw [← HL.out]; exact HT.out) HS2.out (wcell_all p) ?_)
              | fail)
            have hWz : ((wr.alloc (.cells zw.cells 59)).setCells wr.heap.size 0 (wcell p)).heap.size = wr.heap.size + 1 := by rw [size_setCells]; simp
            generalize (wr.alloc (.cells zw.cells 59)).setCells wr.heap.size 0 (wcell p) = W at *
            obtain ⟨x, hX⟩ : ∃ x, x = wr.heap.size := ⟨_, rfl⟩
            rw [← hX] at nb1 ⊢
            have HX := Lib.hid hX
            have HWZ := Lib.hid hWz
            clear hX hWz HQ HS HS2 HT HL
            have hpl : p.1 < L.length := by rw [hLl]; exact hpm.1
            have hs256 := hLa L[p.1] (List.getElem_mem hpl)
            have hget : L[p.1]?.getD [] = L[p.1] := by rw [List.getElem?_eq_getElem hpl]; rfl
            have y0 : W.cell? ⟨d, 0, none⟩ = some (.slice (some ⟨gl, 0, none⟩) las.length las.length) := nb3.cell_some h0 (fun h => h)
            have y1 : W.cell? ⟨d, 1, none⟩ = some (.slice (some ⟨gs, 0, none⟩) las.length las.length) := nb3.cell_some h1 (fun h => h)
            have y2 : W.cell? ⟨x, 0, none⟩ = some (.int .i64 p.1) := nb1 0 _ rfl
            have y3 : W.rangeAt gl (p.1 * 256) (bv L[p.1]) := rangeAt_fr (rangeAt_fr (hrowL.get (List.getElem?_eq_getElem hpl)) hf hne) nb3 (fun h => h)
            generalize L[p.1] = s at *
            have hszd : (Try.prog.info? 57).map (·.size) = some (bv s).length := by rw [size57, bv_len, hs256]
            have hszd' : (Try.prog.info? 57).map (·.size) = some (bv s).toArray.size := by rw [hszd]; simp
            have i0 : (0 : Int) ≤ (p.1 : Int) := by omega
            have i1 : (p.1 : Int) < (las.length : Int) := by omega
            refine wp_region_plan 15 (fun w' => w'.cell? ⟨d, 1, none⟩ = some (.slice (some ⟨gs, 0, none⟩) las.length las.length) ∧ w'.cell? ⟨x, 0, none⟩ = some (.int .i64 p.1) ∧ w'.cell? ⟨d, 0, none⟩ = some (.slice (some ⟨gl, 0, none⟩) las.length las.length) ∧ w'.rangeAt gl (p.1 * 256) (bv s))
              [(0, 0), (1, 0), (2, 0), (3, 1), (4, 0), (5, 1), (6, 0), (7, 0), (8, 0), (9, 1), (10, 0), (11, 1), (12, 0), (13, 1), (14, 0), (15, 2)] (by kernel_rfl) (by kernel_rfl) (fun _ _ _ _ _ h => h) ⟨y1, y2, y0, (World.rangeAt_drew _ _ _ _).2 y3⟩ ?_
            refine wpPlan_free _ ?_ rfl (by rfl) (fun w' => ?_) ?_
            rotate_left
            · go_simp; with_reducible rfl
            simp only [Act.put, List.setIfInBounds_toArray, List.set_cons_zero, List.set_cons_succ]
            refine wpPlan_free _ ?_ rfl (by rfl) (fun w' => ?_) ?_
            rotate_left
            · go_simp; with_reducible rfl
            simp only [Act.put, List.setIfInBounds_toArray, List.set_cons_zero, List.set_cons_succ]
            refine wpPlan_free _ ?_ rfl (by rfl) (fun w' => ?_) ?_
            rotate_left
            · go_simp; with_reducible rfl
            simp only [Act.put, List.setIfInBounds_toArray, List.set_cons_zero, List.set_cons_succ]
            refine wpPlan_held _ ?_ rfl (by rfl) (fun w' hS => ?_) ?_
            rotate_left
            · obtain ⟨e0, e1, e2, e3⟩ := hS; go_simp; with_reducible rfl
            simp only [Act.put, List.setIfInBounds_toArray, List.set_cons_zero, List.set_cons_succ]
            refine wpPlan_free _ ?_ rfl (by rfl) (fun w' => ?_) ?_
            rotate_left
            · go_simp; with_reducible rfl
            simp only [Act.put, List.setIfInBounds_toArray, List.set_cons_zero, List.set_cons_succ]
            refine wpPlan_held _ ?_ rfl (by rfl) (fun w' hS => ?_) ?_
            rotate_left
            · obtain ⟨e0, e1, e2, e3⟩ := hS; go_simp; with_reducible rfl
            simp only [Act.put, List.setIfInBounds_toArray, List.set_cons_zero, List.set_cons_succ]
            refine wpPlan_free _ ?_ rfl (by rfl) (fun w' => ?_) ?_
            rotate_left
            · go_simp; with_reducible rfl
            simp only [Act.put, List.setIfInBounds_toArray, List.set_cons_zero, List.set_cons_succ]
            refine wpPlan_free _ ?_ rfl (by rfl) (fun w' => ?_) ?_
            rotate_left
            · go_simp; with_reducible rfl
            simp only [Act.put, List.setIfInBounds_toArray, List.set_cons_zero, List.set_cons_succ]
            refine wpPlan_free _ ?_ rfl (by rfl) (fun w' => ?_) ?_
            rotate_left
            · go_simp; with_reducible rfl
            simp only [Act.put, List.setIfInBounds_toArray, List.set_cons_zero, List.set_cons_succ]
            refine wpPlan_held _ ?_ rfl (by rfl) (fun w' hS => ?_) ?_
            rotate_left
            · obtain ⟨e0, e1, e2, e3⟩ := hS; go_simp; with_reducible rfl
            simp only [Act.put, List.setIfInBounds_toArray, List.set_cons_zero, List.set_cons_succ]
            refine wpPlan_free _ ?_ rfl (by rfl) (fun w' => ?_) ?_
            rotate_left
            · go_simp; with_reducible rfl
            simp only [Act.put, List.setIfInBounds_toArray, List.set_cons_zero, List.set_cons_succ]
            refine wpPlan_held _ ?_ rfl (by rfl) (fun w' hS => ?_) ?_
            rotate_left
            · obtain ⟨e0, e1, e2, e3⟩ := hS; go_simp; with_reducible rfl
            simp only [Act.put, List.setIfInBounds_toArray, List.set_cons_zero, List.set_cons_succ]
            refine wpPlan_free _ ?_ rfl (by rfl) (fun w' => ?_) ?_
            rotate_left
            · go_simp; with_reducible rfl
            simp only [Act.put, List.setIfInBounds_toArray, List.set_cons_zero, List.set_cons_succ]
            refine wpPlan_held _ ?_ rfl (by rfl) (fun w' hS => ?_) ?_
            rotate_left
            · refine exec_load_mid 57 (.tmp 96) ?_ gl (p.1 * 256) ?_ (bv s) _ hS.2.2.2 Try.underlying57 rfl hszd <;> rfl
            simp only [Act.put, List.setIfInBounds_toArray, List.set_cons_zero, List.set_cons_succ]
            refine wpPlan_free _ ?_ rfl (by rfl) (fun w' => ?_) ?_
            rotate_left
            · go_simp; with_reducible rfl
            simp only [Act.put, List.setIfInBounds_toArray, List.set_cons_zero, List.set_cons_succ]
            have rowW := (hrow.fr nb3 (fun h => h)).fr ((Fr.refl NoB W).drew) (fun h => h)
            have hin : p.1 < ((sees L (q.take j) (apply q las)).map bv).length := by rw [List.length_map, sees_len, apply_len]; exact hpm.1
            refine wpPlan_do _ rfl (fun K hK => ?_)
            refine step_wp rfl (wp_store_mid 57 (.tmp 98) (.tmp 97) rfl gs (p.1 * 256) (bv s).toArray (by rfl) (by rfl) (by simpa [bv_len, hs256] using rowW.spot hin) hszd' (bv_all _) ?_)
            refine hK _ _ (fun h => by cases h) ?_
            clear hK K
            refine wpPlan_nil ?_
            have rowW2 := rowW.store hin (bv s) (by rw [bv_len, hs256])
            have hsee : sees L (q.take (j + 1)) (apply q las) = (sees L (q.take j) (apply q las)).set p.1 s := by rw [sees_take_succ hp, hget]
            rw [← List.map_set, ← hsee] at rowW2
            have fW2 : Fr (fun k => k = gs) w2 (W.drew.setCells gs (p.1 * 256) (bv s)) := Fr.setCells (S := fun k => k = gs) (.inl rfl) _ _ ((hf.join nb3 (fun _ _ h => h.elim)).drew)
            clear hget hsee
            go_wp2_with fail
            go_roundg (q.length - (j + 1))
            case measure => omega
            case rel => exact ⟨j + 1, by omega, rfl, by go_num, rowW2, fW2⟩
          · obtain rfl : j = q.length := by omega
            have hb := HBK.out.fr hf12 (fun h => by rcases h with h | h; exact ndl h; exact nds h)
            have zf := hb.frozen 2
            have rowL := hrowL.fr hf hne
            rw [List.take_length] at hrow
            rw [HLD.out, sees_all, ← HLD.out] at hrow
            have b2 := hb.set 2 (.slice none 0 0)
            have f4 : Fr (fun j => j = d) wr (wr.setCell ⟨d, 2, none⟩ (.slice none 0 0)) := Fr.setCell (S := fun j => j = d) (p := ⟨d, 2, none⟩) (Fr.refl _ wr) (.inl rfl) _
            have fall : Fr S w (wr.setCell ⟨d, 2, none⟩ (.slice none 0 0)) := (hf12.mono (fun j _ e => by rcases e with e | e; (subst e; exact hSl); (subst e; exact hSs))).join f4 (fun j _ e => by subst e; exact hS)
            have rl4 := rowL.fr f4 (Ne.symm ndl)
            have rs4 := hrow.fr f4 (Ne.symm nds)
            have HB := Lib.hid hb
            clear hb
            go_wp2_with fail
            go_ret
            have zz := fall.size
            have hLd := HLD.out
            subst hLd
            refine ⟨S, rfl, ⟨⟨gl, gs, none, 0, ?_, rl4, ?_, Arr.none_ _ _ _, hne, hSl, hSs, fun k hk => (InB.none_ k hk).elim⟩, hS, fun k hk => ?_, hLa, by simp, by rw [hLl]; exact hpos, by rw [hLl]; exact hfew⟩, fall, fun k hk => .inl hk⟩
            · rw [hLl]
              simpa using b2
            · exact rs4
            · have := hlt k hk
              omega
      · obtain rfl : keep = q.length := by omega
        have hL2 : True := trivial
        obtain ⟨L, hLd⟩ : ∃ L, L = las2F las q q.length torn := ⟨_, rfl⟩
        have hf2 := hf
        have hrowL : Row wr gl 57 256 (L.map bv) := by rw [hLd, las2F_whole]; rwa [List.take_length] at hrow
        rw [← hLd]
        clear hrow hf
        generalize wr = w2 at *
        have hLl : L.length = las.length := by rw [hLd]; exact las2F_len _ _ _ _
        have hLa : ∀ s ∈ L, s.length = 256 := by rw [hLd]; exact las2F_all hll hqo ht
        have g0 := hf2.cell_some c0 ndl
        have g1 : w2.cell? ⟨d, 1, none⟩ = some (.slice (some ⟨gs, 0, none⟩) las.length las.length) := hf2.cell_some (HBK.out.cell 1) ndl
        have g2 := hf2.cell_some c2 ndl
        have HM : Hid (C2 w2 gs L (apply q las) q q.length (.int .i64 (0 : Nat)) w2) := ⟨0, Nat.zero_le _, rfl, rfl, hrs.fr hf2 (Ne.symm hne), Fr.refl _ _⟩
        have HL2 := Lib.hid hL2
        have HLD := Lib.hid hLd
        clear hL2 hLd
        go_wp2_with fail
        go_loopg [80] q.length (fun g v wr => C2 w2 gs L (apply q las) q g v wr)
        case atStart => exact HM.out
        case round =>
          obtain ⟨j, hj, rfl, rfl, hrow, hf⟩ := hrel
          have hf12 : Fr (fun k => k = gl ∨ k = gs) w wr := (hf2.mono (fun _ _ h => .inl h)).trans (hf.mono (fun _ _ h => .inr h))
          have h0 := hf.cell_some g0 nds
          have h1 := hf.cell_some g1 nds
          have h2 := hf.cell_some g2 nds
          by_cases hjl : j < q.length
          · obtain ⟨p, hp⟩ : ∃ p, q[j]? = some p := ⟨_, List.getElem?_eq_getElem (by omega)⟩
            have hpm := hqo p (List.mem_of_getElem? hp)
            have hlp : (wcell p).length = 257 := by simp [wcell, bv_len, hpm.2]
            have hqr := rangeAt_fr (q_range hrq hq256 hp) hf12 (fun h => by rcases h with h | h; exact nql h; exact nqs h)
            have hsz59 : (Try.prog.info? 59).map (·.size) = some (wcell p).length := by rw [size59, hlp]
            have hsz59' : (Try.prog.info? 59).map (·.size) = some (wcell p).toArray.size := by rw [hsz59]; simp
            obtain ⟨nb1, nb2, nb3⟩ := new_box wr (wcell p) hlp
            have j0 : (0 : Int) ≤ (j : Int) := by omega
            have HQ := Lib.hid hqr
            have HS := Lib.hid hsz59
            have HS2 := Lib.hid hsz59'
            have HT := Lib.hid nb2
            have hL : 257 = (wcell p).toArray.size := by simp [hlp]
            have HL := Lib.hid hL
            clear hqr hsz59 hsz59' nb2 hL
            go_wp2_with (first
              | (refine wpList_load_mid rfl 59 _ rfl gq (j * 257) rfl (wcell p) _ HQ.out Try.underlying59 rfl HS.out ?_)
              | (refine wpList_alloc_z rfl 59 _ rfl zero59 ?_)
              | (refine wpList_store_mid rfl 59 _ _ rfl wr.heap.size 0 (wcell p).toArray rfl rfl (by rw [← HL.out]; exact HT.out) HS2.out (wcell_all p) ?_)
              | fail)
            have hWz : ((wr.alloc (.cells zw.cells 59)).setCells wr.heap.size 0 (wcell p)).heap.size = wr.heap.size + 1 := by rw [size_setCells]; simp
            generalize (wr.alloc (.cells zw.cells 59)).setCells wr.heap.size 0 (wcell p) = W at *
            obtain ⟨x, hX⟩ : ∃ x, x = wr.heap.size := ⟨_, rfl⟩
            rw [← hX] at nb1 ⊢
            have HX := Lib.hid hX
            have HWZ := Lib.hid hWz
            clear hX hWz HQ HS HS2 HT HL
            have hpl : p.1 < L.length := by rw [hLl]; exact hpm.1
            have hs256 := hLa L[p.1] (List.getElem_mem hpl)
            have hget : L[p.1]?.getD [] = L[p.1] := by rw [List.getElem?_eq_getElem hpl]; rfl
            have y0 : W.cell? ⟨d, 0, none⟩ = some (.slice (some ⟨gl, 0, none⟩) las.length las.length) := nb3.cell_some h0 (fun h => h)
            have y1 : W.cell? ⟨d, 1, none⟩ = some (.slice (some ⟨gs, 0, none⟩) las.length las.length) := nb3.cell_some h1 (fun h => h)
            have y2 : W.cell? ⟨x, 0, none⟩ = some (.int .i64 p.1) := nb1 0 _ rfl
            have y3 : W.rangeAt gl (p.1 * 256) (bv L[p.1]) := rangeAt_fr (rangeAt_fr (hrowL.get (List.getElem?_eq_getElem hpl)) hf hne) nb3 (fun h => h)
            generalize L[p.1] = s at *
            have hszd : (Try.prog.info? 57).map (·.size) = some (bv s).length := by rw [size57, bv_len, hs256]
            have hszd' : (Try.prog.info? 57).map (·.size) = some (bv s).toArray.size := by rw [hszd]; simp
            have i0 : (0 : Int) ≤ (p.1 : Int) := by omega
            have i1 : (p.1 : Int) < (las.length : Int) := by omega
            refine wp_region_plan 15 (fun w' => w'.cell? ⟨d, 1, none⟩ = some (.slice (some ⟨gs, 0, none⟩) las.length las.length) ∧ w'.cell? ⟨x, 0, none⟩ = some (.int .i64 p.1) ∧ w'.cell? ⟨d, 0, none⟩ = some (.slice (some ⟨gl, 0, none⟩) las.length las.length) ∧ w'.rangeAt gl (p.1 * 256) (bv s))
              [(0, 0), (1, 0), (2, 0), (3, 1), (4, 0), (5, 1), (6, 0), (7, 0), (8, 0), (9, 1), (10, 0), (11, 1), (12, 0), (13, 1), (14, 0), (15, 2)] (by kernel_rfl) (by kernel_rfl) (fun _ _ _ _ _ h => h) ⟨y1, y2, y0, (World.rangeAt_drew _ _ _ _).2 y3⟩ ?_
            refine wpPlan_free _ ?_ rfl (by rfl) (fun w' => ?_) ?_
            rotate_left
            · go_simp; with_reducible rfl
            simp only [Act.put, List.setIfInBounds_toArray, List.set_cons_zero, List.set_cons_succ]
            refine wpPlan_free _ ?_ rfl (by rfl) (fun w' => ?_) ?_
            rotate_left
            · go_simp; with_reducible rfl
            simp only [Act.put, List.setIfInBounds_toArray, List.set_cons_zero, List.set_cons_succ]
            refine wpPlan_free _ ?_ rfl (by rfl) (fun w' => ?_) ?_
            rotate_left
            · go_simp; with_reducible rfl
            simp only [Act.put, List.setIfInBounds_toArray, List.set_cons_zero, List.set_cons_succ]
            refine wpPlan_held _ ?_ rfl (by rfl) (fun w' hS => ?_) ?_
            rotate_left
            · obtain ⟨e0, e1, e2, e3⟩ := hS; go_simp; with_reducible rfl
            simp only [Act.put, List.setIfInBounds_toArray, List.set_cons_zero, List.set_cons_succ]
            refine wpPlan_free _ ?_ rfl (by rfl) (fun w' => ?_) ?_
            rotate_left
            · go_simp; with_reducible rfl
            simp only [Act.put, List.setIfInBounds_toArray, List.set_cons_zero, List.set_cons_succ]
            refine wpPlan_held _ ?_ rfl (by rfl) (fun w' hS => ?_) ?_
            rotate_left
            · obtain ⟨e0, e1, e2, e3⟩ := hS; go_simp; with_reducible rfl
            simp only [Act.put, List.setIfInBounds_toArray, List.set_cons_zero, List.set_cons_succ]
            refine wpPlan_free _ ?_ rfl (by rfl) (fun w' => ?_) ?_
            rotate_left
            · go_simp; with_reducible rfl
            simp only [Act.put, List.setIfInBounds_toArray, List.set_cons_zero, List.set_cons_succ]
            refine wpPlan_free _ ?_ rfl (by rfl) (fun w' => ?_) ?_
            rotate_left
            · go_simp; with_reducible rfl
            simp only [Act.put, List.setIfInBounds_toArray, List.set_cons_zero, List.set_cons_succ]
            refine wpPlan_free _ ?_ rfl (by rfl) (fun w' => ?_) ?_
            rotate_left
            · go_simp; with_reducible rfl
            simp only [Act.put, List.setIfInBounds_toArray, List.set_cons_zero, List.set_cons_succ]
            refine wpPlan_held _ ?_ rfl (by rfl) (fun w' hS => ?_) ?_
            rotate_left
            · obtain ⟨e0, e1, e2, e3⟩ := hS; go_simp; with_reducible rfl
            simp only [Act.put, List.setIfInBounds_toArray, List.set_cons_zero, List.set_cons_succ]
            refine wpPlan_free _ ?_ rfl (by rfl) (fun w' => ?_) ?_
            rotate_left
            · go_simp; with_reducible rfl
            simp only [Act.put, List.setIfInBounds_toArray, List.set_cons_zero, List.set_cons_succ]
            refine wpPlan_held _ ?_ rfl (by rfl) (fun w' hS => ?_) ?_
            rotate_left
            · obtain ⟨e0, e1, e2, e3⟩ := hS; go_simp; with_reducible rfl
            simp only [Act.put, List.setIfInBounds_toArray, List.set_cons_zero, List.set_cons_succ]
            refine wpPlan_free _ ?_ rfl (by rfl) (fun w' => ?_) ?_
            rotate_left
            · go_simp; with_reducible rfl
            simp only [Act.put, List.setIfInBounds_toArray, List.set_cons_zero, List.set_cons_succ]
            refine wpPlan_held _ ?_ rfl (by rfl) (fun w' hS => ?_) ?_
            rotate_left
            · refine exec_load_mid 57 (.tmp 96) ?_ gl (p.1 * 256) ?_ (bv s) _ hS.2.2.2 Try.underlying57 rfl hszd <;> rfl
            simp only [Act.put, List.setIfInBounds_toArray, List.set_cons_zero, List.set_cons_succ]
            refine wpPlan_free _ ?_ rfl (by rfl) (fun w' => ?_) ?_
            rotate_left
            · go_simp; with_reducible rfl
            simp only [Act.put, List.setIfInBounds_toArray, List.set_cons_zero, List.set_cons_succ]
            have rowW := (hrow.fr nb3 (fun h => h)).fr ((Fr.refl NoB W).drew) (fun h => h)
            have hin : p.1 < ((sees L (q.take j) (apply q las)).map bv).length := by rw [List.length_map, sees_len, apply_len]; exact hpm.1
            refine wpPlan_do _ rfl (fun K hK => ?_)
            refine step_wp rfl (wp_store_mid 57 (.tmp 98) (.tmp 97) rfl gs (p.1 * 256) (bv s).toArray (by rfl) (by rfl) (by simpa [bv_len, hs256] using rowW.spot hin) hszd' (bv_all _) ?_)
            refine hK _ _ (fun h => by cases h) ?_
            clear hK K
            refine wpPlan_nil ?_
            have rowW2 := rowW.store hin (bv s) (by rw [bv_len, hs256])
            have hsee : sees L (q.take (j + 1)) (apply q las) = (sees L (q.take j) (apply q las)).set p.1 s := by rw [sees_take_succ hp, hget]
            rw [← List.map_set, ← hsee] at rowW2
            have fW2 : Fr (fun k => k = gs) w2 (W.drew.setCells gs (p.1 * 256) (bv s)) := Fr.setCells (S := fun k => k = gs) (.inl rfl) _ _ ((hf.join nb3 (fun _ _ h => h.elim)).drew)
            clear hget hsee
            go_wp2_with fail
            go_roundg (q.length - (j + 1))
            case measure => omega
            case rel => exact ⟨j + 1, by omega, rfl, by go_num, rowW2, fW2⟩
          · obtain rfl : j = q.length := by omega
            have hb := HBK.out.fr hf12 (fun h => by rcases h with h | h; exact ndl h; exact nds h)
            have zf := hb.frozen 2
            have rowL := hrowL.fr hf hne
            rw [List.take_length] at hrow
            rw [HLD.out, sees_all, ← HLD.out] at hrow
            have b2 := hb.set 2 (.slice none 0 0)
            have f4 : Fr (fun j => j = d) wr (wr.setCell ⟨d, 2, none⟩ (.slice none 0 0)) := Fr.setCell (S := fun j => j = d) (p := ⟨d, 2, none⟩) (Fr.refl _ wr) (.inl rfl) _
            have fall : Fr S w (wr.setCell ⟨d, 2, none⟩ (.slice none 0 0)) := (hf12.mono (fun j _ e => by rcases e with e | e; (subst e; exact hSl); (subst e; exact hSs))).join f4 (fun j _ e => by subst e; exact hS)
            have rl4 := rowL.fr f4 (Ne.symm ndl)
            have rs4 := hrow.fr f4 (Ne.symm nds)
            have HB := Lib.hid hb
            clear hb
            go_wp2_with fail
            go_ret
            have zz := fall.size
            have hLd := HLD.out
            subst hLd
            refine ⟨S, rfl, ⟨⟨gl, gs, none, 0, ?_, rl4, ?_, Arr.none_ _ _ _, hne, hSl, hSs, fun k hk => (InB.none_ k hk).elim⟩, hS, fun k hk => ?_, hLa, by simp, by rw [hLl]; exact hpos, by rw [hLl]; exact hfew⟩, fall, fun k hk => .inl hk⟩
            · rw [hLl]
              simpa using b2
            · exact rs4
            · have := hlt k hk
              omega
end Go.Proofs.Ytghddmdehbacaaa
