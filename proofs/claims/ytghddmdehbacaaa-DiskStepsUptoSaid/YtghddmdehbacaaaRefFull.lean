/- The document's disk: contract of full; what lies in memory; contracts of New, Lasts. -/
import Derived.Test.YtghddmdehbacaaaSeen
namespace Go.Proofs.Ytghddmdehbacaaa
open Go.RowKit

theorem full_any {U : Nat → Prop} (B : Option Addr) (c : Nat) (kb : List UInt8) (w : World) (h : Rd w U 1 B kb.length c (bv kb)) (hl : kb.length ≤ 256) :
    Calls Try.prog 21 #[.slice B kb.length c] w fun e w' => ∃ x, w.heap.size ≤ x ∧ e = .returned (.slice (some ⟨x, 0, none⟩) 256 256) ∧ Arr w' 5 1 (some ⟨x, 0, none⟩) 256 256 (bv (full kb)) ∧ Fr NoB w w' := by
  have hmk := run_mb
  have fC : Fr NoB w (w.alloc (.cells mb 5)) := (Fr.refl _ _).alloc _
  have HM : Hid (S3 (w.alloc (.cells mb 5)) w.heap.size kb kb.length (.int .i64 (0 : Nat)) (w.alloc (.cells mb 5))) := ⟨0, Nat.zero_le _, rfl, rfl, by rw [part_zero]; exact mb_arr w, Fr.refl _ _⟩
  have rd5 := h.fr fC (fun _ _ _ h => h)
  have hold : ∀ k, U k ∧ B.map (·.block) = some k → k < w.heap.size ∨ kb.length = 0 := fun k hk => by
    cases B with
    | none => simp at hk
    | some a =>
      simp only [Option.map_some, Option.some.injEq] at hk
      by_cases h0 : 0 < kb.length
      · have := (h.2.2.2.2 a rfl h0).2.1
        omega
      · omega
  go_enter Try.func21, Try.ntmps21
  go_wp2_with fail
  obtain ⟨w5, hw5⟩ : ∃ w5, w5 = w.alloc (.cells mb 5) := ⟨_, rfl⟩
  rw [← hw5] at HM fC rd5 ⊢
  obtain ⟨bx, hbx⟩ : ∃ bx, bx = w.heap.size := ⟨_, rfl⟩
  rw [← hbx] at HM ⊢
  replace hbx := Lib.hid hbx
  replace hw5 := Lib.hid hw5
  go_loopg [9] kb.length (fun g v58 wr => S3 w5 bx kb g v58 wr)
  case atStart => exact HM.out
  case round =>
    obtain ⟨j, hj, rfl, rfl, harr, hf⟩ := hrel
    by_cases hjl : j < kb.length
    · obtain ⟨g', off', u, rfl, hgS, hgl, hu, hcu⟩ := rd5.cell_at hjl 0 (by omega)
      simp only [Nat.mul_one, Nat.add_zero] at hu hcu
      have hne : g' ≠ bx := fun e => by
        have := hold g' ⟨hgS, rfl⟩
        have := hbx.out
        omega
      replace hcu := hf.cell_some hcu hne
      have hux : u = .int .u8 ((kb[j]).toNat : Int) := by
        simp only [bv, List.getElem?_map, List.getElem?_eq_getElem hjl, Option.map_some, Option.some.injEq] at hu
        exact hu.symm
      subst hux
      obtain ⟨⟨v, z0⟩, z1⟩ := harr.spot (j := j) (by omega)
      have hnew := harr.store j (.int .u8 ((kb[j]).toNat : Int))
      rw [bv_set, part_set hjl (by omega)] at hnew
      have hfn : Fr (fun k => k = bx) w5 (wr.setCell ⟨bx, j, none⟩ (.int .u8 ((kb[j]).toNat : Int))) := Fr.setCell (S := fun k => k = bx) (p := ⟨bx, j, none⟩) hf (.inl rfl) _
      have j0 : (0 : Int) ≤ (j : Int) := by omega
      have j1 : (j : Int) < 256 := by omega
      generalize ((kb[j]).toNat : Int) = xv at *
      have HS := Lib.hid hnew
      have HF := Lib.hid hfn
      clear hnew hfn
      go_wp2_with fail
      go_roundg (kb.length - (j + 1))
      case measure => omega
      case rel => exact ⟨j + 1, by omega, rfl, by go_num, HS.out, HF.out⟩
    · obtain rfl : j = kb.length := by omega
      rw [part_full] at harr
      go_wp2_with fail
      go_ret
      have := hbx.out
      exact ⟨bx, by omega, rfl, harr, fC.join hf (fun i hi e => by omega)⟩

/-- A write in the document's queue. -/
def QIs (w : World) (U : Nat → Prop) (cs : List Value) (p : Nat × List UInt8) : Prop := ∃ A c, cs = [.int .i64 p.1, .slice A 256 c] ∧ p.2.length = 256 ∧ Rd w U 1 A 256 c (bv p.2)
def LIs (w : World) (U : Nat → Prop) (v : Value) (s : List UInt8) : Prop := ∃ A c, v = .slice A s.length c ∧ (s.length = 0 ∨ s.length = 256) ∧ Rd w U 1 A s.length c (bv s)

structure RefAt (w : World) (T U : Nat → Prop) (p : Nat) (L : List (List UInt8)) (q : List (Nat × List UInt8)) : Prop where
  ex : ∃ gl Aq cq vs css, Bk w p 45 #[.slice (some ⟨gl, 0, none⟩) L.length L.length, .slice Aq q.length cq] ∧ Bk w gl 27 vs ∧ vs.size = L.length ∧ (∀ (i : Nat) v s, vs[i]? = some v → L[i]? = some s → LIs w U v s) ∧
    Arr w 62 2 Aq q.length cq (List.flatten css) ∧ css.length = q.length ∧ (∀ (i : Nat) cs x, css[i]? = some cs → q[i]? = some x → QIs w U cs x) ∧ T gl ∧ (∀ k, InB Aq k → T k)
  own : T p
  dis : ∀ k, T k → ¬ U k
  ltT : ∀ k, T k → k < w.heap.size
  ltU : ∀ k, U k → k < w.heap.size
  q_ok : ∀ x ∈ q, x.1 < L.length
  few : L.length ≤ 8192
  pos : 0 < L.length
end Go.Proofs.Ytghddmdehbacaaa
