/- DiskFirst: the walk. -/
import Derived.Test.YtghddmdehbacaaaStepsIn
import Derived.Deep.LoopGhost
namespace Go.Proofs.Ytghddmdehbacaaa
open Go.RowKit

theorem writeF_cases (m : Nat) (i : Int) (b : List UInt8) : (∃ x : Int, (x == 0) = false ∧ ∀ q, writeF m q i b = (x, q)) ∨ (∃ p : Nat × List UInt8, ∀ q, writeF m q i b = (0, q ++ [p])) := by
  by_cases h1 : hasB m i = true
  · by_cases h2 : 256 < b.length
    · exact .inl ⟨2, rfl, fun q => by unfold writeF; rw [if_pos h1, if_pos h2]⟩
    · exact .inr ⟨_, fun q => by unfold writeF; rw [if_pos h1, if_neg h2]⟩
  · exact .inl ⟨6, rfl, fun q => by unfold writeF; rw [if_neg h1]⟩

def writes (m : Nat) (ss : List StepS) : List (Nat × List UInt8) := ss.foldl (fun q s => (writeF m q s.a s.b).2) []
theorem writes_snoc {m : Nat} {ss : List StepS} {k : Nat} {s : StepS} (h : ss[k]? = some s) : writes m (ss.take (k + 1)) = (writeF m (writes m (ss.take k)) s.a s.b).2 := by
  rw [List.take_succ_eq_append_getElem (List.getElem?_eq_some_iff.1 h).1, (List.getElem?_eq_some_iff.1 h).2]
  simp [writes]

/-- Two disks that share nothing. -/
structure Two (w : World) (d x : Nat) (S T : Nat → Prop) (l1 : List (List UInt8)) (q1 : List (Nat × List UInt8)) (l2 : List (List UInt8)) (q2 : List (Nat × List UInt8)) (wr : World) : Prop where
  one : DiskAt wr S d l1 q1
  two : DiskAt wr T x l2 q2
  dis : ∀ k, S k → ¬ T k
  ups : Up w.heap.size S
  upt : Up w.heap.size T
  fr : Fr NoB w wr

theorem Two.keep {w wr W : World} {d x : Nat} {S T : Nat → Prop} {l1 l2 : List (List UInt8)} {q1 q2 : List (Nat × List UInt8)} (h : Two w d x S T l1 q1 l2 q2 wr) (hf : Fr NoB wr W) : Two w d x S T l1 q1 l2 q2 W :=
  ⟨h.one.fr hf (fun _ _ h => h), h.two.fr hf (fun _ _ h => h), h.dis, h.ups, h.upt, h.fr.trans hf⟩
theorem Two.left {w W w2 : World} {d x : Nat} {S T S2 : Nat → Prop} {l1 l2 l1' : List (List UInt8)} {q1 q2 q1' : List (Nat × List UInt8)} (h : Two w d x S T l1 q1 l2 q2 W)
    (hn : DiskAt w2 S2 d l1' q1') (hf : Fr S W w2) (hg : Gr S S2 W) : Two w d x S2 T l1' q1' l2 q2 w2 := by
  have z0 := h.fr.size
  refine ⟨hn, h.two.fr hf (fun k ht hs => h.dis k hs ht), fun k hs ht => ?_, hg.up h.ups z0, h.upt, h.fr.up hf h.ups⟩
  rcases hg k hs with h' | h'
  · exact h.dis k h' ht
  · have := h.two.lt k ht; omega
theorem Two.right {w W w2 : World} {d x : Nat} {S T T2 : Nat → Prop} {l1 l2 l2' : List (List UInt8)} {q1 q2 q2' : List (Nat × List UInt8)} (h : Two w d x S T l1 q1 l2 q2 W)
    (hn : DiskAt w2 T2 x l2' q2') (hf : Fr T W w2) (hg : Gr T T2 W) : Two w d x S T2 l1 q1 l2' q2' w2 := by
  have z0 := h.fr.size
  refine ⟨h.one.fr hf h.dis, hn, fun k hs ht => ?_, h.ups, hg.up h.upt z0, h.fr.up hf h.upt⟩
  rcases hg k ht with h' | h'
  · exact h.dis k hs h'
  · have := h.one.lt k hs; omega

def F1 (ss : List StepS) (w : World) (d x : Nat) (g : Nat) (v9 v43 : Value) (wr : World) : Prop :=
  ∃ (k : Nat) (S T : Nat → Prop) (q : List (Nat × List UInt8)), k ≤ ss.length ∧ g = ss.length - k ∧ v43 = .int .i64 k ∧ v9 = .int .i64 q.length ∧ q = writes 4 (ss.take k) ∧ q.length ≤ k ∧ Two w d x S T (zeros 4) q (zeros 4) [] wr
def F2 (ss : List StepS) (w : World) (d x : Nat) (kp : Nat) (g : Nat) (v67 : Value) (wr : World) : Prop :=
  ∃ (k : Nat) (S T : Nat → Prop), k ≤ ss.length ∧ g = ss.length - k ∧ v67 = .int .i64 k ∧ (writes 4 (ss.take k)).length ≤ k ∧ Two w d x S T (zeros 4) (writes 4 ss) (zeros 4) ((writes 4 (ss.take k)).take kp) wr
def F3 (w : World) (d x : Nat) (X : List (List UInt8)) (g : Nat) (v14 : Value) (wr : World) : Prop :=
  ∃ (j : Nat) (S T : Nat → Prop), j ≤ 4 ∧ g = 4 - j ∧ v14 = .int .i64 j ∧ Two w d x S T X [] X [] wr

set_option maxHeartbeats 8000000 in
set_option maxRecDepth 100000 in
theorem first_any (A : Option Addr) (c : Nat) (ss : List StepS) (keep : Int) (w : World) (h : StepsIn w w.heap.size A c ss) (hss : ss.length ≤ 1048576) :
    Calls Try.prog 3 #[.slice A ss.length c, .int .i64 keep] w (LawPost w) := by
  go_enter Try.func3, Try.ntmps3
  go_wp2_with fail
  refine (new_any 4 _).mono ?_
  rintro e w1 (⟨_, _, d, S, hd, rfl, dk1, up1, fr1⟩ | ⟨hno, _⟩)
  rotate_left
  · omega
  go_wp2_with fail
  refine (new_any 4 _).mono ?_
  rintro e w2 (⟨_, _, x, T, hx, rfl, dx2, up2, fr2⟩ | ⟨hno, _⟩)
  rotate_left
  · omega
  have z1 := fr1.size
  have hT0 : Two w d x S T (zeros 4) [] (zeros 4) [] w2 := ⟨dk1.fr fr2 (fun _ _ h => h), dx2, fun k hs ht => by have := dk1.lt k hs; have := up2 k ht; omega, up1, fun k hk => by have := up2 k hk; omega, fr1.trans fr2⟩
  have HN : Hid (F1 ss w d x ss.length (.int .i64 (0 : Nat)) (.int .i64 (0 : Nat)) w2) := ⟨0, S, T, [], Nat.zero_le _, rfl, rfl, rfl, rfl, Nat.le_refl _, hT0⟩
  clear hT0 dk1 dx2 up1 up2 fr1 fr2 z1
  go_wp2_with fail
  go_loopg [9, 43] ss.length (fun g v9 v43 wr => F1 ss w d x g v9 v43 wr)
  case atStart => exact HN
  case round =>
    obtain ⟨k, S, T, q, hk, rfl, rfl, rfl, hqw, hql, hw⟩ := hrel
    by_cases hlt : k < ss.length
    · obtain ⟨b, off, A', c', kd, ka, kc, kb, hsk, rfl, x0, x1, x2, x3, hrd⟩ := (h.fr hw.fr).step hlt
      have hW : Fr NoB wr (wr.alloc (.cells #[.int .i64 kd, .int .i64 ka, .int .i64 kc, .slice A' kb.length c'] 29)) := (Fr.refl _ _).alloc _
      have hws := Lib.hid (writes_snoc (m := 4) hsk)
      clear hsk
      have HW := Lib.hid (hw.keep hW)
      have hwa := Lib.hid (write_any ka A' c' kb _ (hw.keep hW).one (hrd.fr hW (fun _ _ _ h => h)) (by omega))
      have HQ := Lib.hid hqw
      clear hw hrd hqw
      go_wp2_with fail
      refine hwa.out.mono ?_
      rw [zeros_len]
      rcases writeF_cases 4 ka kb with ⟨y, hy, hF⟩ | ⟨p, hF⟩
      · rw [hF]
        rintro e w3 ⟨S3, rfl, dk3, fr3, gr3⟩
        have hT := HW.out.left dk3 fr3 gr3
        have HT := Lib.hid hT
        clear hT dk3 fr3 gr3
        go_wp2_with fail
        go_roundg (ss.length - (k + 1))
        case measure => omega
        case rel => exact ⟨k + 1, S3, T, q, by omega, rfl, by go_num, rfl, by rw [hws.out, ← HQ.out, hF], by omega, HT.out⟩
      · rw [hF]
        rintro e w3 ⟨S3, rfl, dk3, fr3, gr3⟩
        have hT := HW.out.left dk3 fr3 gr3
        have HT := Lib.hid hT
        clear hT dk3 fr3 gr3
        go_wp2_with fail
        go_roundg (ss.length - (k + 1))
        case measure => omega
        case rel => exact ⟨k + 1, S3, T, q ++ [p], by omega, rfl, by go_num, by simp, by rw [hws.out, ← HQ.out, hF], by simp; omega, HT.out⟩
    · obtain rfl : k = ss.length := by omega
      rw [List.take_length] at hqw
      subst hqw
      by_cases hkeep : 0 ≤ keep ∧ keep ≤ (writes 4 ss).length
      · obtain ⟨kp, rfl⟩ := Int.eq_ofNat_of_zero_le hkeep.1
        have hkp : kp ≤ (writes 4 ss).length := by omega
        have d0 : decide ((kp : Int) < 0) = false := decide_eq_false (by omega)
        have d1 : decide ((writes 4 ss).length < kp) = false := decide_eq_false (by omega)
        clear hkeep
        have HK := Lib.hid hkp
        have HQ := Lib.hid hql
        have HW := Lib.hid hw
        clear hkp hql hw HN
        go_wp2_with fail
        have HM : Hid (F2 ss w d x kp ss.length (.int .i64 (0 : Nat)) wr) := ⟨0, S, T, Nat.zero_le _, rfl, rfl, Nat.le_refl _, by rw [show (writes 4 (ss.take 0)).take kp = [] from by simp [writes]]; exact HW.out⟩
        clear HW
        go_loopg [67] ss.length (fun g v67 wr => F2 ss w d x kp g v67 wr)
        case atStart => exact HM.out
        case round =>
          obtain ⟨k, S, T, hk, rfl, rfl, hql, hw⟩ := hrel
          by_cases hlt : k < ss.length
          · obtain ⟨b, off, A', c', kd, ka, kc, kb, hsk, rfl, x0, x1, x2, x3, hrd⟩ := (h.fr hw.fr).step hlt
            have hW : Fr NoB wr (wr.alloc (.cells #[.int .i64 kd, .int .i64 ka, .int .i64 kc, .slice A' kb.length c'] 29)) := (Fr.refl _ _).alloc _
            have hws := Lib.hid (writes_snoc (m := 4) hsk)
            clear hsk
            obtain ⟨Q, hQ⟩ : ∃ Q, Q = writes 4 (ss.take k) := ⟨_, rfl⟩
            rw [← hQ] at hw hql
            have hlq : (Q.take kp).length ≤ k := by rw [List.length_take]; omega
            have HW := Lib.hid (hw.keep hW)
            have hwa := Lib.hid (write_any ka A' c' kb _ (hw.keep hW).two (hrd.fr hW (fun _ _ _ h => h)) (by omega))
            have hwt := Lib.hid (waits_any _ (hw.keep hW).two)
            have HQ := Lib.hid hQ
            have hwf := Lib.hid hw.fr.size
            clear hw hrd hQ
            go_wp2_with fail
            refine hwt.out.mono ?_
            rintro e w' ⟨rfl, rfl⟩
            by_cases hgt : Q.length < kp
            · have htk : Q.take kp = Q := List.take_of_length_le (by omega)
              have dgt : decide ((Q.take kp).length < kp) = true := decide_eq_true (by rw [htk]; exact hgt)
              go_wp2_with fail
              refine hwa.out.mono ?_
              rw [zeros_len]
              rcases writeF_cases 4 ka kb with ⟨y, hy, hF⟩ | ⟨p, hF⟩
              · rw [hF]
                rintro e w3 ⟨T3, rfl, dk3, fr3, gr3⟩
                have hT := HW.out.right dk3 fr3 gr3
                have HT := Lib.hid hT
                clear hT dk3 fr3 gr3
                go_wp2_with fail
                go_roundg (ss.length - (k + 1))
                case measure => omega
                case rel => exact ⟨k + 1, S, T3, by omega, rfl, by go_num, by rw [hws.out, ← HQ.out, hF]; simp only []; omega, by rw [hws.out, ← HQ.out, hF]; exact HT.out⟩
              · rw [hF]
                rintro e w3 ⟨T3, rfl, dk3, fr3, gr3⟩
                have hT := HW.out.right dk3 fr3 gr3
                rw [htk] at hT
                have HT := Lib.hid hT
                have hlt2 := Lib.hid (List.take_of_length_le (l := Q ++ [p]) (i := kp) (by simp; omega))
                clear hT dk3 fr3 gr3
                go_wp2_with fail
                go_roundg (ss.length - (k + 1))
                case measure => omega
                case rel => exact ⟨k + 1, S, T3, by omega, rfl, by go_num, by rw [hws.out, ← HQ.out, hF]; simp; omega, by rw [hws.out, ← HQ.out, hF]; simp only []; rw [hlt2.out]; exact HT.out⟩
            · have dgt : decide ((Q.take kp).length < kp) = false := decide_eq_false (by rw [List.length_take]; omega)
              have hsame : (writeF 4 Q ka kb).2.take kp = Q.take kp ∧ (writeF 4 Q ka kb).2.length ≤ k + 1 := by
                rcases writeF_cases 4 ka kb with ⟨y, hy, hF⟩ | ⟨p, hF⟩
                · rw [hF]; exact ⟨rfl, by simp only []; omega⟩
                · rw [hF]
                  refine ⟨List.take_append_of_le_length (by omega), by simp; omega⟩
              have HS := Lib.hid hsame
              clear hsame
              go_wp2_with fail
              go_roundg (ss.length - (k + 1))
              case measure => omega
              case rel => exact ⟨k + 1, S, T, by omega, rfl, by go_num, by rw [hws.out, ← HQ.out]; exact HS.out.2, by rw [hws.out, ← HQ.out, HS.out.1]; exact HW.out⟩
          · obtain rfl : k = ss.length := by omega
            rw [List.take_length] at hw hql
            have HK2 := HK.out
            have hqd : ∀ p ∈ writes 4 ss, p.1 < (zeros 4).length := fun p hp => (hw.one.q_ok p hp).1
            have hsy := Lib.hid (sync_any wr hw.two (by rw [List.length_take]; omega))
            have HW := Lib.hid hw
            clear hw HM
            go_wp2_with fail
            refine hsy.out.mono ?_
            rintro e w3 ⟨T3, rfl, dx3, fr3, gr3⟩
            have h3 := HW.out.right dx3 fr3 gr3
            have hcr := crash_any kp 0 w3 h3.one (by omega)
            have hcf : crashF (zeros 4) (writes 4 ss) kp 0 = (0, apply ((writes 4 ss).take kp) (zeros 4), []) := by
              unfold crashF
              rw [if_pos ⟨by omega, by omega, by omega, by omega⟩, Int.toNat_natCast]
              rw [show ((0 : Int).toNat) = 0 from rfl, las2F_zero _ _ _ hqd]
            rw [hcf] at hcr
            have H3 := Lib.hid h3
            have HCR := Lib.hid hcr
            clear hcr h3 dx3 fr3 gr3 hcf HW hsy
            obtain ⟨X, hX⟩ : ∃ X, X = apply ((writes 4 ss).take kp) (zeros 4) := ⟨_, rfl⟩
            rw [← hX] at H3 HCR
            have hXl : X.length = 4 := by rw [hX, apply_len, zeros_len]
            clear hX
            go_wp2_with fail
            refine HCR.out.mono ?_
            rintro e w4 ⟨S4, rfl, dk4, fr4, gr4⟩
            have h4 := H3.out.left dk4 fr4 gr4
            have HP : Hid (F3 w d x X 4 (.int .i64 (0 : Nat)) w4) := ⟨0, S4, T3, by omega, rfl, rfl, h4⟩
            clear h4 dk4 fr4 gr4 H3 HCR
            go_wp2_with fail
            go_loopg [14] 4 (fun g v14 wr => F3 w d x X g v14 wr)
            case atStart => exact HP.out
            case round =>
              obtain ⟨j, S, T, hj, rfl, rfl, hw⟩ := hrel
              by_cases hj4 : j < 4
              · obtain ⟨s, hs⟩ : ∃ s, X[j]? = some s := ⟨_, List.getElem?_eq_getElem (by omega)⟩
                have hr1 := Lib.hid (read_some j s wr hw.one hs)
                have HW := Lib.hid hw
                have HS := Lib.hid hs
                clear hw hs
                go_wp2_with fail
                refine hr1.out.mono ?_
                rintro e w5 ⟨y, hy, rfl, rdy, fr5⟩
                have hr2 := Lib.hid (read_some j s w5 (HW.out.keep fr5).two HS.out)
                go_wp2_with fail
                refine hr2.out.mono ?_
                rintro e w6 ⟨y', hy', rfl, rdy', fr6⟩
                have hsl : s.length = 256 := by
                  have := rdy.1
                  simpa [bv_len] using this
                have cx := run_conv_rd w6 27 9 5 Try.underlying27 Try.underlying5 Try.underlying9 s (by rw [hsl]; exact rdy.fr fr6 (fun _ _ _ h => h))
                have cy := run_conv_rd w6 27 9 5 Try.underlying27 Try.underlying5 Try.underlying9 s (by rw [hsl]; exact rdy')
                rw [hsl] at cx cy
                have HT := Lib.hid ((HW.out.keep fr5).keep fr6)
                clear rdy rdy' fr5 fr6 HW hr1 hr2
                go_wp2_with fail
                go_roundg (4 - (j + 1))
                case measure => omega
                case rel => exact ⟨j + 1, S, T, by omega, rfl, by go_num, HT.out⟩
              · obtain rfl : j = 4 := by omega
                go_wp2_with fail
                refine (speaks_any wr).mono ?_
                rintro e w9 ⟨rfl, fr9⟩
                go_wp2_with fail
                go_ret
                exact ⟨rfl, hw.fr.trans fr9⟩
      · obtain ⟨kp, hkpe⟩ : ∃ kp, kp = (writes 4 ss).length := ⟨_, rfl⟩
        have hkp : kp ≤ (writes 4 ss).length := by omega
        have HK := Lib.hid hkp
        have HQ := Lib.hid hql
        have HW := Lib.hid hw
        by_cases hneg : keep < 0
        · clear hkeep hkp hql hw HN
          rw [← hkpe]
          replace hkpe := Lib.hid hkpe
          go_wp2_with fail
          have HM : Hid (F2 ss w d x kp ss.length (.int .i64 (0 : Nat)) wr) := ⟨0, S, T, Nat.zero_le _, rfl, rfl, Nat.le_refl _, by rw [show (writes 4 (ss.take 0)).take kp = [] from by simp [writes]]; exact HW.out⟩
          clear HW
          go_loopg [67] ss.length (fun g v67 wr => F2 ss w d x kp g v67 wr)
          case atStart => exact HM.out
          case round =>
            obtain ⟨k, S, T, hk, rfl, rfl, hql, hw⟩ := hrel
            by_cases hlt : k < ss.length
            · obtain ⟨b, off, A', c', kd, ka, kc, kb, hsk, rfl, x0, x1, x2, x3, hrd⟩ := (h.fr hw.fr).step hlt
              have hW : Fr NoB wr (wr.alloc (.cells #[.int .i64 kd, .int .i64 ka, .int .i64 kc, .slice A' kb.length c'] 29)) := (Fr.refl _ _).alloc _
              have hws := Lib.hid (writes_snoc (m := 4) hsk)
              clear hsk
              obtain ⟨Q, hQ⟩ : ∃ Q, Q = writes 4 (ss.take k) := ⟨_, rfl⟩
              rw [← hQ] at hw hql
              have hlq : (Q.take kp).length ≤ k := by rw [List.length_take]; omega
              have HW := Lib.hid (hw.keep hW)
              have hwa := Lib.hid (write_any ka A' c' kb _ (hw.keep hW).two (hrd.fr hW (fun _ _ _ h => h)) (by omega))
              have hwt := Lib.hid (waits_any _ (hw.keep hW).two)
              have HQ := Lib.hid hQ
              have hwf := Lib.hid hw.fr.size
              clear hw hrd hQ
              go_wp2_with fail
              refine hwt.out.mono ?_
              rintro e w' ⟨rfl, rfl⟩
              by_cases hgt : Q.length < kp
              · have htk : Q.take kp = Q := List.take_of_length_le (by omega)
                have dgt : decide ((Q.take kp).length < kp) = true := decide_eq_true (by rw [htk]; exact hgt)
                go_wp2_with fail
                refine hwa.out.mono ?_
                rw [zeros_len]
                rcases writeF_cases 4 ka kb with ⟨y, hy, hF⟩ | ⟨p, hF⟩
                · rw [hF]
                  rintro e w3 ⟨T3, rfl, dk3, fr3, gr3⟩
                  have hT := HW.out.right dk3 fr3 gr3
                  have HT := Lib.hid hT
                  clear hT dk3 fr3 gr3
                  go_wp2_with fail
                  go_roundg (ss.length - (k + 1))
                  case measure => omega
                  case rel => exact ⟨k + 1, S, T3, by omega, rfl, by go_num, by rw [hws.out, ← HQ.out, hF]; simp only []; omega, by rw [hws.out, ← HQ.out, hF]; exact HT.out⟩
                · rw [hF]
                  rintro e w3 ⟨T3, rfl, dk3, fr3, gr3⟩
                  have hT := HW.out.right dk3 fr3 gr3
                  rw [htk] at hT
                  have HT := Lib.hid hT
                  have hlt2 := Lib.hid (List.take_of_length_le (l := Q ++ [p]) (i := kp) (by simp; omega))
                  clear hT dk3 fr3 gr3
                  go_wp2_with fail
                  go_roundg (ss.length - (k + 1))
                  case measure => omega
                  case rel => exact ⟨k + 1, S, T3, by omega, rfl, by go_num, by rw [hws.out, ← HQ.out, hF]; simp; omega, by rw [hws.out, ← HQ.out, hF]; simp only []; rw [hlt2.out]; exact HT.out⟩
              · have dgt : decide ((Q.take kp).length < kp) = false := decide_eq_false (by rw [List.length_take]; omega)
                have hsame : (writeF 4 Q ka kb).2.take kp = Q.take kp ∧ (writeF 4 Q ka kb).2.length ≤ k + 1 := by
                  rcases writeF_cases 4 ka kb with ⟨y, hy, hF⟩ | ⟨p, hF⟩
                  · rw [hF]; exact ⟨rfl, by simp only []; omega⟩
                  · rw [hF]
                    refine ⟨List.take_append_of_le_length (by omega), by simp; omega⟩
                have HS := Lib.hid hsame
                clear hsame
                go_wp2_with fail
                go_roundg (ss.length - (k + 1))
                case measure => omega
                case rel => exact ⟨k + 1, S, T, by omega, rfl, by go_num, by rw [hws.out, ← HQ.out]; exact HS.out.2, by rw [hws.out, ← HQ.out, HS.out.1]; exact HW.out⟩
            · obtain rfl : k = ss.length := by omega
              rw [List.take_length] at hw hql
              have HK2 := HK.out
              have hqd : ∀ p ∈ writes 4 ss, p.1 < (zeros 4).length := fun p hp => (hw.one.q_ok p hp).1
              have hsy := Lib.hid (sync_any wr hw.two (by rw [List.length_take]; omega))
              have HW := Lib.hid hw
              clear hw HM
              go_wp2_with fail
              refine hsy.out.mono ?_
              rintro e w3 ⟨T3, rfl, dx3, fr3, gr3⟩
              have h3 := HW.out.right dx3 fr3 gr3
              have hcr := crash_any kp 0 w3 h3.one (by omega)
              have hcf : crashF (zeros 4) (writes 4 ss) kp 0 = (0, apply ((writes 4 ss).take kp) (zeros 4), []) := by
                unfold crashF
                rw [if_pos ⟨by omega, by omega, by omega, by omega⟩, Int.toNat_natCast]
                rw [show ((0 : Int).toNat) = 0 from rfl, las2F_zero _ _ _ hqd]
              rw [hcf] at hcr
              have H3 := Lib.hid h3
              have HCR := Lib.hid hcr
              clear hcr h3 dx3 fr3 gr3 hcf HW hsy
              obtain ⟨X, hX⟩ : ∃ X, X = apply ((writes 4 ss).take kp) (zeros 4) := ⟨_, rfl⟩
              rw [← hX] at H3 HCR
              have hXl : X.length = 4 := by rw [hX, apply_len, zeros_len]
              clear hX
              go_wp2_with fail
              refine HCR.out.mono ?_
              rintro e w4 ⟨S4, rfl, dk4, fr4, gr4⟩
              have h4 := H3.out.left dk4 fr4 gr4
              have HP : Hid (F3 w d x X 4 (.int .i64 (0 : Nat)) w4) := ⟨0, S4, T3, by omega, rfl, rfl, h4⟩
              clear h4 dk4 fr4 gr4 H3 HCR
              go_wp2_with fail
              go_loopg [14] 4 (fun g v14 wr => F3 w d x X g v14 wr)
              case atStart => exact HP.out
              case round =>
                obtain ⟨j, S, T, hj, rfl, rfl, hw⟩ := hrel
                by_cases hj4 : j < 4
                · obtain ⟨s, hs⟩ : ∃ s, X[j]? = some s := ⟨_, List.getElem?_eq_getElem (by omega)⟩
                  have hr1 := Lib.hid (read_some j s wr hw.one hs)
                  have HW := Lib.hid hw
                  have HS := Lib.hid hs
                  clear hw hs
                  go_wp2_with fail
                  refine hr1.out.mono ?_
                  rintro e w5 ⟨y, hy, rfl, rdy, fr5⟩
                  have hr2 := Lib.hid (read_some j s w5 (HW.out.keep fr5).two HS.out)
                  go_wp2_with fail
                  refine hr2.out.mono ?_
                  rintro e w6 ⟨y', hy', rfl, rdy', fr6⟩
                  have hsl : s.length = 256 := by
                    have := rdy.1
                    simpa [bv_len] using this
                  have cx := run_conv_rd w6 27 9 5 Try.underlying27 Try.underlying5 Try.underlying9 s (by rw [hsl]; exact rdy.fr fr6 (fun _ _ _ h => h))
                  have cy := run_conv_rd w6 27 9 5 Try.underlying27 Try.underlying5 Try.underlying9 s (by rw [hsl]; exact rdy')
                  rw [hsl] at cx cy
                  have HT := Lib.hid ((HW.out.keep fr5).keep fr6)
                  clear rdy rdy' fr5 fr6 HW hr1 hr2
                  go_wp2_with fail
                  go_roundg (4 - (j + 1))
                  case measure => omega
                  case rel => exact ⟨j + 1, S, T, by omega, rfl, by go_num, HT.out⟩
                · obtain rfl : j = 4 := by omega
                  go_wp2_with fail
                  refine (speaks_any wr).mono ?_
                  rintro e w9 ⟨rfl, fr9⟩
                  go_wp2_with fail
                  go_ret
                  exact ⟨rfl, hw.fr.trans fr9⟩
        · have hpos : ((writes 4 ss).length : Int) < keep := by omega
          rw [← hkpe] at hpos ⊢
          clear hkeep hkp hql hw HN
          replace hkpe := Lib.hid hkpe
          go_wp2_with fail
          have HM : Hid (F2 ss w d x kp ss.length (.int .i64 (0 : Nat)) wr) := ⟨0, S, T, Nat.zero_le _, rfl, rfl, Nat.le_refl _, by rw [show (writes 4 (ss.take 0)).take kp = [] from by simp [writes]]; exact HW.out⟩
          clear HW
          go_loopg [67] ss.length (fun g v67 wr => F2 ss w d x kp g v67 wr)
          case atStart => exact HM.out
          case round =>
            obtain ⟨k, S, T, hk, rfl, rfl, hql, hw⟩ := hrel
            by_cases hlt : k < ss.length
            · obtain ⟨b, off, A', c', kd, ka, kc, kb, hsk, rfl, x0, x1, x2, x3, hrd⟩ := (h.fr hw.fr).step hlt
              have hW : Fr NoB wr (wr.alloc (.cells #[.int .i64 kd, .int .i64 ka, .int .i64 kc, .slice A' kb.length c'] 29)) := (Fr.refl _ _).alloc _
              have hws := Lib.hid (writes_snoc (m := 4) hsk)
              clear hsk
              obtain ⟨Q, hQ⟩ : ∃ Q, Q = writes 4 (ss.take k) := ⟨_, rfl⟩
              rw [← hQ] at hw hql
              have hlq : (Q.take kp).length ≤ k := by rw [List.length_take]; omega
              have HW := Lib.hid (hw.keep hW)
              have hwa := Lib.hid (write_any ka A' c' kb _ (hw.keep hW).two (hrd.fr hW (fun _ _ _ h => h)) (by omega))
              have hwt := Lib.hid (waits_any _ (hw.keep hW).two)
              have HQ := Lib.hid hQ
              have hwf := Lib.hid hw.fr.size
              clear hw hrd hQ
              go_wp2_with fail
              refine hwt.out.mono ?_
              rintro e w' ⟨rfl, rfl⟩
              by_cases hgt : Q.length < kp
              · have htk : Q.take kp = Q := List.take_of_length_le (by omega)
                have dgt : decide ((Q.take kp).length < kp) = true := decide_eq_true (by rw [htk]; exact hgt)
                go_wp2_with fail
                refine hwa.out.mono ?_
                rw [zeros_len]
                rcases writeF_cases 4 ka kb with ⟨y, hy, hF⟩ | ⟨p, hF⟩
                · rw [hF]
                  rintro e w3 ⟨T3, rfl, dk3, fr3, gr3⟩
                  have hT := HW.out.right dk3 fr3 gr3
                  have HT := Lib.hid hT
                  clear hT dk3 fr3 gr3
                  go_wp2_with fail
                  go_roundg (ss.length - (k + 1))
                  case measure => omega
                  case rel => exact ⟨k + 1, S, T3, by omega, rfl, by go_num, by rw [hws.out, ← HQ.out, hF]; simp only []; omega, by rw [hws.out, ← HQ.out, hF]; exact HT.out⟩
                · rw [hF]
                  rintro e w3 ⟨T3, rfl, dk3, fr3, gr3⟩
                  have hT := HW.out.right dk3 fr3 gr3
                  rw [htk] at hT
                  have HT := Lib.hid hT
                  have hlt2 := Lib.hid (List.take_of_length_le (l := Q ++ [p]) (i := kp) (by simp; omega))
                  clear hT dk3 fr3 gr3
                  go_wp2_with fail
                  go_roundg (ss.length - (k + 1))
                  case measure => omega
                  case rel => exact ⟨k + 1, S, T3, by omega, rfl, by go_num, by rw [hws.out, ← HQ.out, hF]; simp; omega, by rw [hws.out, ← HQ.out, hF]; simp only []; rw [hlt2.out]; exact HT.out⟩
              · have dgt : decide ((Q.take kp).length < kp) = false := decide_eq_false (by rw [List.length_take]; omega)
                have hsame : (writeF 4 Q ka kb).2.take kp = Q.take kp ∧ (writeF 4 Q ka kb).2.length ≤ k + 1 := by
                  rcases writeF_cases 4 ka kb with ⟨y, hy, hF⟩ | ⟨p, hF⟩
                  · rw [hF]; exact ⟨rfl, by simp only []; omega⟩
                  · rw [hF]
                    refine ⟨List.take_append_of_le_length (by omega), by simp; omega⟩
                have HS := Lib.hid hsame
                clear hsame
                go_wp2_with fail
                go_roundg (ss.length - (k + 1))
                case measure => omega
                case rel => exact ⟨k + 1, S, T, by omega, rfl, by go_num, by rw [hws.out, ← HQ.out]; exact HS.out.2, by rw [hws.out, ← HQ.out, HS.out.1]; exact HW.out⟩
            · obtain rfl : k = ss.length := by omega
              rw [List.take_length] at hw hql
              have HK2 := HK.out
              have hqd : ∀ p ∈ writes 4 ss, p.1 < (zeros 4).length := fun p hp => (hw.one.q_ok p hp).1
              have hsy := Lib.hid (sync_any wr hw.two (by rw [List.length_take]; omega))
              have HW := Lib.hid hw
              clear hw HM
              go_wp2_with fail
              refine hsy.out.mono ?_
              rintro e w3 ⟨T3, rfl, dx3, fr3, gr3⟩
              have h3 := HW.out.right dx3 fr3 gr3
              have hcr := crash_any kp 0 w3 h3.one (by omega)
              have hcf : crashF (zeros 4) (writes 4 ss) kp 0 = (0, apply ((writes 4 ss).take kp) (zeros 4), []) := by
                unfold crashF
                rw [if_pos ⟨by omega, by omega, by omega, by omega⟩, Int.toNat_natCast]
                rw [show ((0 : Int).toNat) = 0 from rfl, las2F_zero _ _ _ hqd]
              rw [hcf] at hcr
              have H3 := Lib.hid h3
              have HCR := Lib.hid hcr
              clear hcr h3 dx3 fr3 gr3 hcf HW hsy
              obtain ⟨X, hX⟩ : ∃ X, X = apply ((writes 4 ss).take kp) (zeros 4) := ⟨_, rfl⟩
              rw [← hX] at H3 HCR
              have hXl : X.length = 4 := by rw [hX, apply_len, zeros_len]
              clear hX
              go_wp2_with fail
              refine HCR.out.mono ?_
              rintro e w4 ⟨S4, rfl, dk4, fr4, gr4⟩
              have h4 := H3.out.left dk4 fr4 gr4
              have HP : Hid (F3 w d x X 4 (.int .i64 (0 : Nat)) w4) := ⟨0, S4, T3, by omega, rfl, rfl, h4⟩
              clear h4 dk4 fr4 gr4 H3 HCR
              go_wp2_with fail
              go_loopg [14] 4 (fun g v14 wr => F3 w d x X g v14 wr)
              case atStart => exact HP.out
              case round =>
                obtain ⟨j, S, T, hj, rfl, rfl, hw⟩ := hrel
                by_cases hj4 : j < 4
                · obtain ⟨s, hs⟩ : ∃ s, X[j]? = some s := ⟨_, List.getElem?_eq_getElem (by omega)⟩
                  have hr1 := Lib.hid (read_some j s wr hw.one hs)
                  have HW := Lib.hid hw
                  have HS := Lib.hid hs
                  clear hw hs
                  go_wp2_with fail
                  refine hr1.out.mono ?_
                  rintro e w5 ⟨y, hy, rfl, rdy, fr5⟩
                  have hr2 := Lib.hid (read_some j s w5 (HW.out.keep fr5).two HS.out)
                  go_wp2_with fail
                  refine hr2.out.mono ?_
                  rintro e w6 ⟨y', hy', rfl, rdy', fr6⟩
                  have hsl : s.length = 256 := by
                    have := rdy.1
                    simpa [bv_len] using this
                  have cx := run_conv_rd w6 27 9 5 Try.underlying27 Try.underlying5 Try.underlying9 s (by rw [hsl]; exact rdy.fr fr6 (fun _ _ _ h => h))
                  have cy := run_conv_rd w6 27 9 5 Try.underlying27 Try.underlying5 Try.underlying9 s (by rw [hsl]; exact rdy')
                  rw [hsl] at cx cy
                  have HT := Lib.hid ((HW.out.keep fr5).keep fr6)
                  clear rdy rdy' fr5 fr6 HW hr1 hr2
                  go_wp2_with fail
                  go_roundg (4 - (j + 1))
                  case measure => omega
                  case rel => exact ⟨j + 1, S, T, by omega, rfl, by go_num, HT.out⟩
                · obtain rfl : j = 4 := by omega
                  go_wp2_with fail
                  refine (speaks_any wr).mono ?_
                  rintro e w9 ⟨rfl, fr9⟩
                  go_wp2_with fail
                  go_ret
                  exact ⟨rfl, hw.fr.trans fr9⟩
end Go.Proofs.Ytghddmdehbacaaa
