/- NetSteps: the walk. -/
import Derived.Test.YteaiifhppcibgaaFlightLaw
namespace Go.Proofs.Yteaiifhppcibgaa
open Go.RowKit

/-- The net and the document's net hold the same. -/
structure NS (w : World) (n p : Nat) (nodes : Int) (S T : Nat → Prop) (L : List Msg) (wr : World) : Prop where
  net : NetAt wr S n nodes L
  ref : RefAt wr T p nodes L
  dis : ∀ k, S k → ¬ T k
  ups : Up w.heap.size S
  upt : Up w.heap.size T
  fr : Fr NoB w wr
  lb : ∀ m ∈ L, m.b.length ≤ 65535

def NSs (ss : List StepS) (w : World) (n p : Nat) (nodes : Int) (g : Nat) (v42 : Value) (wr : World) : Prop :=
  ∃ (k : Nat) (S T : Nat → Prop) (L : List Msg), k ≤ ss.length ∧ k ≤ 300 ∧ g = ss.length - k ∧ v42 = .int .i64 k ∧ NS w n p nodes S T L wr

theorem NS.keep {w wr W : World} {n p : Nat} {nodes : Int} {S T : Nat → Prop} {L : List Msg} (h : NS w n p nodes S T L wr) (hf : Fr NoB wr W) : NS w n p nodes S T L W :=
  ⟨h.net.fr hf (fun _ _ h => h), h.ref.fr hf (fun _ _ h => h), h.dis, h.ups, h.upt, h.fr.trans hf, h.lb⟩

/-- Behind the net's turn and the document's. -/
theorem NS.turn {w W w2 w3 : World} {n p : Nat} {nodes : Int} {S T S2 T2 : Nat → Prop} {L L2 : List Msg} (h : NS w n p nodes S T L W)
    (hn : NetAt w2 S2 n nodes L2) (hf : Fr S W w2) (hg : Gr S S2 W) {W2 : World} (hk : Fr NoB w2 W2) (hr : RefAt w3 T2 p nodes L2) (hf2 : Fr T W2 w3) (hg2 : Gr T T2 W2) (hb : ∀ m ∈ L2, m.b.length ≤ 65535) : NS w n p nodes S2 T2 L2 w3 := by
  have z0 := h.fr.size
  have z1 := hf.size
  have z2 := hk.size
  have lt := h.ref.lt
  have s2T : ∀ k, S2 k → ¬ T k := fun k hs ht => by
    rcases hg k hs with h' | h'
    · exact h.dis k h' ht
    · have := lt k ht; omega
  have lt2 := hn.lt
  refine ⟨(hn.fr hk (fun _ _ h => h)).fr hf2 s2T, hr, fun k hs ht => ?_, hg.up h.ups (by omega), hg2.up h.upt (by omega), ((h.fr.up hf h.ups).trans hk).up hf2 h.upt, hb⟩
  rcases hg2 k ht with h' | h'
  · exact s2T k hs h'
  · have := lt2 k hs; omega

/-- The document's turn first. -/
theorem NS.turn' {w W w2 w3 : World} {n p : Nat} {nodes : Int} {S T S2 T2 : Nat → Prop} {L L2 : List Msg} (h : NS w n p nodes S T L W)
    (hr : RefAt w2 T2 p nodes L2) (hf : Fr T W w2) (hg : Gr T T2 W) {W2 : World} (hk : Fr NoB w2 W2) (hn : NetAt w3 S2 n nodes L2) (hf2 : Fr S W2 w3) (hg2 : Gr S S2 W2) (hb : ∀ m ∈ L2, m.b.length ≤ 65535) : NS w n p nodes S2 T2 L2 w3 := by
  have z0 := h.fr.size
  have z1 := hf.size
  have z2 := hk.size
  have lt := h.net.lt
  have t2S : ∀ k, T2 k → ¬ S k := fun k ht hs => by
    rcases hg k ht with h' | h'
    · exact h.dis k hs h'
    · have := lt k hs; omega
  have lt2 := hr.lt
  refine ⟨hn, (hr.fr hk (fun _ _ h => h)).fr hf2 t2S, fun k hs ht => ?_, hg2.up h.ups (by omega), hg.up h.upt (by omega), ((h.fr.up hf h.upt).trans hk).up hf2 h.ups, hb⟩
  rcases hg2 k hs with h' | h'
  · exact t2S k ht h'
  · have := lt2 k ht; omega

theorem lb_send {L : List Msg} {nodes f t : Int} {b : List UInt8} (h : ∀ m ∈ L, m.b.length ≤ 65535) : ∀ m ∈ (sendF nodes L f t b).2, m.b.length ≤ 65535 := by
  intro m hm
  unfold sendF at hm
  split at hm
  · split at hm
    · exact h m hm
    · split at hm
      · exact h m hm
      · rcases List.mem_append.1 hm with h' | h'
        · exact h m h'
        · simp at h'
          subst h'
          simpa using by omega
  · exact h m hm
theorem lb_copy {L : List Msg} {i : Int} (h : ∀ m ∈ L, m.b.length ≤ 65535) : ∀ m ∈ (copyF L i).2, m.b.length ≤ 65535 := by
  intro m hm
  unfold copyF at hm
  split at hm
  · split at hm
    · exact h m hm
    · rcases List.mem_append.1 hm with h' | h'
      · exact h m h'
      · exact h m (List.mem_of_getElem? (Option.mem_toList.1 h'))
  · exact h m hm
theorem lb_pick {L : List Msg} {k : Nat} (h : ∀ m ∈ L, m.b.length ≤ 65535) : ∀ m ∈ L.eraseIdx k, m.b.length ≤ 65535 := fun m hm => h m ((List.eraseIdx_sublist ..).subset hm)

set_option maxHeartbeats 8000000 in
set_option maxRecDepth 100000 in
theorem steps_any (nodes : Int) (A : Option Addr) (c : Nat) (ss : List StepS) (w : World) (h : StepsIn w w.heap.size A c ss) :
    Calls Try.prog 6 #[.int .i64 nodes, .slice A ss.length c] w (LawPost w) := by
  go_enter Try.func6, Try.ntmps6
  go_wp2_with fail
  refine (new_any nodes _).mono ?_
  rintro e w1 (⟨hn1, hn7, n, S, hn, rfl, hnet, hS, hfr⟩ | ⟨hno, rfl, hfr⟩)
  rotate_left
  · go_wp2_with fail
    refine (refNew_any nodes _).mono ?_
    rintro e w2 (⟨hn1, hn7, _⟩ | ⟨_, rfl, hfr2⟩)
    · omega
    go_wp2_with fail
    refine (speaks_any _).mono ?_
    rintro e w3 ⟨rfl, hfr3⟩
    go_wp2_with fail
    go_ret
    exact ⟨rfl, (hfr.trans hfr2).trans hfr3⟩
  go_wp2_with fail
  refine (refNew_any nodes _).mono ?_
  rintro e w2 (⟨_, _, p, T, hp, rfl, href, hT, hfr2⟩ | ⟨hno, _⟩)
  rotate_left
  · omega
  go_wp2_with fail
  have HN : Hid (NSs ss w n p nodes ss.length (.int .i64 (0 : Nat)) w2) :=
    ⟨0, S, T, [], Nat.zero_le _, by omega, rfl, rfl, hnet.fr hfr2 (fun _ _ h => h), href, fun k hs ht => by have := hnet.lt k hs; have := hT k ht; omega, hS, fun k hk => by have := hT k hk; have := hfr.size; omega, hfr.trans hfr2, by simp⟩
  clear hnet href hS hT hfr hfr2 hn1 hn7 hn hp
  go_loopg [42] ss.length (fun g v42 wr => NSs ss w n p nodes g v42 wr)
  case atStart => exact HN
  case round =>
    obtain ⟨k, S, T, L, hk, hk3, rfl, rfl, hw⟩ := hrel
    by_cases hlt : k < ss.length
    · obtain ⟨b, off, A', c', kd, ka, kc, kb, _, rfl, x0, x1, x2, x3, hrd⟩ := (h.fr hw.fr).step hlt
      have hW : Fr NoB wr (wr.alloc (.cells #[.int .i64 kd, .int .i64 ka, .int .i64 kc, .slice A' kb.length c'] 31)) := (Fr.refl _ _).alloc _
      have hBW : Bk (wr.alloc (.cells #[.int .i64 kd, .int .i64 ka, .int .i64 kc, .slice A' kb.length c'] 31)) wr.heap.size 31 #[.int .i64 kd, .int .i64 ka, .int .i64 kc, .slice A' kb.length c'] := Bk.new _ _ _
      have hnS : ¬ S wr.heap.size := fun h => by have := hw.net.lt _ h; omega
      have hnT : ¬ T wr.heap.size := fun h => by have := hw.ref.lt _ h; omega
      have HW := Lib.hid (hw.keep hW)
      have hrdW := Lib.hid (hrd.fr hW (fun _ _ _ h => h))
      have HB := Lib.hid hBW
      clear hBW hrd hw
      by_cases h3 : k < 300
      · by_cases hk2 : kd = 2
        · subst hk2
          by_cases hin : 0 ≤ ka ∧ ka < L.length
          · obtain ⟨q, rfl⟩ := Int.eq_ofNat_of_zero_le hin.1
            have hq : q < L.length := by omega
            obtain ⟨m, hm⟩ : ∃ m, L[q]? = some m := ⟨_, List.getElem?_eq_getElem hq⟩
            obtain ⟨mf, mt, mb⟩ := m
            have HM := Lib.hid hm
            have HP := Lib.hid (pick_some q _ _ HW.out.net hm)
            clear hm
            go_wp2_with fail
            refine HP.out.mono ?_
            clear HP
            rintro e w2 ⟨S2, A9, c9, rfl, arr9, in9, hnet2, hfr2, hgr2⟩
            have b2 := HB.out.fr hfr2 hnS
            have y1 : w2.cell? ⟨wr.heap.size, 1, none⟩ = some (.int .i64 q) := b2.cell 1
            have wl := b2.lt
            have fA : Fr NoB w2 (w2.alloc (.cells #[.int .i64 mf, .int .i64 mt, .slice A9 mb.length c9] 36)) := (Fr.refl _ _).alloc _
            have ref2 := (HW.out.ref.fr hfr2 (fun k ht hs => HW.out.dis k hs ht)).fr fA (fun _ _ h => h)
            have HR := Lib.hid (refPick_some q mf mt mb _ ref2 HM.out)
            have arr9' := arr9.fr fA (fun _ _ h => h)
            have bx := Bk.new w2 36 #[.int .i64 mf, .int .i64 mt, .slice A9 mb.length c9]
            have nbx : ¬ T w2.heap.size := fun h => by have := HW.out.ref.lt _ h; have := hfr2.size; omega
            have n9 : ∀ k, InB A9 k → ¬ T k := fun k hk => HW.out.dis k (in9 k hk).1
            replace bx := Lib.hid bx
            go_wp2_with fail
            refine HR.out.mono ?_
            clear HR
            rintro e w3 ⟨T3, rfl, href3, hfr3, hgr3⟩
            have b3 := bx.out.fr hfr3 nbx
            have p0 : w3.cell? ⟨w2.heap.size, 0, none⟩ = some (.int .i64 mf) := b3.cell 0
            have p1 : w3.cell? ⟨w2.heap.size, 1, none⟩ = some (.int .i64 mt) := b3.cell 1
            have p2 : w3.cell? ⟨w2.heap.size, 2, none⟩ = some (.slice A9 mb.length c9) := b3.cell 2
            have pl := b3.lt
            have hcv : ∀ o, (convert 29 9 (.slice A9 mb.length c9)).run Try.prog (w3.alloc o) = .ok (.string ⟨mb.toArray⟩) (w3.alloc o) := fun o =>
              run_conv_rd (w3.alloc o) 29 9 5 Try.underlying29 Try.underlying5 Try.underlying9 mb ((arr9'.fr hfr3 n9).rd.alloc o)
            have hN : NS w n p nodes S2 T3 (L.eraseIdx q) w3 := NS.turn HW.out hnet2 hfr2 hgr2 fA href3 hfr3 hgr3 (lb_pick HW.out.lb)
            clear hnet2 hfr2 hgr2 fA href3 hfr3 hgr3 arr9 arr9' in9 n9 nbx b2 b3 ref2
            have HN2 := Lib.hid (fun o => hN.keep ((Fr.refl NoB w3).alloc o))
            clear hN
            go_wp2_with fail
            refine (flightLaw_any _ (HN2.out _).net (HN2.out _).ref (HN2.out (.cells #[] 0)).lb).mono ?_
            rintro e w4 ⟨rfl, hfr4⟩
            go_wp2_with fail
            go_roundg (ss.length - (k + 1))
            case measure => omega
            case rel => exact ⟨k + 1, _, _, _, by omega, by omega, rfl, by go_num, (HN2.out _).keep hfr4⟩
          · have HP := Lib.hid (pick_none ka _ HW.out.net hin)
            go_wp2_with fail
            refine HP.out.mono ?_
            clear HP
            rintro e w2 ⟨rfl, _, hfr2⟩
            have b2 := HB.out.fr hfr2 (fun h => h)
            have y1 : w2.cell? ⟨wr.heap.size, 1, none⟩ = some (.int .i64 ka) := b2.cell 1
            have wl := b2.lt
            have fA : Fr NoB w2 (w2.alloc (.cells #[.int .i64 0, .int .i64 0, .slice none 0 0] 36)) := (Fr.refl _ _).alloc _
            have ref2 := (HW.out.ref.fr hfr2 (fun _ _ h => h)).fr fA (fun _ _ h => h)
            have HR := Lib.hid (refPick_none ka _ ref2 hin)
            have bx := Bk.new w2 36 #[.int .i64 0, .int .i64 0, .slice none 0 0]
            replace bx := Lib.hid bx
            go_wp2_with fail
            refine HR.out.mono ?_
            clear HR
            rintro e w3 ⟨rfl, hfr3⟩
            have b3 := bx.out.fr hfr3 (fun h => h)
            have p0 : w3.cell? ⟨w2.heap.size, 0, none⟩ = some (.int .i64 0) := b3.cell 0
            have p1 : w3.cell? ⟨w2.heap.size, 1, none⟩ = some (.int .i64 0) := b3.cell 1
            have p2 : w3.cell? ⟨w2.heap.size, 2, none⟩ = some (.slice none 0 0) := b3.cell 2
            have pl := b3.lt
            have hcv : ∀ o, (convert 29 9 (.slice none 0 0)).run Try.prog (w3.alloc o) = .ok (.string ⟨#[]⟩) (w3.alloc o) := fun o =>
              run_conv_rd (w3.alloc o) 29 9 5 Try.underlying29 Try.underlying5 Try.underlying9 [] (Rd.none_ _ NoB _)
            have hN : NS w n p nodes S T L w3 := HW.out.keep ((hfr2.trans fA).trans hfr3)
            clear hfr2 fA hfr3 b2 b3 ref2
            have HN2 := Lib.hid (fun o => hN.keep ((Fr.refl NoB w3).alloc o))
            clear hN
            go_wp2_with fail
            refine (flightLaw_any _ (HN2.out _).net (HN2.out _).ref (HN2.out (.cells #[] 0)).lb).mono ?_
            rintro e w4 ⟨rfl, hfr4⟩
            go_wp2_with fail
            go_roundg (ss.length - (k + 1))
            case measure => omega
            case rel => exact ⟨k + 1, _, _, _, by omega, by omega, rfl, by go_num, (HN2.out _).keep hfr4⟩
        · have k2 : (kd == 2) = false := by simp [hk2]
          by_cases hk3' : kd = 3
          · subst hk3'
            by_cases hin : 0 ≤ ka ∧ ka < L.length
            · obtain ⟨q, rfl⟩ := Int.eq_ofNat_of_zero_le hin.1
              have hq : q < L.length := by omega
              obtain ⟨m, hm⟩ : ∃ m, L[q]? = some m := ⟨_, List.getElem?_eq_getElem hq⟩
              obtain ⟨mf, mt, mb⟩ := m
              have HM := Lib.hid hm
              have HR := Lib.hid (refPick_some q mf mt mb _ HW.out.ref hm)
              clear hm
              go_wp2_with fail
              refine HR.out.mono ?_
              clear HR
              rintro e w2 ⟨T2, rfl, href2, hfr2, hgr2⟩
              have b2 := HB.out.fr hfr2 hnT
              have y1 : w2.cell? ⟨wr.heap.size, 1, none⟩ = some (.int .i64 q) := b2.cell 1
              have wl := b2.lt
              have fA : Fr NoB w2 (w2.alloc (.cells #[.int .i64 mf, .int .i64 mt, .string ⟨mb.toArray⟩] 34)) := (Fr.refl _ _).alloc _
              have net2 := (HW.out.net.fr hfr2 HW.out.dis).fr fA (fun _ _ h => h)
              have HD := Lib.hid (drop_some q _ _ net2 HM.out)
              go_wp2_with fail
              refine HD.out.mono ?_
              clear HD
              rintro e w3 ⟨S3, rfl, hnet3, hfr3, hgr3⟩
              have HN2 := Lib.hid (NS.turn' HW.out href2 hfr2 hgr2 fA hnet3 hfr3 hgr3 (lb_pick HW.out.lb))
              clear href2 hfr2 hgr2 fA hnet3 hfr3 hgr3 net2 b2
              go_wp2_with fail
              refine (flightLaw_any _ (HN2.out).net (HN2.out).ref (HN2.out).lb).mono ?_
              rintro e w4 ⟨rfl, hfr4⟩
              go_wp2_with fail
              go_roundg (ss.length - (k + 1))
              case measure => omega
              case rel => exact ⟨k + 1, _, _, _, by omega, by omega, rfl, by go_num, (HN2.out).keep hfr4⟩
            · have HR := Lib.hid (refPick_none ka _ HW.out.ref hin)
              go_wp2_with fail
              refine HR.out.mono ?_
              clear HR
              rintro e w2 ⟨rfl, hfr2⟩
              have b2 := HB.out.fr hfr2 (fun h => h)
              have y1 : w2.cell? ⟨wr.heap.size, 1, none⟩ = some (.int .i64 ka) := b2.cell 1
              have wl := b2.lt
              have fA : Fr NoB w2 (w2.alloc (.cells #[.int .i64 0, .int .i64 0, .string ⟨#[]⟩] 34)) := (Fr.refl _ _).alloc _
              have net2 := (HW.out.net.fr hfr2 (fun _ _ h => h)).fr fA (fun _ _ h => h)
              have HD := Lib.hid (drop_none ka _ net2 hin)
              go_wp2_with fail
              refine HD.out.mono ?_
              clear HD
              rintro e w3 ⟨S3, rfl, hnet3, hfr3, hgr3⟩
              have hr2 := HW.out.ref.fr hfr2 (fun _ _ h => h)
              have HN2 := Lib.hid (NS.turn' HW.out hr2 (hfr2.mono (fun _ _ h => h.elim)) (fun _ h => .inl h) fA hnet3 hfr3 hgr3 HW.out.lb)
              clear hfr2 fA hnet3 hfr3 hgr3 net2 b2 hr2
              go_wp2_with fail
              refine (flightLaw_any _ (HN2.out).net (HN2.out).ref (HN2.out).lb).mono ?_
              rintro e w4 ⟨rfl, hfr4⟩
              go_wp2_with fail
              go_roundg (ss.length - (k + 1))
              case measure => omega
              case rel => exact ⟨k + 1, _, _, _, by omega, by omega, rfl, by go_num, (HN2.out).keep hfr4⟩
          · have k3 : (kd == 3) = false := by simp [hk3']
            by_cases hk4 : kd = 4
            · subst hk4
              go_wp2_with fail
              have d1 : (wr.alloc (.cells #[.int .i64 4, .int .i64 ka, .int .i64 kc, .slice A' kb.length c'] 31)).cell? ⟨wr.heap.size, 1, none⟩ = some (.int .i64 ka) := HB.out.cell 1
              refine wp_region_plan 9 (fun w' => w'.cell? ⟨wr.heap.size, 1, none⟩ = some (.int .i64 ka))
                [(0, 0), (1, 0), (2, 1), (4, 0), (5, 0), (6, 1), (3, 2), (7, 2), (8, 0)] (by kernel_rfl) (by kernel_rfl) (fun _ _ _ _ _ h => h) d1 ?_
              refine wpPlan_free _ ?_ rfl (by rfl) (fun w' => ?_) ?_
              rotate_left
              · go_simp; with_reducible rfl
              simp only [Act.put, List.setIfInBounds_toArray, List.set_cons_zero, List.set_cons_succ]
              refine wpPlan_free _ ?_ rfl (by rfl) (fun w' => ?_) ?_
              rotate_left
              · go_simp; with_reducible rfl
              simp only [Act.put, List.setIfInBounds_toArray, List.set_cons_zero, List.set_cons_succ]
              refine wpPlan_held _ ?_ rfl (by rfl) (fun w' hS => ?_) ?_
              rotate_left
              · have e0 := hS; go_simp; with_reducible rfl
              simp only [Act.put, List.setIfInBounds_toArray, List.set_cons_zero, List.set_cons_succ]
              refine wpPlan_free _ ?_ rfl (by rfl) (fun w' => ?_) ?_
              rotate_left
              · go_simp; with_reducible rfl
              simp only [Act.put, List.setIfInBounds_toArray, List.set_cons_zero, List.set_cons_succ]
              refine wpPlan_free _ ?_ rfl (by rfl) (fun w' => ?_) ?_
              rotate_left
              · go_simp; with_reducible rfl
              simp only [Act.put, List.setIfInBounds_toArray, List.set_cons_zero, List.set_cons_succ]
              refine wpPlan_held _ ?_ rfl (by rfl) (fun w' hS => ?_) ?_
              rotate_left
              · have e0 := hS; go_simp; with_reducible rfl
              simp only [Act.put, List.setIfInBounds_toArray, List.set_cons_zero, List.set_cons_succ]
              refine wpPlan_do _ rfl (fun K hK => ?_)
              go_simp
              refine (copy_any ka _ (HW.out.net.fr ((Fr.refl NoB _).drew) (fun _ _ h => h)) HW.out.lb).mono ?_
              rintro e w2 ⟨S2, rfl, hnet2, hfr2, hgr2⟩
              have b2 := HB.out.drew.fr hfr2 hnS
              have y1 : w2.cell? ⟨wr.heap.size, 1, none⟩ = some (.int .i64 ka) := b2.cell 1
              refine hK _ _ (fun _ => y1) ?_
              clear hK K
              have ref2 := (HW.out.ref.fr ((Fr.refl NoB _).drew) (fun _ _ h => h)).fr hfr2 (fun k ht hs => HW.out.dis k hs ht)
              refine wpPlan_do _ rfl (fun K hK => ?_)
              go_simp
              refine (refCopy_any ka _ ref2).mono ?_
              rintro e w3 ⟨T3, rfl, href3, hfr3, hgr3⟩
              have y2 : w3.cell? ⟨wr.heap.size, 1, none⟩ = some (.int .i64 ka) := hfr3.cell_some y1 hnT
              refine hK _ _ (fun _ => y2) ?_
              clear hK K
              refine wpPlan_free _ ?_ rfl (by rfl) (fun w' => ?_) ?_
              rotate_left
              · go_simp; with_reducible rfl
              simp only [Act.put, List.setIfInBounds_toArray, List.set_cons_zero, List.set_cons_succ]
              refine wpPlan_nil ?_
              have HN2 := Lib.hid (NS.turn (HW.out.keep ((Fr.refl NoB _).drew)) hnet2 hfr2 hgr2 (Fr.refl _ _) href3 hfr3 hgr3 (lb_copy HW.out.lb))
              clear hnet2 hfr2 hgr2 href3 hfr3 hgr3 ref2 b2 y1 y2
              generalize copyF L ka = r at *
              go_wp2_with fail
              refine (flightLaw_any _ (HN2.out).net (HN2.out).ref (HN2.out).lb).mono ?_
              rintro e w4 ⟨rfl, hfr4⟩
              go_wp2_with fail
              go_roundg (ss.length - (k + 1))
              case measure => omega
              case rel => exact ⟨k + 1, _, _, _, by omega, by omega, rfl, by go_num, (HN2.out).keep hfr4⟩
            · have k4 : (kd == 4) = false := by simp [hk4]
              go_wp2_with fail
              have d1 : (wr.alloc (.cells #[.int .i64 kd, .int .i64 ka, .int .i64 kc, .slice A' kb.length c'] 31)).cell? ⟨wr.heap.size, 1, none⟩ = some (.int .i64 ka) := HB.out.cell 1
              have d2 : (wr.alloc (.cells #[.int .i64 kd, .int .i64 ka, .int .i64 kc, .slice A' kb.length c'] 31)).cell? ⟨wr.heap.size, 2, none⟩ = some (.int .i64 kc) := HB.out.cell 2
              have d3 : (wr.alloc (.cells #[.int .i64 kd, .int .i64 ka, .int .i64 kc, .slice A' kb.length c'] 31)).cell? ⟨wr.heap.size, 3, none⟩ = some (.slice A' kb.length c') := HB.out.cell 3
              refine wp_region_plan 17 (fun w' => w'.cell? ⟨wr.heap.size, 1, none⟩ = some (.int .i64 ka) ∧ w'.cell? ⟨wr.heap.size, 2, none⟩ = some (.int .i64 kc) ∧ w'.cell? ⟨wr.heap.size, 3, none⟩ = some (.slice A' kb.length c'))
                [(0, 0), (1, 0), (2, 1), (3, 0), (4, 1), (5, 0), (6, 1), (8, 0), (9, 0), (10, 1), (11, 0), (12, 1), (13, 0), (14, 1), (7, 2), (15, 2), (16, 0)] (by kernel_rfl) (by kernel_rfl) (fun _ _ _ _ _ h => h) ⟨d1, d2, d3⟩ ?_
              refine wpPlan_free _ ?_ rfl (by rfl) (fun w' => ?_) ?_
              rotate_left
              · go_simp; with_reducible rfl
              simp only [Act.put, List.setIfInBounds_toArray, List.set_cons_zero, List.set_cons_succ]
              refine wpPlan_free _ ?_ rfl (by rfl) (fun w' => ?_) ?_
              rotate_left
              · go_simp; with_reducible rfl
              simp only [Act.put, List.setIfInBounds_toArray, List.set_cons_zero, List.set_cons_succ]
              refine wpPlan_held _ ?_ rfl (by rfl) (fun w' hS => ?_) ?_
              rotate_left
              · obtain ⟨e0, e1, e2⟩ := hS; go_simp; with_reducible rfl
              simp only [Act.put, List.setIfInBounds_toArray, List.set_cons_zero, List.set_cons_succ]
              refine wpPlan_free _ ?_ rfl (by rfl) (fun w' => ?_) ?_
              rotate_left
              · go_simp; with_reducible rfl
              simp only [Act.put, List.setIfInBounds_toArray, List.set_cons_zero, List.set_cons_succ]
              refine wpPlan_held _ ?_ rfl (by rfl) (fun w' hS => ?_) ?_
              rotate_left
              · obtain ⟨e0, e1, e2⟩ := hS; go_simp; with_reducible rfl
              simp only [Act.put, List.setIfInBounds_toArray, List.set_cons_zero, List.set_cons_succ]
              refine wpPlan_free _ ?_ rfl (by rfl) (fun w' => ?_) ?_
              rotate_left
              · go_simp; with_reducible rfl
              simp only [Act.put, List.setIfInBounds_toArray, List.set_cons_zero, List.set_cons_succ]
              refine wpPlan_held _ ?_ rfl (by rfl) (fun w' hS => ?_) ?_
              rotate_left
              · obtain ⟨e0, e1, e2⟩ := hS; go_simp; with_reducible rfl
              simp only [Act.put, List.setIfInBounds_toArray, List.set_cons_zero, List.set_cons_succ]
              refine wpPlan_free _ ?_ rfl (by rfl) (fun w' => ?_) ?_
              rotate_left
              · go_simp; with_reducible rfl
              simp only [Act.put, List.setIfInBounds_toArray, List.set_cons_zero, List.set_cons_succ]
              refine wpPlan_free _ ?_ rfl (by rfl) (fun w' => ?_) ?_
              rotate_left
              · go_simp; with_reducible rfl
              simp only [Act.put, List.setIfInBounds_toArray, List.set_cons_zero, List.set_cons_succ]
              refine wpPlan_held _ ?_ rfl (by rfl) (fun w' hS => ?_) ?_
              rotate_left
              · obtain ⟨e0, e1, e2⟩ := hS; go_simp; with_reducible rfl
              simp only [Act.put, List.setIfInBounds_toArray, List.set_cons_zero, List.set_cons_succ]
              refine wpPlan_free _ ?_ rfl (by rfl) (fun w' => ?_) ?_
              rotate_left
              · go_simp; with_reducible rfl
              simp only [Act.put, List.setIfInBounds_toArray, List.set_cons_zero, List.set_cons_succ]
              refine wpPlan_held _ ?_ rfl (by rfl) (fun w' hS => ?_) ?_
              rotate_left
              · obtain ⟨e0, e1, e2⟩ := hS; go_simp; with_reducible rfl
              simp only [Act.put, List.setIfInBounds_toArray, List.set_cons_zero, List.set_cons_succ]
              refine wpPlan_free _ ?_ rfl (by rfl) (fun w' => ?_) ?_
              rotate_left
              · go_simp; with_reducible rfl
              simp only [Act.put, List.setIfInBounds_toArray, List.set_cons_zero, List.set_cons_succ]
              refine wpPlan_held _ ?_ rfl (by rfl) (fun w' hS => ?_) ?_
              rotate_left
              · obtain ⟨e0, e1, e2⟩ := hS; go_simp; with_reducible rfl
              simp only [Act.put, List.setIfInBounds_toArray, List.set_cons_zero, List.set_cons_succ]
              refine wpPlan_do _ rfl (fun K hK => ?_)
              go_simp
              refine (send_any ka kc A' c' kb _ (HW.out.net.fr ((Fr.refl NoB _).drew) (fun _ _ h => h)) hrdW.out.drew).mono ?_
              rintro e w2 ⟨S2, rfl, hnet2, hfr2, hgr2⟩
              have b2 := HB.out.drew.fr hfr2 hnS
              have y1 : w2.cell? ⟨wr.heap.size, 1, none⟩ = some (.int .i64 ka) := b2.cell 1
              have y2 : w2.cell? ⟨wr.heap.size, 2, none⟩ = some (.int .i64 kc) := b2.cell 2
              have y3 : w2.cell? ⟨wr.heap.size, 3, none⟩ = some (.slice A' kb.length c') := b2.cell 3
              refine hK _ _ (fun _ => ⟨y1, y2, y3⟩) ?_
              clear hK K
              have ref2 := (HW.out.ref.fr ((Fr.refl NoB _).drew) (fun _ _ h => h)).fr hfr2 (fun k ht hs => HW.out.dis k hs ht)
              have rd2 := hrdW.out.drew.fr hfr2 (fun k _ hk hs => by have := HW.out.ups k hs; omega)
              refine wpPlan_do _ rfl (fun K hK => ?_)
              go_simp
              refine (refSend_any ka kc A' c' kb _ ref2 rd2 (fun k hk ht => by have := HW.out.upt k ht; omega)).mono ?_
              rintro e w3 ⟨T3, rfl, href3, hfr3, hgr3⟩
              refine hK _ _ (fun _ => ⟨hfr3.cell_some y1 hnT, hfr3.cell_some y2 hnT, hfr3.cell_some y3 hnT⟩) ?_
              clear hK K
              refine wpPlan_free _ ?_ rfl (by rfl) (fun w' => ?_) ?_
              rotate_left
              · go_simp; with_reducible rfl
              simp only [Act.put, List.setIfInBounds_toArray, List.set_cons_zero, List.set_cons_succ]
              refine wpPlan_nil ?_
              have HN2 := Lib.hid (NS.turn (HW.out.keep ((Fr.refl NoB _).drew)) hnet2 hfr2 hgr2 (Fr.refl _ _) href3 hfr3 hgr3 (lb_send HW.out.lb))
              clear hnet2 hfr2 hgr2 href3 hfr3 hgr3 ref2 b2 y1 y2 y3 rd2
              generalize sendF nodes L ka kc kb = r at *
              go_wp2_with fail
              refine (flightLaw_any _ (HN2.out).net (HN2.out).ref (HN2.out).lb).mono ?_
              rintro e w4 ⟨rfl, hfr4⟩
              go_wp2_with fail
              go_roundg (ss.length - (k + 1))
              case measure => omega
              case rel => exact ⟨k + 1, _, _, _, by omega, by omega, rfl, by go_num, (HN2.out).keep hfr4⟩
      · obtain rfl : k = 300 := by omega
        have hd3 : decide ((300 : Int) ≤ 300) = true := rfl
        go_wp2_with fail
        refine (speaks_any _).mono ?_
        rintro e w3 ⟨rfl, hfr3⟩
        go_wp2_with fail
        go_ret
        exact ⟨rfl, HW.out.fr.trans hfr3⟩
    · obtain rfl : k = ss.length := by omega
      go_wp2_with fail
      refine (speaks_any _).mono ?_
      rintro e w3 ⟨rfl, hfr3⟩
      go_wp2_with fail
      go_ret
      exact ⟨rfl, hw.fr.trans hfr3⟩
end Go.Proofs.Yteaiifhppcibgaa
