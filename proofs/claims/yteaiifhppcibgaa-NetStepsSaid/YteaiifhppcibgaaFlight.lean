/- Messages in an array of their own; the contract of Flight. -/
import Derived.Test.YteaiifhppcibgaaSpeaks
import Derived.Deep.LoopGhost
namespace Go.Proofs.Yteaiifhppcibgaa
open Go.RowKit

/-- An array of messages, each with its bytes in a block of its own; S: all these blocks. -/
structure MsgsAt (w : World) (S : Nat → Prop) (A : Option Addr) (c : Nat) (L : List Msg) : Prop where
  ex : ∃ css, Arr w 36 3 A L.length c (List.flatten css) ∧ css.length = L.length ∧
    (∀ (k : Nat) (cs : List Value) (m : Msg), css[k]? = some cs → L[k]? = some m → MsgIs w cs m) ∧ (∀ k, InB A k → S k) ∧ (∀ cs ∈ css, ∀ k, CellsB cs k → S k) ∧
    css.Pairwise (fun x y => ∀ k, CellsB x k → ¬ CellsB y k)
  lt : ∀ k, S k → k < w.heap.size

theorem MsgsAt.nil (w : World) : MsgsAt w NoB none 0 [] :=
  ⟨⟨[], Arr.none_ _ _ _, rfl, by simp, fun k hk => (InB.none_ k hk).elim, by simp, by simp⟩, fun k hk => hk.elim⟩

theorem MsgsAt.fr {S T : Nat → Prop} {w w1 : World} {A : Option Addr} {c : Nat} {L : List Msg} (h : MsgsAt w S A c L) (hf : Fr T w w1) (hn : ∀ k, S k → ¬ T k) : MsgsAt w1 S A c L := by
  obtain ⟨⟨css, ha, hl, hm, hA, hc, hp⟩, hlt⟩ := h
  refine ⟨⟨css, ha.fr hf fun k hk => hn k (hA k hk), hl, fun k cs m h1 h2 => (hm k cs m h1 h2).fr hf fun j hj => hn j (hc cs (List.mem_of_getElem? h1) j hj), hA, hc, hp⟩, fun k hk => ?_⟩
  have := hlt k hk
  have := hf.size
  omega

theorem msgs_push {S : Nat → Prop} {L : List Msg} {w w1 w3 : World} {A : Option Addr} {c : Nat} {css : List (List Value)} (m : Msg)
    (harr : Arr w 36 3 A L.length c css.flatten) (hl : css.length = L.length)
    (hm : ∀ (k : Nat) (cs : List Value) (m : Msg), css[k]? = some cs → L[k]? = some m → MsgIs w cs m) (hA : ∀ k, InB A k → S k) (hc : ∀ cs ∈ css, ∀ k, CellsB cs k → S k)
    (hp : css.Pairwise (fun x y => ∀ k, CellsB x k → ¬ CellsB y k)) (hlt : ∀ k, S k → k < w.heap.size)
    (hf1 : Fr NoB w w1) {A1 : Option Addr} {c1 : Nat} (ha1 : Arr w1 5 1 A1 m.b.length c1 (bv m.b)) (hn1 : ∀ k, InB A1 k → w.heap.size ≤ k)
    {o : Obj} {A3 : Option Addr} {c3 : Nat} (ha3 : Arr w3 36 3 A3 (L.length + 1) c3 (css.flatten ++ [.int .i64 m.f, .int .i64 m.t, .slice A1 m.b.length c1])) (hf3 : Fr (InB A) (w1.alloc o) w3)
    (hn3 : ∀ k, InB A3 k → InB A k ∨ (w1.alloc o).heap.size ≤ k) :
    ∃ S', MsgsAt w3 S' A3 c3 (L ++ [m]) ∧ Fr S w w3 ∧ Gr S S' w := by
  have hs1 := hf1.size
  have hs2 : (w1.alloc o).heap.size = w1.heap.size + 1 := by simp
  have hs3 := hf3.size
  have noA : ∀ k t cur, Bk w k t cur → t ≠ 36 → ¬ InB A k := fun k t cur hb hne hk => by
    obtain ⟨cur', hb'⟩ := harr.bk hk
    exact hb.types hb' hne rfl
  have hf2 : Fr NoB w (w1.alloc o) := hf1.alloc o
  have hf03 : Fr (InB A) w w3 := (hf2.mono (fun _ _ h => h.elim)).trans hf3
  have ha1' : Arr w3 5 1 A1 m.b.length c1 (bv m.b) := by
    refine (ha1.fr (T := NoB) ((Fr.refl _ _).alloc o) (fun _ _ h => h)).fr hf3 fun k hk hkA => ?_
    have := hlt k (hA k hkA)
    have := hn1 k hk
    omega
  refine ⟨fun k => S k ∨ (w.heap.size ≤ k ∧ k < w3.heap.size), ⟨⟨css ++ [[.int .i64 m.f, .int .i64 m.t, .slice A1 m.b.length c1]], ?_, ?_, ?_, ?_, ?_, ?_⟩, ?_⟩, hf03.mono (fun k _ h => hA k h), ?_⟩
  · rw [List.flatten_append]
    simpa using ha3
  · simp [hl]
  · intro k cs m' h1 h2
    by_cases hk : k < L.length
    · rw [List.getElem?_append_left (by omega)] at h1 h2
      have hM := hm k cs m' h1 h2
      refine hM.fr hf03 fun j hj => ?_
      obtain ⟨cur, hb⟩ := hM.bk hj
      exact noA j 5 cur hb (by decide)
    · have hkk : k = L.length := by
        have := (List.getElem?_eq_some_iff.1 h2).1
        simp at this
        omega
      subst hkk
      rw [← hl] at h1
      simp at h1 h2
      subst h1; subst h2
      exact ⟨A1, c1, rfl, ha1'⟩
  · intro k hk
    rcases hn3 k hk with h | h
    · exact .inl (hA k h)
    · exact .inr ⟨by omega, ha3.lt k hk⟩
  · intro cs hcs k hk
    rcases List.mem_append.1 hcs with h | h
    · exact .inl (hc cs h k hk)
    · simp only [List.mem_singleton] at h
      subst h
      have hk := cellsB_iff.1 hk
      exact .inr ⟨hn1 k hk, ha1'.lt k hk⟩
  · rw [List.pairwise_append]
    refine ⟨hp, by simp, fun x hx y hy k hk hk' => ?_⟩
    simp only [List.mem_singleton] at hy
    subst hy
    have hk' := cellsB_iff.1 hk'
    have := hn1 k hk'
    have := hlt k (hc x hx k hk)
    omega
  · intro k hk
    rcases hk with h | h
    · have := hlt k h
      have := hf03.size
      omega
    · exact h.2
  · intro k hk
    rcases hk with h | h
    · exact .inl h
    · exact .inr h.1

/-- Flight's state behind j messages. -/
def FlW (w : World) (S : Nat → Prop) (n : Nat) (nodes : Int) (L : List Msg) (g : Nat) (v3 v13 : Value) (wr : World) : Prop :=
  ∃ (j : Nat) (A : Option Addr) (c : Nat) (S' : Nat → Prop), j ≤ L.length ∧ g = L.length - j ∧ v3 = .slice A j c ∧ v13 = .int .i64 j ∧ MsgsAt wr S' A c (L.take j) ∧ NetAt wr S n nodes L ∧ Fr NoB w wr ∧ Up w.heap.size S'

theorem flight_any {S : Nat → Prop} {n : Nat} {nodes : Int} {L : List Msg} (w : World) (h : NetAt w S n nodes L) (hL : ∀ m ∈ L, m.b.length ≤ 65535) :
    Calls Try.prog 14 #[.pointer (some ⟨n, 0, none⟩)] w fun e w' => ∃ A c S', e = .returned (.slice A L.length c) ∧ MsgsAt w' S' A c L ∧ Up w.heap.size S' ∧ Fr NoB w w' := by
  obtain ⟨i0, hi, hz0, hz1, hz2⟩ := info_parts info36
  have hfew := h.few
  have H := h
  obtain ⟨⟨A', c', css, hbk, harr, hcl, hcm, hcA, hcS, hcp⟩, hS, hlt, _⟩ := h
  have h3 := css_len hcl hcm
  have hc2 : w.cell? ⟨n, 1, none⟩ = some (.slice A' L.length c') := hbk.cell 1
  have HN : Hid (FlW w S n nodes L L.length (.slice none 0 0) (.int .i64 (0 : Nat)) w) :=
    ⟨0, none, 0, NoB, Nat.zero_le _, rfl, rfl, rfl, MsgsAt.nil w, H, Fr.refl _ _, fun k hk => hk.elim⟩
  clear hbk
  go_enter Try.func14, Try.ntmps14
  go_wp2_with fail
  go_loopg [3, 13] L.length (fun g v3 v13 wr => FlW w S n nodes L g v3 v13 wr)
  case atStart => exact HN
  case round =>
    obtain ⟨j, A, c, S', hj, rfl, rfl, rfl, hms, hnet, hfr, hup⟩ := hrel
    by_cases hlt' : j < L.length
    · obtain ⟨g, cur, rfl, hcur, hnc, hcm', hcs, htk⟩ : ∃ g cur, A' = some ⟨g, 0, none⟩ ∧ Bk w g 36 cur ∧ L.length ≤ c' ∧ c' ≤ maxLen ∧ c' * 3 ≤ cur.size ∧ cur.toList.take (L.length * 3) = css.flatten := by
        rcases harr.2 with ⟨_, h0, _⟩ | h0
        · omega
        · exact h0
      obtain ⟨Am, cm, e, harrm⟩ := hcm j css[j] L[j] (List.getElem?_eq_getElem (by omega)) (List.getElem?_eq_getElem hlt')
      have hcs' : css[j]? = some [.int .i64 L[j].f, .int .i64 L[j].t, .slice Am L[j].b.length cm] := by rw [List.getElem?_eq_getElem (by omega), e]
      have hLj := hL L[j] (List.getElem_mem hlt')
      have htk1 : L.take (j + 1) = L.take j ++ [L[j]] := List.take_succ_eq_append_getElem hlt'
      generalize hm : L[j] = m at *
      have hat : At w ⟨g, 0, none⟩ css.flatten := At.of_bk (o := 0) (n := L.length * 3) hcur (by simpa using htk)
      have hm0 : w.cell? ⟨g, j * 3, none⟩ = some (.int .i64 m.f) := by
        have := hat (j * 3 + 0) _ (flat_get h3 hcs' (by omega))
        rw [addr_lit] at this
        simpa using this
      have hm1 : w.cell? ⟨g, j * 3 + 1, none⟩ = some (.int .i64 m.t) := by
        have := hat (j * 3 + 1) _ (flat_get h3 hcs' (by omega))
        rw [addr_lit] at this
        simpa using this
      have hm2 : w.cell? ⟨g, j * 3 + 2, none⟩ = some (.slice Am m.b.length cm) := by
        have := hat (j * 3 + 2) _ (flat_get h3 hcs' (by omega))
        rw [addr_lit] at this
        simpa using this
      have r0 := hfr.cell_some hm0 (fun h => h)
      have r1 := hfr.cell_some hm1 (fun h => h)
      have r2 := hfr.cell_some hm2 (fun h => h)
      have harr' := harrm.fr hfr (fun _ _ h => h)
      obtain ⟨⟨css', ha, hl, hm', hA, hc, hp⟩, hltS⟩ := hms
      have hlj : (L.take j).length = j := by rw [List.length_take]; omega
      go_wp2_with fail
      refine (own_any _ m.f m.t Am m.b.length cm m.b _ (harr'.rd.alloc _) (by omega)).mono ?_
      rintro e w1 ⟨A1, c1, rfl, harr1, hin1, hfr1⟩
      have f0 : Fr NoB wr w1 := ((Fr.refl NoB wr).alloc _).trans hfr1
      have hin1' : ∀ k, InB A1 k → wr.heap.size ≤ k := fun k hk => by
        have := hin1 k hk
        have e : (wr.alloc (.cells #[.int .i64 m.f, .int .i64 m.t, .slice Am m.b.length cm] 36)).heap.size = wr.heap.size + 1 := by simp
        omega
      have q5 : ∀ o, Arr (w1.alloc o) 36 3 A (L.take j).length c css'.flatten := fun o => (ha.fr f0 (fun _ _ h => h)).fr (T := NoB) ((Fr.refl _ _).alloc o) (fun _ _ h => h)
      rw [hlj] at q5
      have hsrc : Rd (w1.alloc (.cells #[.int .i64 m.f, .int .i64 m.t, .slice A1 m.b.length c1] 36)) (fun _ => True) 3 (some ⟨w1.heap.size, 0, none⟩) 1 1 [.int .i64 m.f, .int .i64 m.t, .slice A1 m.b.length c1] :=
        (Arr.made (e := 36) (size := 3) w1 #[.int .i64 m.f, .int .i64 m.t, .slice A1 m.b.length c1] 1 1 (Nat.le_refl _) (by simp [maxLen]) (by simp)).rd.mono (fun _ _ => trivial)
      go_wp2_with (at_builtin; refine wpList_append_arr _ rfl (.tmp 17) (.tmp 20) 46 rfl 36 i0 _ 3 40 Try.underlying46 hi hz0 hz1 hz2 rfl A _ c _ rfl (q5 _) (fun _ => True) _ 1 1 _ rfl hsrc (by intro u hu; simp at hu; rcases hu with rfl | rfl | rfl <;> rfl) (by simp only [maxLen]; omega) (by omega) ?_; intro A3 c3 w3 harr3 hfr3 hin3 _)
      rw [← hlj] at harr3
      obtain ⟨S3, m1, m2, m3⟩ := msgs_push m ha hl hm' hA hc hp hltS f0 harr1 hin1' harr3 hfr3 hin3
      go_roundg (L.length - (j + 1))
      case measure => omega
      case rel =>
        have hnw := hnet.lt
        refine ⟨j + 1, A3, c3, S3, by omega, rfl, rfl, by go_num, by rw [htk1]; exact m1, hnet.fr m2 (fun k hk hs => ?_), hfr.up m2 hup, m3.up hup hfr.size⟩
        have := hup k hs
        have := hlt k hk
        omega
    · obtain rfl : j = L.length := by omega
      rw [List.take_length] at hms
      go_wp2_with fail
      go_ret
      exact ⟨A, c, S', rfl, hms, hup, hfr⟩
end Go.Proofs.Yteaiifhppcibgaa
