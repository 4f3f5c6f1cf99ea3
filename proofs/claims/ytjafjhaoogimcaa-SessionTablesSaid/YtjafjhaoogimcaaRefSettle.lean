/- The document's table: Settle, Leave. -/
import Derived.Test.YtjafjhaoogimcaaRefWait
namespace Go.Proofs.Ytjafjhaoogimcaa
open Go.RowKit

/-- A new list of ints. -/
structure IL (w : World) (A : Option Addr) (c : Nat) (xs : List Int) (wr : World) : Prop where
  arr : Arr wr 3 1 A xs.length c (ints xs)
  new : ∀ k, InB A k → w.heap.size ≤ k
theorem IL.arg {w W : World} {A : Option Addr} {c : Nat} {xs : List Int} (h : IL w A c xs W) (a : Int) (s : Nat) (hs : W.heap.size = s) :
    Arr (W.alloc (.cells #[.int .i64 a] 3)) 3 1 A xs.length c (ints xs) ∧ Rd (W.alloc (.cells #[.int .i64 a] 3)) (fun k => k = s) 1 (some ⟨s, 0, none⟩) 1 1 [.int .i64 a] := by
  subst hs
  exact ⟨h.arr.fr ((Fr.refl NoB _).alloc _) (fun _ _ h => h), rd_one (Bk.new W 3 #[.int .i64 a])⟩
theorem IL.put {w W w2 : World} {A A' : Option Addr} {c c' : Nat} {xs : List Int} {a : Int} {o : Obj} (h : IL w A c xs W) (hw : Fr NoB w W) (ha : Arr w2 3 1 A' (xs.length + 1) c' (ints xs ++ [.int .i64 a])) (hf : Fr (InB A) (W.alloc o) w2) (hin : ∀ k, InB A' k → InB A k ∨ (W.alloc o).heap.size ≤ k) :
    IL w A' c' (xs ++ [a]) w2 ∧ Fr NoB w w2 := by
  have hz := hw.size
  refine ⟨⟨?_, fun k hk => ?_⟩, (hw.alloc o).join hf (fun j hj hb => by have := h.new j hb; omega)⟩
  · rw [List.length_append]
    simpa [ints] using ha
  · rcases hin k hk with h' | h'
    · exact h.new k h'
    · simp at h'
      omega
theorem IL.keep {w W w2 : World} {A : Option Addr} {c : Nat} {xs : List Int} {S : Nat → Prop} (h : IL w A c xs W) (hf : Fr S W w2) (hn : ∀ k, InB A k → ¬ S k) : IL w A c xs w2 := ⟨h.arr.fr hf hn, h.new⟩

structure SL (w : World) (A : Option Addr) (c : Nat) (xs : List Int) (B : Option Addr) (d : Nat) (rs : List (Int × Int)) (wr : World) : Prop where
  out : IL w A c xs wr
  rst : WL w B d rs wr
theorem SL.keep {w W w2 : World} {A B : Option Addr} {c d : Nat} {xs : List Int} {rs : List (Int × Int)} (h : SL w A c xs B d rs W) (hf : Fr NoB W w2) : SL w A c xs B d rs w2 := ⟨h.out.keep hf (fun _ _ h => h), h.rst.keep hf⟩
theorem SL.one {w W w2 : World} {A A' B : Option Addr} {c c' d : Nat} {xs : List Int} {rs : List (Int × Int)} {a : Int} {o : Obj} (h : SL w A c xs B d rs W) (ha : Arr w2 3 1 A' (xs.length + 1) c' (ints xs ++ [.int .i64 a])) (hf : Fr (InB A) (W.alloc o) w2) (hin : ∀ k, InB A' k → InB A k ∨ (W.alloc o).heap.size ≤ k) :
    SL w A' c' (xs ++ [a]) B d rs w2 := by
  obtain ⟨h1, h2⟩ := h.out.put h.rst.fr ha hf hin
  exact ⟨h1, ⟨(h.rst.arr.fr ((Fr.refl NoB _).alloc o) (fun _ _ h => h)).fr hf (fun k hk ha => h.out.arr.apart h.rst.arr (by decide) ha hk), h.rst.new, h2⟩⟩
theorem SL.two {w W w2 : World} {A B B' : Option Addr} {c d d' : Nat} {xs : List Int} {rs : List (Int × Int)} {a b : Int} {o : Obj} (h : SL w A c xs B d rs W) (ha : Arr w2 62 2 B' (rs.length + 1) d' (wcells rs ++ [.int .i64 a, .int .i64 b])) (hf : Fr (InB B) (W.alloc o) w2) (hin : ∀ k, InB B' k → InB B k ∨ (W.alloc o).heap.size ≤ k) :
    SL w A c xs B' d' (rs ++ [(a, b)]) w2 :=
  ⟨(h.out.keep ((Fr.refl NoB _).alloc o) (fun _ _ h => h)).keep hf (fun k hk hb => h.out.arr.apart h.rst.arr (by decide) hk hb), h.rst.put ha hf hin⟩

def SS (w : World) (q : List (Int × Int)) (commit : Int) (n : Nat) (v5 v6 v14 : Value) (wr : World) : Prop :=
  ∃ (j : Nat) (A : Option Addr) (c : Nat) (B : Option Addr) (d : Nat) (xs : List Int) (rs : List (Int × Int)), j ≤ q.length ∧ n = q.length - j ∧ v5 = .slice A xs.length c ∧ v6 = .slice B rs.length d ∧ v14 = .int .i64 j ∧ SL w A c xs B d rs wr ∧
    xs = upF (q.take j) commit ∧ rs = dnF (q.take j) commit

theorem upF_app (a b : List (Int × Int)) (commit : Int) : upF (a ++ b) commit = upF a commit ++ upF b commit := by simp [upF]
theorem dnF_app (a b : List (Int × Int)) (commit : Int) : dnF (a ++ b) commit = dnF a commit ++ dnF b commit := by simp [dnF]

def RefSettlePost (T : Nat → Prop) (p : Nat) (out : List Int) (q : List (Int × Int)) (dn : List Int) (w : World) (e : Ending) (w' : World) : Prop :=
  ∃ A c T', e = .returned (.slice A out.length c) ∧ Arr w' 3 1 A out.length c (ints out) ∧ RTab w' T' p q dn ∧ Fr T w w' ∧ Gr T T' w

/-- The new lists are laid down. -/
theorem refSettle_done {T : Nat → Prop} {p : Nat} {q : List (Int × Int)} {dn : List Int} {w W : World} {A B : Option Addr} {c d : Nat} {xs : List Int} {rs : List (Int × Int)} (h : RTab w T p q dn) (hw : SL w A c xs B d rs W) :
    ∃ D e0, Bk (W.setCell ⟨p, 0, none⟩ (.slice B rs.length d)) p 38 #[.slice B rs.length d, .slice D dn.length e0] ∧ Arr (W.setCell ⟨p, 0, none⟩ (.slice B rs.length d)) 3 1 D dn.length e0 (ints dn) ∧ (∀ k, InB D k → T k ∧ ¬ InB A k ∧ ¬ k = p) ∧
      Rd (W.setCell ⟨p, 0, none⟩ (.slice B rs.length d)) (InB A) 1 A xs.length c (ints xs) ∧ Fr T w (W.setCell ⟨p, 0, none⟩ (.slice B rs.length d)) ∧ Arr (W.setCell ⟨p, 0, none⟩ (.slice B rs.length d)) 62 2 B rs.length d (wcells rs) ∧ Arr (W.setCell ⟨p, 0, none⟩ (.slice B rs.length d)) 3 1 A xs.length c (ints xs) := by
  obtain ⟨⟨A0, c0, D, e0, hb, ha, hd, h1, h2⟩, ho, hlt⟩ := h
  have f2 : Fr (fun j => j = p) W (W.setCell ⟨p, 0, none⟩ (.slice B rs.length d)) := Fr.setCell (S := fun j => j = p) (p := ⟨p, 0, none⟩) (Fr.refl _ W) (.inl rfl) _
  have hpl := hb.lt
  have hz := hw.rst.fr.size
  have npD : ∀ k, InB D k → ¬ k = p := fun k hk e => by
    subst e
    obtain ⟨cur, hc⟩ := hd.blk hk
    exact hb.types hc (by decide) rfl
  have b2 := (hb.fr hw.rst.fr (fun h => h)).set 0 (.slice B rs.length d)
  have nA : ∀ k, InB A k → ¬ k = p := fun k hk e => by have := hw.out.new k hk; omega
  have nB : ∀ k, InB B k → ¬ k = p := fun k hk e => by have := hw.rst.new k hk; omega
  exact ⟨D, e0, b2, (hd.fr hw.rst.fr (fun _ _ h => h)).fr f2 npD, fun k hk => ⟨h2 k hk, fun ha => by have := hw.out.new k ha; have := hlt k (h2 k hk); omega, npD k hk⟩,
    (hw.out.arr.fr f2 nA).rd, (hw.rst.fr.mono (fun _ _ h => h.elim)).trans (f2.mono (fun j _ e => by subst e; exact ho)), hw.rst.arr.fr f2 nB, hw.out.arr.fr f2 nA⟩

set_option maxHeartbeats 4000000 in
theorem refSettle_any {T : Nat → Prop} {p : Nat} {q : List (Int × Int)} {dn : List Int} (commit : Int) (w : World) (h : RTab w T p q dn) (hfew : q.length ≤ 1024) (hN : dn.length ≤ 1000000) :
    Calls Try.prog 16 #[.pointer (some ⟨p, 0, none⟩), .int .i64 commit] w (RefSettlePost T p (upF q commit) (dnF q commit) (dn ++ upF q commit) w) := by
  obtain ⟨i0, hi0, hz0, hz1, hz2⟩ := info_parts info62
  obtain ⟨k0, hk0, kz0, kz1, kz2⟩ := info_parts info3
  have H := Lib.hid h
  obtain ⟨⟨A0, c0, D0, e0, hb, ha, hd, h1, h2⟩, ho, hlt⟩ := h
  have y0 : w.cell? ⟨p, 0, none⟩ = some (.slice A0 q.length c0) := hb.cell 0
  have HA := Lib.hid ha
  have HB0 := Lib.hid hb
  have hpl := hb.lt
  clear hb ha hd h1 h2
  go_enter Try.func16, Try.ntmps16
  go_wp2_with fail
  go_loopg [5, 6, 14] q.length (fun n v5 v6 v14 wr => SS w q commit n v5 v6 v14 wr)
  case atStart => exact ⟨0, none, 0, none, 0, [], [], Nat.zero_le _, rfl, rfl, rfl, rfl, ⟨⟨Arr.none_ _ _ _, fun k hk => (InB.none_ k hk).elim⟩, ⟨Arr.none_ _ _ _, fun k hk => (InB.none_ k hk).elim, Fr.refl _ _⟩⟩, rfl, rfl⟩
  case round =>
    obtain ⟨j, A, c, B, d, xs, rs, hj, rfl, rfl, rfl, rfl, hSL, hxs, hrs⟩ := hrel
    have hxl : xs.length ≤ 1024 := by
      have := upF_le (q.take j) commit
      rw [List.length_take] at this
      rw [hxs]; omega
    have hrl : rs.length ≤ 1024 := by
      rw [hrs]
      have := List.length_filter_le (fun p : Int × Int => !decide (p.2 ≤ commit)) (q.take j)
      rw [List.length_take] at this
      unfold dnF
      omega
    by_cases hjl : j < q.length
    · obtain ⟨b, off, hA, hbl, y1, y2⟩ := wcell_at (HA.out.fr hSL.rst.fr (fun _ _ h => h)).rd hjl
      have htk := List.take_succ_eq_append_getElem hjl
      obtain ⟨⟨ya, yb⟩, hy⟩ : ∃ y, y = q[j] := ⟨_, rfl⟩
      rw [← hy] at y1 y2 htk
      simp only [] at y1 y2
      have HX : Hid (upF (q.take (j + 1)) commit = xs ++ upF [(ya, yb)] commit) := Lib.hid (by rw [htk, upF_app, hxs])
      have HR : Hid (dnF (q.take (j + 1)) commit = rs ++ dnF [(ya, yb)] commit) := Lib.hid (by rw [htk, dnF_app, hrs])
      have HBX := Lib.hid (Bk.new wr 62 #[.int .i64 ya, .int .i64 yb])
      have HSL := Lib.hid (hSL.keep ((Fr.refl NoB _).alloc (.cells #[.int .i64 ya, .int .i64 yb] 62)))
      clear hSL htk hy hxs hrs
      subst hA
      by_cases hv : yb ≤ commit
      · have HG := Lib.hid (HSL.out.out.arg ya (wr.heap.size + 1) (by simp))
        have HX2 : Hid (upF (q.take (j + 1)) commit = xs ++ [ya]) := Lib.hid (by rw [HX.out, upF_yes hv]; rfl)
        have HR2 : Hid (dnF (q.take (j + 1)) commit = rs) := Lib.hid (by rw [HR.out]; simp [dnF, hv])
        clear HX HR
        go_wp2_with (at_builtin; refine wpList_append_arr _ rfl _ _ 25 rfl 3 k0 _ 1 8 Try.underlying25 hk0 kz0 kz1 kz2 rfl A xs.length c (ints xs) rfl HG.out.1 _ (some ⟨_, 0, none⟩) 1 1 [.int .i64 ya] rfl HG.out.2 (by intro u hu; simp at hu; subst hu; rfl) (by simp only [maxLen]; omega) (by omega) ?_; intro A2 c2 w2 ha2 hf2 hin2 _)
        have HP := Lib.hid (HSL.out.one ha2 hf2 hin2)
        clear ha2 hf2 hin2
        go_wp2_with fail
        go_roundg (q.length - (j + 1))
        case measure => omega
        case rel => exact ⟨j + 1, A2, c2, B, d, xs ++ [ya], rs, by omega, rfl, by rw [List.length_append]; rfl, rfl, by go_num, HP.out, HX2.out.symm, HR2.out.symm⟩
      · have HG := Lib.hid (HSL.out.rst.arg ya yb (wr.heap.size + 1) (by simp))
        have HX2 : Hid (upF (q.take (j + 1)) commit = xs) := Lib.hid (by rw [HX.out, upF_no hv]; simp [upF])
        have HR2 : Hid (dnF (q.take (j + 1)) commit = rs ++ [(ya, yb)]) := Lib.hid (by rw [HR.out]; simp [dnF, hv])
        clear HX HR
        go_wp2_with (at_builtin; refine wpList_append_arr _ rfl _ _ 36 rfl 62 i0 _ 2 16 Try.underlying36 hi0 hz0 hz1 hz2 rfl B rs.length d (wcells rs) rfl HG.out.1 _ (some ⟨_, 0, none⟩) 1 1 [.int .i64 ya, .int .i64 yb] rfl HG.out.2 (by intro u hu; simp at hu; rcases hu with rfl | rfl <;> rfl) (by simp only [maxLen]; omega) (by omega) ?_; intro A2 c2 w2 ha2 hf2 hin2 _)
        have HP := Lib.hid (HSL.out.two ha2 hf2 hin2)
        clear ha2 hf2 hin2
        go_wp2_with fail
        go_roundg (q.length - (j + 1))
        case measure => omega
        case rel => exact ⟨j + 1, A, c, A2, c2, xs, rs ++ [(ya, yb)], by omega, rfl, rfl, by rw [List.length_append]; rfl, by go_num, HP.out, HX2.out.symm, HR2.out.symm⟩
    · obtain rfl : j = q.length := by omega
      rw [List.take_length] at hxs hrs
      have f0 : wr.frozen? ⟨p, 0, none⟩ = false := (HB0.out.fr hSL.rst.fr (fun h => h)).frozen 0
      have f1 : wr.cell? ⟨p, 0, none⟩ = some (.slice A0 q.length c0) := (HB0.out.fr hSL.rst.fr (fun h => h)).cell 0
      obtain ⟨D, e1, g1, g2, g3, g4, g5, g6, g7⟩ := refSettle_done H.out hSL
      have G1 := Lib.hid g1
      have G2 := Lib.hid g2
      have G3 := Lib.hid g3
      have G4 := Lib.hid g4
      have G5 := Lib.hid g5
      have G6 := Lib.hid g6
      have G7 := Lib.hid g7
      have HW0 : w.heap.size ≤ (wr.setCell ⟨p, 0, none⟩ (.slice B rs.length d)).heap.size := g5.size
      have HBN : Hid (∀ k, InB B k → w.heap.size ≤ k) := Lib.hid hSL.rst.new
      have z1 : (wr.setCell ⟨p, 0, none⟩ (.slice B rs.length d)).cell? ⟨p, 1, none⟩ = some (.slice D dn.length e1) := g1.cell 1
      have HX := Lib.hid hxs
      have HR := Lib.hid hrs
      clear g1 g2 g3 g4 g5 g6 g7 hSL hxs hrs
      go_wp2_with (at_builtin; refine wpList_append_arr _ rfl _ _ 25 rfl 3 k0 _ 1 8 Try.underlying25 hk0 kz0 kz1 kz2 rfl D dn.length e1 (ints dn) rfl G2.out _ A xs.length c (ints xs) rfl G4.out (ints_one xs) (by simp only [maxLen]; omega) (by omega) ?_; intro A2 c2 w2 ha2 hf2 hin2 _; have b2 := G1.out.fr hf2 (fun hk => (G3.out _ hk).2.2 rfl); have u0 := b2.frozen 1; have u1 := b2.cell 1; have HB2 := Lib.hid b2; have HA2 := Lib.hid ha2; have HF2 := Lib.hid hf2; have HI2 := Lib.hid hin2; clear b2 ha2 hf2 hin2)
      go_ret
      have f2 : Fr (fun j => j = p) w2 (w2.setCell ⟨p, 1, none⟩ (.slice A2 (dn.length + xs.length) c2)) := Fr.setCell (S := fun j => j = p) (p := ⟨p, 1, none⟩) (Fr.refl _ w2) (.inl rfl) _
      have bk2 := HB2.out.set 1 (.slice A2 (dn.length + xs.length) c2)
      have n1 : ∀ k, InB A k → ¬ InB D k := fun k hk hd => (G3.out k hd).2.1 hk
      have n2 : ∀ k, InB A2 k → ¬ k = p := fun k hk e => by
        rcases HI2.out k hk with h' | h'
        · exact (G3.out k h').2.2 e
        · omega
      have n3 : ∀ k, InB B k → ¬ InB D k := fun k hk hd => by
        have := HBN.out k hk
        have := hlt k (G3.out k hd).1
        omega
      have n4 : ∀ k, InB A k → ¬ k = p := fun k hk e => by
        subst e
        obtain ⟨cur, hc⟩ := G7.out.blk hk
        exact G1.out.types hc (by decide) rfl
      have hz2 := HF2.out.size
      rw [← HX.out, ← HR.out]
      refine ⟨A, c, fun k => T k ∨ w.heap.size ≤ k ∧ k < w2.heap.size, rfl, (G7.out.fr HF2.out n1).fr f2 n4, ⟨⟨B, d, A2, c2, ?_, (G6.out.fr HF2.out n3).fr f2 (fun k hk e => by have := HBN.out k hk; omega), ?_, fun k hk => .inr ⟨HBN.out k hk, ?_⟩, fun k hk => ?_⟩, .inl ho, fun k hk => ?_⟩, ?_, fun k hk => hk.imp id (fun h => h.1)⟩
      · rw [List.length_append]
        exact bk2
      · have := HA2.out.fr f2 n2
        rw [List.length_append]
        simpa [ints] using this
      · have := (G6.out.fr HF2.out n3).lt k hk
        exact this
      · rcases HI2.out k hk with h' | h'
        · exact .inl (G3.out k h').1
        · have := HA2.out.lt k hk
          exact .inr ⟨by omega, this⟩
      · rcases hk with hk | hk
        · have := hlt k hk; simp; omega
        · simpa using hk.2
      · exact (G5.out.trans (HF2.out.mono (fun k _ hk => (G3.out k hk).1))).trans (f2.mono (fun j _ e => by subst e; exact ho))
end Go.Proofs.Ytjafjhaoogimcaa
