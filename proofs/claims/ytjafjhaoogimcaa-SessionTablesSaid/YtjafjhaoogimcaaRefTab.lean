/- The document's table: State, Wait. -/
import Derived.Test.YtjafjhaoogimcaaOnce
namespace Go.Proofs.Ytjafjhaoogimcaa
open Go.RowKit

theorem info62 : (Try.prog.info? 62).map (fun i => (i.zero, i.size, i.bytes)) = some (some (.agg #[.int .i64 0, .int .i64 0]), 2, 16) := by kernel_rfl
def wcell (p : Int × Int) : List Value := [.int .i64 p.1, .int .i64 p.2]
def wcells (q : List (Int × Int)) : List Value := (q.map wcell).flatten
theorem wcell_len (q : List (Int × Int)) : ∀ cs ∈ q.map wcell, cs.length = 2 := by
  intro cs hcs
  obtain ⟨m, _, rfl⟩ := List.mem_map.1 hcs
  rfl
theorem wcells_len (q : List (Int × Int)) : (wcells q).length = q.length * 2 := by
  unfold wcells
  rw [flat_len (wcell_len q), List.length_map]
theorem wcells_snoc (q : List (Int × Int)) (x : Int × Int) : wcells q ++ wcell x = wcells (q ++ [x]) := by simp [wcells]
theorem wcell_at {w : World} {S : Nat → Prop} {A : Option Addr} {c : Nat} {q : List (Int × Int)} (h : Rd w S 2 A q.length c (wcells q)) {j : Nat} (hj : j < q.length) :
    ∃ b off, A = some ⟨b, off, none⟩ ∧ b < w.heap.size ∧ w.cell? ⟨b, off + j * 2, none⟩ = some (.int .i64 q[j].1) ∧ w.cell? ⟨b, off + j * 2 + 1, none⟩ = some (.int .i64 q[j].2) := by
  obtain ⟨b, off, rfl, _, hb, hat⟩ := h.spot (by omega) (by omega)
  have cell : ∀ i u, (wcell q[j])[i]? = some u → i < 2 → w.cell? ⟨b, off + (j * 2 + i), none⟩ = some u := by
    intro i u hu hi
    have := hat (j * 2 + i) u (by
      unfold wcells
      rw [flat_get (cs := wcell q[j]) (wcell_len q) (by simp [hj]) hi]
      exact hu)
    rwa [addr_lit] at this
  exact ⟨b, off, rfl, hb, cell 0 _ rfl (by omega), cell 1 _ rfl (by omega)⟩
theorem Arr.blk {w : World} {e : TypeId} {size n c : Nat} {A : Option Addr} {xs : List Value} (h : Arr w e size A n c xs) {k : Nat} (hk : InB A k) : ∃ cur, Bk w k e cur := by
  rcases h.2 with ⟨rfl, _⟩ | ⟨g, cur, rfl, hb, _⟩
  · exact (InB.none_ k hk).elim
  · rw [InB.some_] at hk
    simp only [] at hk
    subst hk
    exact ⟨cur, hb⟩
theorem Arr.apart {w : World} {e e' : TypeId} {size size' n n' c c' : Nat} {A B : Option Addr} {xs ys : List Value} (h : Arr w e size A n c xs) (h' : Arr w e' size' B n' c' ys) (hne : e ≠ e') {k : Nat} (hk : InB A k) : ¬ InB B k := fun hb => by
  obtain ⟨c1, h1⟩ := h.blk hk
  obtain ⟨c2, h2⟩ := h'.blk hb
  exact h1.types h2 hne rfl
theorem rd_two {w : World} {g : Nat} {T : TypeId} {u v : Value} (h : Bk w g T #[u, v]) : Rd w (fun k => k = g) 2 (some ⟨g, 0, none⟩) 1 1 [u, v] :=
  ⟨rfl, Nat.le_refl _, by simp [maxLen], (fun h => by cases h), fun a ha _ => by cases ha; exact ⟨rfl, h.lt, At.of_bk (o := 0) (n := 2) h rfl⟩⟩

structure RTab (w : World) (T : Nat → Prop) (p : Nat) (q : List (Int × Int)) (dn : List Int) : Prop where
  ex : ∃ A c B d, Bk w p 38 #[.slice A q.length c, .slice B dn.length d] ∧ Arr w 62 2 A q.length c (wcells q) ∧ Arr w 3 1 B dn.length d (ints dn) ∧ (∀ k, InB A k → T k) ∧ (∀ k, InB B k → T k)
  own : T p
  lt : ∀ k, T k → k < w.heap.size
theorem RTab.fr {T S : Nat → Prop} {w w1 : World} {p : Nat} {q : List (Int × Int)} {dn : List Int} (h : RTab w T p q dn) (hf : Fr S w w1) (hn : ∀ k, T k → ¬ S k) : RTab w1 T p q dn := by
  obtain ⟨⟨A, c, B, d, hb, ha, hd, h1, h2⟩, ho, hlt⟩ := h
  refine ⟨⟨A, c, B, d, hb.fr hf (hn p ho), ha.fr hf (fun k hk => hn k (h1 k hk)), hd.fr hf (fun k hk => hn k (h2 k hk)), h1, h2⟩, ho, fun k hk => ?_⟩
  have := hlt k hk
  have := hf.size
  omega

theorem refState_any {T : Nat → Prop} {p : Nat} {q : List (Int × Int)} {dn : List Int} (x : Int) (w : World) (h : RTab w T p q dn) :
    Calls Try.prog 18 #[.pointer (some ⟨p, 0, none⟩), .int .i64 x] w fun e w' => e = .returned (.int .i64 (stateF q dn x)) ∧ Fr NoB w w' := by
  obtain ⟨⟨A, c, B, d, hb, ha, hd, h1, h2⟩, ho, hlt⟩ := h
  have c0 : w.cell? ⟨p, 0, none⟩ = some (.slice A q.length c) := hb.cell 0
  have c1 : w.cell? ⟨p, 1, none⟩ = some (.slice B dn.length d) := hb.cell 1
  have hdl : dn.length ≤ 9223372036854775807 := by have := hd.rd.2.1; have := hd.rd.2.2.1; simp only [maxLen] at this; omega
  have hql : q.length ≤ 9223372036854775807 := by have := ha.rd.2.1; have := ha.rd.2.2.1; simp only [maxLen] at this; omega
  clear hb
  go_enter Try.func18, Try.ntmps18
  go_wp2_with fail
  go_loopg [14] dn.length (fun g v14 wr => ∃ j : Nat, j ≤ dn.length ∧ g = dn.length - j ∧ v14 = .int .i64 j ∧ wr = w ∧ ∀ i (hi : i < dn.length), i < j → dn[i] ≠ x)
  case atStart => exact ⟨0, Nat.zero_le _, rfl, rfl, rfl, fun i _ hi => by omega⟩
  case round =>
    obtain ⟨j, hj, rfl, rfl, rfl, hbef⟩ := hrel
    by_cases hjl : j < dn.length
    · obtain ⟨b, off, rfl, y⟩ := int_cell hd.rd hjl
      by_cases he : dn[j] = x
      · have hs : stateF q dn x = 2 := by
          unfold stateF
          rw [if_pos (by rw [← he]; exact List.getElem_mem hjl)]
        have HS := Lib.hid hs
        rw [he] at y
        clear he hbef hs
        go_wp2_with fail
        go_ret
        exact ⟨by rw [HS.out]; rfl, Fr.refl _ _⟩
      · have hne : (dn[j] == x) = false := by simpa using he
        have HN : Hid (∀ i (hi : i < dn.length), i < j + 1 → dn[i] ≠ x) := Lib.hid (fun i hi hij => by
          by_cases e : i = j
          · subst e; exact he
          · exact hbef i hi (by omega))
        clear hbef he
        generalize dn[j] = z at *
        go_wp2_with fail
        go_roundg (dn.length - (j + 1))
        case measure => omega
        case rel => exact ⟨j + 1, by omega, rfl, by go_num, rfl, HN.out⟩
    · obtain rfl : j = dn.length := by omega
      have hnd : Hid (x ∉ dn) := Lib.hid (fun hx => by
        obtain ⟨i, hi, e⟩ := List.getElem_of_mem hx
        exact hbef i hi hi e)
      clear hbef
      go_wp2_with fail
      go_loopg [27] q.length (fun g v27 w' => ∃ j : Nat, j ≤ q.length ∧ g = q.length - j ∧ v27 = .int .i64 j ∧ Fr NoB wr w' ∧ ∀ i (hi : i < q.length), i < j → q[i].1 ≠ x)
      case atStart => exact ⟨0, Nat.zero_le _, rfl, rfl, Fr.refl _ _, fun i _ hi => by omega⟩
      case round =>
        obtain ⟨j, hj, rfl, rfl, hfr, hbef⟩ := hrel
        by_cases hjl : j < q.length
        · obtain ⟨b, off, rfl, _, y1, y2⟩ := wcell_at (ha.fr hfr (fun _ _ h => h)).rd hjl
          have HFR := Lib.hid hfr
          clear hfr
          by_cases he : q[j].1 = x
          · have hs : stateF q dn x = 1 := by
              unfold stateF
              rw [if_neg hnd.out, if_pos (by rw [← he]; exact List.mem_map.2 ⟨_, List.getElem_mem hjl, rfl⟩)]
            have HS := Lib.hid hs
            rw [he] at y1
            clear he hbef hs
            generalize q[j].2 = z2 at *
            go_wp2_with fail
            go_ret
            exact ⟨by rw [HS.out]; rfl, HFR.out.alloc _⟩
          · have hne : (q[j].1 == x) = false := by simpa using he
            have HN : Hid (∀ i (hi : i < q.length), i < j + 1 → q[i].1 ≠ x) := Lib.hid (fun i hi hij => by
              by_cases e : i = j
              · subst e; exact he
              · exact hbef i hi (by omega))
            clear hbef he
            generalize q[j].1 = z1 at *
            generalize q[j].2 = z2 at *
            go_wp2_with fail
            go_roundg (q.length - (j + 1))
            case measure => omega
            case rel => exact ⟨j + 1, by omega, rfl, by go_num, HFR.out.alloc _, HN.out⟩
        · obtain rfl : j = q.length := by omega
          have hs : stateF q dn x = 0 := by
            unfold stateF
            rw [if_neg hnd.out, if_neg]
            intro hx
            obtain ⟨p, hp, e⟩ := List.mem_map.1 hx
            obtain ⟨i, hi, rfl⟩ := List.getElem_of_mem hp
            exact hbef i hi hi e
          have HS := Lib.hid hs
          clear hbef hs
          go_wp2_with fail
          go_ret
          exact ⟨by rw [HS.out]; rfl, hfr⟩
end Go.Proofs.Ytjafjhaoogimcaa
