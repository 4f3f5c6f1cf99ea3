/- What Pick leaves: the net without one of its messages. -/
import Derived.Test.YteaiifhppcibgaaPick
namespace Go.Proofs.Yteaiifhppcibgaa
open Go.RowKit

theorem cellsB_iff {x y : Value} {A : Option Addr} {n c : Nat} {k : Nat} : CellsB [x, y, .slice A n c] k ↔ InB A k := by
  constructor
  · rintro ⟨x', y', A2, n2, c2, he, hk⟩
    simp only [List.cons.injEq, Value.slice.injEq, and_true] at he
    obtain ⟨_, _, rfl, _, _⟩ := he
    exact hk
  · intro hk
    exact ⟨x, y, A, n, c, rfl, hk⟩

theorem netAt_pull {S : Nat → Prop} {n : Nat} {nodes : Int} {L : List Msg} {w W w3 : World} {g : Nat} {c : Nat} {css : List (List Value)} {k : Nat} {m : Msg}
    (hbk : Bk w n 60 #[.int .i64 nodes, .slice (some ⟨g, 0, none⟩) L.length c]) (harr : Arr w 36 3 (some ⟨g, 0, none⟩) L.length c css.flatten) (hl : css.length = L.length)
    (hm : ∀ (k : Nat) (cs : List Value) (m : Msg), css[k]? = some cs → L[k]? = some m → MsgIs w cs m) (hA : ∀ k, InB (some ⟨g, 0, none⟩) k → S k) (hc : ∀ cs ∈ css, ∀ k, CellsB cs k → S k)
    (hp : css.Pairwise (fun x y => ∀ k, CellsB x k → ¬ CellsB y k)) (hS : S n) (hlt : ∀ k, S k → k < w.heap.size) (hfew : L.length ≤ 1024) (hk : L[k]? = some m)
    {Am : Option Addr} {cm : Nat} (hcs : css[k]? = some [.int .i64 m.f, .int .i64 m.t, .slice Am m.b.length cm]) (ham : Arr w 5 1 Am m.b.length cm (bv m.b))
    (hf1 : Fr NoB w W) {A3 : Option Addr} {c3 : Nat} (ha3 : Arr w3 36 3 A3 (k + (L.length - (k + 1))) c3 ((css.take k).flatten ++ (css.drop (k + 1)).flatten)) (hf3 : Fr (InB (some ⟨g, 0, none⟩)) W w3)
    (hn3 : ∀ j, InB A3 j → InB (some ⟨g, 0, none⟩) j ∨ W.heap.size ≤ j) :
    ∃ S', NetAt (w3.setCell ⟨n, 1, none⟩ (.slice A3 (k + (L.length - (k + 1))) c3)) S' n nodes (L.eraseIdx k) ∧ Fr S w (w3.setCell ⟨n, 1, none⟩ (.slice A3 (k + (L.length - (k + 1))) c3)) ∧ Gr S S' w ∧
      Arr (w3.setCell ⟨n, 1, none⟩ (.slice A3 (k + (L.length - (k + 1))) c3)) 5 1 Am m.b.length cm (bv m.b) ∧ (∀ j, InB Am j → S j ∧ ¬ S' j) ∧ (∀ j, S' j → S j ∨ W.heap.size ≤ j) := by
  have hkl : k < L.length := (List.getElem?_eq_some_iff.1 hk).1
  have hnw := hbk.lt
  have hs1 := hf1.size
  have hs3 := hf3.size
  have noA : ∀ j t cur, Bk w j t cur → t ≠ 36 → ¬ InB (some ⟨g, 0, none⟩) j := fun j t cur hb hne hj => by
    obtain ⟨cur', hb'⟩ := harr.bk hj
    exact hb.types hb' hne rfl
  have hf03 : Fr (InB (some ⟨g, 0, none⟩)) w w3 := (hf1.mono (fun _ _ h => h.elim)).trans hf3
  have hb3 : Bk w3 n 60 #[.int .i64 nodes, .slice (some ⟨g, 0, none⟩) L.length c] := hbk.fr hf03 (noA n 60 _ hbk (by decide))
  have hb4 := hb3.set 1 (.slice A3 (k + (L.length - (k + 1))) c3)
  have hf34 : Fr (fun j => j = n) w3 (w3.setCell ⟨n, 1, none⟩ (.slice A3 (k + (L.length - (k + 1))) c3)) := Fr.setCell (S := fun j => j = n) (p := ⟨n, 1, none⟩) (Fr.refl _ w3) (.inl rfl) _
  have hf04 : Fr S w (w3.setCell ⟨n, 1, none⟩ (.slice A3 (k + (L.length - (k + 1))) c3)) :=
    (hf03.mono (fun j _ h => hA j h)).join hf34 (fun j _ h => by subst h; exact hS)
  have hnA3 : ¬ InB A3 n := fun h => by
    rcases hn3 n h with h | h
    · exact noA n 60 _ hbk (by decide) h
    · omega
  have bytes : ∀ {cs : List Value} {m' : Msg}, MsgIs w cs m' → MsgIs (w3.setCell ⟨n, 1, none⟩ (.slice A3 (k + (L.length - (k + 1))) c3)) cs m' := fun hM => by
    refine (hM.fr hf03 fun j hj => ?_).fr hf34 fun j hj e => ?_
    · obtain ⟨cur, hb⟩ := hM.bk hj
      exact noA j 5 cur hb (by decide)
    · subst e
      obtain ⟨cur, hb⟩ := hM.bk hj
      exact hb.types hbk (by decide) rfl
  have hMm : MsgIs w [.int .i64 m.f, .int .i64 m.t, .slice Am m.b.length cm] m := ⟨Am, cm, rfl, ham⟩
  have hAm5 : ∀ j, InB Am j → ∃ cur, Bk w j 5 cur := fun j hj => ham.bk hj
  have hAmS : ∀ j, InB Am j → S j := fun j hj => hc _ (List.mem_of_getElem? hcs) j (cellsB_iff.2 hj)
  have he : css.eraseIdx k = css.take k ++ css.drop (k + 1) := List.eraseIdx_eq_take_drop_succ ..
  have hmem : ∀ cs ∈ css.eraseIdx k, cs ∈ css := fun cs h => (List.eraseIdx_sublist ..).subset h
  have hapart : ∀ cs ∈ css.eraseIdx k, ∀ j, CellsB cs j → ¬ InB Am j := by
    intro cs hcs' j hj hjm
    obtain ⟨i, hi, hii⟩ := List.mem_eraseIdx_iff_getElem.1 hcs'
    obtain ⟨hik, hi2⟩ := hii
    have hkk : k < css.length := by omega
    have hck : css[k] = [.int .i64 m.f, .int .i64 m.t, .slice Am m.b.length cm] := by
      rw [List.getElem?_eq_getElem hkk] at hcs
      exact Option.some.inj hcs
    rcases Nat.lt_or_gt_of_ne hik with h | h
    · have := List.pairwise_iff_getElem.1 hp i k hi hkk h j (by rw [hi2]; exact hj)
      rw [hck] at this
      exact this (cellsB_iff.2 hjm)
    · have := List.pairwise_iff_getElem.1 hp k i hkk hi h j (by rw [hck]; exact cellsB_iff.2 hjm)
      rw [hi2] at this
      exact this hj
  have hlen : (L.eraseIdx k).length = k + (L.length - (k + 1)) := by rw [List.length_eraseIdx_of_lt hkl]; omega
  refine ⟨fun j => (S j ∧ ¬ InB Am j) ∨ InB A3 j, ⟨⟨A3, c3, css.eraseIdx k, ?_, ?_, ?_, ?_, ?_, ?_, ?_⟩, .inl ⟨hS, fun h => ?_⟩, ?_, ?_⟩, hf04, ?_, ?_, ?_, ?_⟩
  · rw [hlen]
    simpa using hb4
  · rw [hlen, he, List.flatten_append]
    exact ha3.fr hf34 (fun j hj e => by subst e; exact hnA3 hj)
  · rw [List.length_eraseIdx_of_lt (by omega), hlen]
    omega
  · intro i cs m' h1 h2
    rw [List.getElem?_eraseIdx] at h1 h2
    split at h1
    · rename_i hik
      rw [if_pos hik] at h2
      exact bytes (hm i cs m' h1 h2)
    · rename_i hik
      rw [if_neg hik] at h2
      exact bytes (hm (i + 1) cs m' h1 h2)
  · intro j hj
    exact .inr hj
  · intro cs hcs' j hj
    exact .inl ⟨hc cs (hmem cs hcs') j hj, hapart cs hcs' j hj⟩
  · exact hp.sublist (List.eraseIdx_sublist ..)
  · obtain ⟨cur, hb⟩ := hAm5 n h
    exact hb.types hbk (by decide) rfl
  · intro j hj
    rcases hj with h | h
    · have := hlt j h.1
      have := hf04.size
      omega
    · have := ha3.lt j h
      simpa using this
  · omega
  · intro j hj
    rcases hj with h | h
    · exact .inl h.1
    · rcases hn3 j h with h | h
      · exact .inl (hA j h)
      · exact .inr (by omega)
  · obtain ⟨A', c', e, h⟩ := bytes hMm
    simp only [List.cons.injEq, Value.slice.injEq, and_true, true_and] at e
    obtain ⟨rfl, rfl⟩ := e
    exact h
  · intro j hj
    refine ⟨hAmS j hj, fun h => ?_⟩
    rcases h with h | h
    · exact h.2 hj
    · rcases hn3 j h with h | h
      · obtain ⟨cur, hb⟩ := hAm5 j hj
        exact noA j 5 cur hb (by decide) h
      · have := hlt j (hAmS j hj)
        omega
  · intro j hj
    rcases hj with h | h
    · exact .inl h.1
    · rcases hn3 j h with h | h
      · exact .inl (hA j h)
      · exact .inr h
end Go.Proofs.Yteaiifhppcibgaa
