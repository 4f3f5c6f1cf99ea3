/- Contracts of Crash, whatever comes, and of Sync. -/
import Derived.Test.YtghddmdehbacaaaCrash
namespace Go.Proofs.Ytghddmdehbacaaa
open Go.RowKit

theorem crash_zero {S : Nat → Prop} {d : Nat} {las : List (List UInt8)} (torn : Nat) (w : World) (h : DiskAt w S d las []) (ht : torn ≤ 256) :
    Calls Try.prog 12 #[.pointer (some ⟨d, 0, none⟩), .int .i64 (0 : Int), .int .i64 torn] w (CrashPost S d (0, las, []) w) := by
  have hh := waits_any w h
  have H := Lib.hid h
  obtain ⟨⟨gl, gs, Aq, cq, hbk, hrl, hrs, hrq, hne, hSl, hSs, hSq⟩, hS, hlt, hll, hqo, hpos, hfew⟩ := h
  have c2 : w.cell? ⟨d, 2, none⟩ = some (.slice Aq 0 cq) := hbk.cell 2
  have z2 := hbk.frozen 2
  have e0 : (([] : List (Nat × List UInt8)).length : Int) = 0 := rfl
  rw [e0] at hh
  have d2 : decide ((torn : Int) < 0) = false := decide_eq_false (by omega)
  have d3 : decide (256 < (torn : Int)) = false := decide_eq_false (by omega)
  have hb2 := hbk.set 2 (.slice none 0 0)
  have ndl : d ≠ gl := by
    obtain ⟨cur, hb'⟩ := hrl.blk
    exact hbk.types hb' (by decide)
  have nds : d ≠ gs := by
    obtain ⟨cur, hb'⟩ := hrs.blk
    exact hbk.types hb' (by decide)
  have f4 : Fr (fun j => j = d) w (w.setCell ⟨d, 2, none⟩ (.slice none 0 0)) := Fr.setCell (S := fun j => j = d) (p := ⟨d, 2, none⟩) (Fr.refl _ w) (.inl rfl) _
  have hpost : CrashPost S d (0, las, []) w (.returned (.int .i64 0)) (w.setCell ⟨d, 2, none⟩ (.slice none 0 0)) := by
    refine ⟨S, rfl, ⟨⟨gl, gs, none, 0, by simpa using hb2, hrl.fr f4 (Ne.symm ndl), hrs.fr f4 (Ne.symm nds), Arr.none_ _ _ _, hne, hSl, hSs, fun k hk => (InB.none_ k hk).elim⟩, hS, fun k hk => ?_, hll, hqo, hpos, hfew⟩, f4.mono (fun j _ e => by subst e; exact hS), fun k hk => .inl hk⟩
    have := hlt k hk
    simpa using this
  have HP := Lib.hid hpost
  clear hpost hb2 hbk
  cases Aq with
  | none =>
    have hcq : cq = 0 := by
      rcases hrq.2 with ⟨_, _, h'⟩ | ⟨_, _, h', _⟩
      · exact h'
      · cases h'
    subst hcq
    go_enter Try.func12, Try.ntmps12
    go_wp2_with fail
    refine hh.mono ?_
    rintro e w' ⟨rfl, rfl⟩
    go_wp2_with fail
    go_loopg [39] 0 (fun g v wr => v = .int .i64 (0 : Int) ∧ wr = w)
    case atStart => exact ⟨rfl, rfl⟩
    case round =>
      obtain ⟨rfl, rfl⟩ := hrel
      go_wp2_with fail
      go_loopg [80] 0 (fun g v wr' => v = .int .i64 (0 : Int) ∧ wr' = wr)
      case atStart => exact ⟨rfl, rfl⟩
      case round =>
        obtain ⟨rfl, rfl⟩ := hrel
        go_wp2_with fail
        go_ret
        exact HP.out
  | some a =>
    obtain ⟨gq, rfl, hcq⟩ : ∃ gq, a = ⟨gq, 0, none⟩ ∧ 0 ≤ cq := by
      rcases hrq.2 with ⟨h', _⟩ | ⟨g, _, e, _, h0, _⟩
      · cases h'
      · exact ⟨g, by simpa using e, h0⟩
    go_enter Try.func12, Try.ntmps12
    go_wp2_with fail
    refine hh.mono ?_
    rintro e w' ⟨rfl, rfl⟩
    go_wp2_with fail
    go_loopg [39] 0 (fun g v wr => v = .int .i64 (0 : Int) ∧ wr = w)
    case atStart => exact ⟨rfl, rfl⟩
    case round =>
      obtain ⟨rfl, rfl⟩ := hrel
      go_wp2_with fail
      go_loopg [80] 0 (fun g v wr' => v = .int .i64 (0 : Int) ∧ wr' = wr)
      case atStart => exact ⟨rfl, rfl⟩
      case round =>
        obtain ⟨rfl, rfl⟩ := hrel
        go_wp2_with fail
        go_ret
        exact HP.out

/-- Crash, whatever comes. -/
theorem crash_any {S : Nat → Prop} {d : Nat} {las : List (List UInt8)} {q : List (Nat × List UInt8)} (keep torn : Int) (w : World) (h : DiskAt w S d las q) (hql : q.length ≤ 16777215) :
    Calls Try.prog 12 #[.pointer (some ⟨d, 0, none⟩), .int .i64 keep, .int .i64 torn] w (CrashPost S d (crashF las q keep torn) w) := by
  unfold crashF
  by_cases hb : 0 ≤ keep ∧ keep ≤ q.length ∧ 0 ≤ torn ∧ torn ≤ 256
  · rw [if_pos hb]
    obtain ⟨h1, h2, h3, h4⟩ := hb
    obtain ⟨k, rfl⟩ := Int.eq_ofNat_of_zero_le h1
    obtain ⟨t, rfl⟩ := Int.eq_ofNat_of_zero_le h3
    by_cases hq : 0 < q.length
    · exact crash_ok k t w h (by omega) (by omega) hq hql
    · have hq' : q = [] := List.eq_nil_of_length_eq_zero (by omega)
      subst hq'
      obtain rfl : k = 0 := by simp at h2; omega
      have e : las2F las [] ((0 : Nat) : Int).toNat (t : Int).toNat = las := las2F_whole las [] _
      rw [e]
      exact crash_zero t w h (by omega)
  · rw [if_neg hb]
    refine (crash_bad keep torn w h hb).mono ?_
    rintro e w' ⟨rfl, rfl⟩
    exact ⟨S, rfl, h, Fr.refl _ _, fun _ h => .inl h⟩

/-- Sync: what waits lasts. -/
def SyncPost (S : Nat → Prop) (d : Nat) (las : List (List UInt8)) (w : World) (e : Ending) (w' : World) : Prop :=
  ∃ S', e = .returned (.tuple #[]) ∧ DiskAt w' S' d las [] ∧ Fr S w w' ∧ Gr S S' w
theorem sync_any {S : Nat → Prop} {d : Nat} {las : List (List UInt8)} {q : List (Nat × List UInt8)} (w : World) (h : DiskAt w S d las q) (hql : q.length ≤ 16777215) :
    Calls Try.prog 11 #[.pointer (some ⟨d, 0, none⟩)] w (SyncPost S d (apply q las) w) := by
  have hw := waits_any w h
  have hc := crash_any q.length 0 w h hql
  have e : crashF las q q.length 0 = (0, apply q las, []) := by
    unfold crashF
    rw [if_pos ⟨by omega, by omega, by omega, by omega⟩, Int.toNat_natCast, las2F_whole]
  rw [e] at hc
  clear h e
  go_enter Try.func11, Try.ntmps11
  go_wp2_with fail
  refine hw.mono ?_
  rintro e w' ⟨rfl, rfl⟩
  go_wp2_with fail
  refine hc.mono ?_
  rintro e w' ⟨S', rfl, h1, h2, h3⟩
  go_wp2_with fail
  exact bodyPost_ret (v := .tuple #[]) (by simp [results, Try.results11, go_sem]) rfl ⟨S', rfl, h1, h2, h3⟩
end Go.Proofs.Ytghddmdehbacaaa
