/- The walk along a plan, where what is kept (S) may be made stronger behind an operation that is carried out. -/
import Derived.Test.YtmceknchmflgoaaPlan
namespace Go.Proofs.Ytmceknchmflgoaa

section
variable {P : Program} {ops : Array Oper} {Q : Exit → Act → World → Prop} {d : Nat}

theorem wpAnyD_mono {S S' : World → Prop} (hss : ∀ w, S' w → S w) : ∀ (fuel : Nat) (listed : Array Bool) (a : Act) (w : World), wpAnyD P ops Q S' d fuel listed a w → wpAnyD P ops Q S d fuel listed a w
  | 0, _, _, _, h => h
  | fuel + 1, _, _, _, h => ⟨h.1, fun i hi => wpOp_mono (fun a' w' h' => ⟨fun e => hss _ (h'.1 e), wpAnyD_mono hss fuel _ a' w' h'.2⟩) (h.2 i hi)⟩

def wpPlanG (P : Program) (ops : Array Oper) (Q : Exit → Act → World → Prop) (d : Nat) : (World → Prop) → Bool → List (Nat × Nat) → Act → World → Prop
  | _, _, [], a, w => Q .normal a w
  | S, p, (i, 0) :: rest, a, w => ∃ o v, ops[i]? = some o ∧ YieldsIf P ops (fun _ => True) o v a ∧ wpPlanG P ops Q d S p rest (a.put o.dst v) w
  | S, p, (i, 1) :: rest, a, w => ∃ o v, ops[i]? = some o ∧ YieldsIf P ops S o v a ∧ wpPlanG P ops Q d S p rest (a.put o.dst v) w
  | S, p, (i, _ + 2) :: rest, a, w => wpOp P ops Q i (fun a' w' => ∃ S' : World → Prop, (∀ w, S' w → S w) ∧ ((p || i == d) = false → S' w') ∧ wpPlanG P ops Q d S' (p || i == d) rest a' w') a w

theorem wpAnyD_of_planG (hsel : ∀ (j : Nat) (o : Oper) cs b, ops[j]? = some o → o.op ≠ .select cs b) (hQ : ∀ c dst v a w, Q (.panic c) (Act.put a dst v) w → Q (.panic c) a w) :
    ∀ (plan : List (Nat × Nat)) (S : World → Prop) (fuel : Nat) (listed : Array Bool) (p : Bool) (a : Act) (w : World), planGo ops d listed plan = true → plan.length ≤ fuel → ClosedD ops d listed → listed.size = ops.size →
      (p = false → listed.getD d false = false) → (listed.getD d false = false → p = false) → (p = false → S w) → wpPlanG P ops Q d S p plan a w → wpAnyD P ops Q S d fuel listed a w := by
  intro plan
  induction plan with
  | nil =>
    intro S fuel listed p a w hg _ _ _ _ _ _ h
    have hr : Region.ready .any ops listed = [] := by simpa [planGo] using hg
    cases fuel with
    | zero => exact ⟨hr, h⟩
    | succ fuel => exact ⟨fun _ => h, by rw [hr]; simp⟩
  | cons x rest ih =>
    intro S fuel listed p a w hg hl hc hz hp hp' hS h
    obtain ⟨i, k⟩ := x
    obtain ⟨fuel, rfl⟩ : ∃ f, fuel = f + 1 := ⟨fuel - 1, by simp at hl; omega⟩
    have hl' : rest.length ≤ fuel := by simp at hl; omega
    have keepP : i ≠ d → (p = false → (listed.setIfInBounds i true).getD d false = false) ∧ ((listed.setIfInBounds i true).getD d false = false → p = false) := fun hid =>
      ⟨fun h => by rw [getD_set_ne false hid]; exact hp h, fun h => hp' (by rwa [getD_set_ne false hid] at h)⟩
    match k, hg, h with
    | 0, hg, h =>
      simp only [planGo, Bool.and_eq_true, bne_iff_ne] at hg
      obtain ⟨⟨⟨hr, hf⟩, hid⟩, hg⟩ := hg
      obtain ⟨o, v, ho, hy, h⟩ := h
      have hr' : i ∈ Region.ready .any ops listed := by simpa using hr
      obtain ⟨k1, k2⟩ := keepP hid
      exact wpAnyD_first ho hsel (fun c a w => hQ c _ _ a w) hid (fun _ _ _ _ _ => trivial) fuel listed a w (Region.free_spec ho hf) hr' hc hy (fun h => hS (hp' h))
        (ih S fuel _ p _ w hg hl' (hc.set hr') (by simpa using hz) k1 k2 hS h)
    | 1, hg, h =>
      simp only [planGo, Bool.and_eq_true, bne_iff_ne] at hg
      obtain ⟨⟨⟨⟨hr, hf⟩, hid⟩, hw⟩, hg⟩ := hg
      obtain ⟨o, v, ho, hy, h⟩ := h
      have hr' : i ∈ Region.ready .any ops listed := by simpa using hr
      obtain ⟨k1, k2⟩ := keepP hid
      refine wpAnyD_first ho hsel (fun c a w => hQ c _ _ a w) hid ?_ fuel listed a w (Region.free_spec ho hf) hr' hc hy (fun h => hS (hp' h))
        (ih S fuel _ p _ w hg hl' (hc.set hr') (by simpa using hz) k1 k2 hS h)
      intro listed w hun hcl hSw
      cases hd : listed.getD d false with
      | false => exact hSw hd
      | true =>
        exfalso
        obtain ⟨od, hod, hall⟩ := hcl hd
        unfold waitsD at hw
        rw [hod] at hw
        simp only [] at hw
        rw [← Array.any_toList, List.any_eq_true] at hw
        obtain ⟨e, he, hb⟩ := hw
        simp only [Bool.and_eq_true, beq_iff_eq] at hb
        obtain ⟨hb, rfl⟩ := hb
        have := hall e (by simpa using he) hb
        rw [getD_tf hun] at this
        cases this
    | k + 2, hg, h =>
      simp only [planGo, Bool.and_eq_true, beq_iff_eq] at hg
      obtain ⟨hr, hg⟩ := hg
      have hr' : i ∈ Region.ready .any ops listed := by rw [hr]; simp
      refine ⟨fun h0 => (by rw [h0] at hr; cases hr), fun j hj => ?_⟩
      rw [hr] at hj
      obtain rfl : j = i := by simpa using hj
      refine wpOp_mono (fun a' w' h3 => ?_) h
      obtain ⟨S', hss, h3⟩ := h3
      have hin : j < listed.size := by
        have := (mem_ready.1 hr').1
        rcases Nat.lt_or_ge j listed.size with h' | h'
        · exact h'
        · simp [Array.getD, Nat.not_lt.2 h'] at this
      have k1 : (p || j == d) = false → (listed.setIfInBounds j true).getD d false = false := fun h => by
        simp only [Bool.or_eq_false_iff, beq_eq_false_iff_ne] at h
        rw [getD_set_ne false h.2]
        exact hp h.1
      have k2 : (listed.setIfInBounds j true).getD d false = false → (p || j == d) = false := fun h => by
        by_cases hjd : j = d
        · subst hjd
          simp [Array.getD, hin] at h
        · rw [getD_set_ne false hjd] at h
          simp [hp' h, hjd]
      exact ⟨fun h => hss _ (h3.1 (k2 h)), wpAnyD_mono hss _ _ _ _ (ih S' fuel _ _ _ _ hg hl' (hc.set hr') (by simpa using hz) k1 k2 h3.1 h3.2)⟩

/-- THE REGION, with S that may be made stronger. -/
theorem wp_region_planG {id : Nat} {l : List Oper} {a : Act} {w : World} (d : Nat) (S : World → Prop) (plan : List (Nat × Nat)) (hm : P.follows .mixedOrders = true) (hc : planOk l.toArray d plan = true)
    (hQ : ∀ c t v a w, Q (.panic c) (Act.put a (some t) v) w → Q (.panic c) a w) (hS : S w.drew) (h : wpPlanG P l.toArray Q d S false plan a w.drew) : (Code.region id l.toArray true).wp P Q a w := by
  simp only [planOk, Bool.and_eq_true, decide_eq_true_eq] at hc
  obtain ⟨⟨hs, hl⟩, hg⟩ := hc
  have h0 : (Array.replicate l.toArray.size false).getD d false = false := by
    rcases Nat.lt_or_ge d l.toArray.size with h' | h'
    · simp [Array.getD]
    · simp [Array.getD]
  refine wp_region_any hm (wpAny_of_D _ _ _ _ (wpAnyD_of_planG (Region.noSelect_spec hs) (fun c dst v a w h => by cases dst with | none => exact h | some t => exact hQ c t v a w h) plan _ _ _ false a _ hg hl ?_ (by simp) (fun _ => h0) (fun _ => rfl) (fun _ => hS) h))
  intro hd
  rw [h0] at hd
  cases hd

variable {S : World → Prop} {a : Act} {w : World} {p : Bool} {rest : List (Nat × Nat)}
theorem wpPlanG_nil (h : Q .normal a w) : wpPlanG P ops Q d S p [] a w := h
theorem wpPlanG_free {i : Nat} (o : Oper) (v : Value) (ho : ops.toList[i]? = some o) (hw : Region.wanted o (yielded ops a.tmps) = true) (hy : ∀ w, (execOp a.eval o).run P w = .ok (.value v) w)
    (h : wpPlanG P ops Q d S p rest (a.put o.dst v) w) : wpPlanG P ops Q d S p ((i, 0) :: rest) a w := ⟨o, v, by rw [← Array.getElem?_toList]; exact ho, .inl ⟨hw, fun w _ => hy w⟩, h⟩
theorem wpPlanG_held {i : Nat} (o : Oper) (v : Value) (ho : ops.toList[i]? = some o) (hw : Region.wanted o (yielded ops a.tmps) = true) (hy : ∀ w, S w → (execOp a.eval o).run P w = .ok (.value v) w)
    (h : wpPlanG P ops Q d S p rest (a.put o.dst v) w) : wpPlanG P ops Q d S p ((i, 1) :: rest) a w := ⟨o, v, by rw [← Array.getElem?_toList]; exact ho, .inl ⟨hw, hy⟩, h⟩
theorem wpPlanG_skip {i k : Nat} (o : Oper) (ho : ops.toList[i]? = some o) (hw : Region.wanted o (yielded ops a.tmps) = false)
    (h : wpPlanG P ops Q d S p rest (a.put o.dst undef) w) (hk : k < 2) : wpPlanG P ops Q d S p ((i, k) :: rest) a w := by
  rw [Array.getElem?_toList] at ho
  match k, hk with
  | 0, _ => exact ⟨o, undef, ho, .inr ⟨hw, rfl⟩, h⟩
  | 1, _ => exact ⟨o, undef, ho, .inr ⟨hw, rfl⟩, h⟩
theorem wpPlanG_do {i k : Nat} (o : Oper) (ho : ops.toList[i]? = some o)
    (h : ∀ K : Act → World → Prop, (∀ a' w' (S' : World → Prop), (∀ w, S' w → S w) → ((p || i == d) = false → S' w') → wpPlanG P ops Q d S' (p || i == d) rest a' w' → K a' w') → if Region.wanted o (yielded ops a.tmps) = true then Oper.wp P o a w K Q else K (a.put o.dst undef) w) :
    wpPlanG P ops Q d S p ((i, k + 2) :: rest) a w :=
  wpOp_step (by rw [← Array.getElem?_toList]; exact ho) fun K hK => h K fun a' w' S' h0 h1 h2 => hK a' w' ⟨S', h0, h1, h2⟩
end
end Go.Proofs.Ytmceknchmflgoaa
