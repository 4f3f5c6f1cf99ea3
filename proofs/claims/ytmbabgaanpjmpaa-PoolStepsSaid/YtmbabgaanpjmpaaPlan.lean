/- A region that draws its order, walked along one plan: operations that only read are taken where they stand in the plan, the others come one after another anyway. -/
import Derived.Test.YtmbabgaanpjmpaaWords
import Derived.OrdersHeld
namespace Go.Proofs.Ytmbabgaanpjmpaa

section
variable {P : Program} {ops : Array Oper} {Q : Exit → Act → World → Prop} {S : World → Prop} {d : Nat}

/-- Does operation d wait, at once, for operation i? (No such d: nothing is to be asked.) -/
def waitsD (ops : Array Oper) (d i : Nat) : Bool :=
  match ops[d]? with
  | none => true
  | some o => o.after.any fun e => Region.binds .any e && e.on == i

/-- Whatever order is picked; S holds behind every operation as long as operation d has not come up. -/
def wpAnyD (P : Program) (ops : Array Oper) (Q : Exit → Act → World → Prop) (S : World → Prop) (d : Nat) : Nat → Array Bool → Act → World → Prop
  | 0, listed, a, w => Region.ready .any ops listed = [] ∧ Q .normal a w
  | fuel + 1, listed, a, w =>
    (Region.ready .any ops listed = [] → Q .normal a w) ∧
    ∀ i ∈ Region.ready .any ops listed, wpOp P ops Q i (fun a' w' => ((listed.setIfInBounds i true).getD d false = false → S w') ∧ wpAnyD P ops Q S d fuel (listed.setIfInBounds i true) a' w') a w

theorem wpAny_of_D : ∀ (fuel : Nat) (listed : Array Bool) (a : Act) (w : World), wpAnyD P ops Q S d fuel listed a w → wpAny P .any ops Q fuel listed a w
  | 0, _, _, _, h => h
  | fuel + 1, _, _, _, h => ⟨h.1, fun i hi => wpOp_mono (fun a' w' h' => wpAny_of_D fuel _ a' w' h'.2) (h.2 i hi)⟩

/-- Where d has come up all that it waits for has. -/
def ClosedD (ops : Array Oper) (d : Nat) (listed : Array Bool) : Prop :=
  listed.getD d false = true → ∃ o, ops[d]? = some o ∧ ∀ e ∈ o.after, Region.binds .any e = true → listed.getD e.on false = true

theorem ClosedD.set {listed : Array Bool} {j : Nat} (h : ClosedD ops d listed) (hj : j ∈ Region.ready .any ops listed) : ClosedD ops d (listed.setIfInBounds j true) := by
  intro hd
  by_cases hjd : j = d
  · subst hjd
    obtain ⟨_, o', ho', hall⟩ := mem_ready.1 hj
    exact ⟨o', ho', fun e he hb => getD_set_true (hall e he hb)⟩
  · rw [getD_set_ne false hjd] at hd
    obtain ⟨o, ho, hall⟩ := h hd
    exact ⟨o, ho, fun e he hb => getD_set_true (hall e he hb)⟩

theorem getD_tf {listed : Array Bool} {i : Nat} (h : listed.getD i true = false) : listed.getD i false = false := by
  rcases Nat.lt_or_ge i listed.size with h' | h'
  · simp only [Array.getD, h', dif_pos] at h ⊢
    exact h
  · simp [Array.getD, Nat.not_lt.2 h'] at h

theorem wpAnyD_first {S0 : World → Prop} {i : Nat} {oi : Oper} {v : Value} (hi : ops[i]? = some oi) (hsel : ∀ (j : Nat) (o : Oper) cs b, ops[j]? = some o → o.op ≠ .select cs b)
    (hQ : ∀ c a w, Q (.panic c) (a.put oi.dst v) w → Q (.panic c) a w) (hid : i ≠ d)
    (h0 : ∀ listed w, listed.getD i true = false → ClosedD ops d listed → (listed.getD d false = false → S w) → S0 w) :
    ∀ (fuel : Nat) (listed : Array Bool) (a : Act) (w : World),
      (∀ j oj, ops[j]? = some oj → j ≠ i → listed.getD j true = false → (∀ e ∈ oj.after, Region.binds .any e = true → e.on ≠ i) → oi.apart ops oj = true) →
      i ∈ Region.ready .any ops listed → ClosedD ops d listed → YieldsIf P ops S0 oi v a → (listed.getD d false = false → S w) →
      wpAnyD P ops Q S d fuel (listed.setIfInBounds i true) (a.put oi.dst v) w → wpAnyD P ops Q S d (fuel + 1) listed a w := by
  intro fuel
  induction fuel with
  | zero =>
    intro listed a w _ hr hc hy hS H
    refine ⟨fun h => (by rw [h] at hr; cases hr), fun j hj => ?_⟩
    by_cases hji : j = i
    · subst hji
      exact hy.wpOp hi (h0 listed w (mem_ready.1 hr).1 hc hS) ⟨fun h => hS (by rwa [getD_set_ne false hid] at h), H⟩
    · have := ready_mono hj hji
      rw [H.1] at this
      cases this
  | succ fuel ih =>
    intro listed a w hfree hr hc hy hS H
    refine ⟨fun h => (by rw [h] at hr; cases hr), fun j hj => ?_⟩
    by_cases hji : j = i
    · subst hji
      exact hy.wpOp hi (h0 listed w (mem_ready.1 hr).1 hc hS) ⟨fun h => hS (by rwa [getD_set_ne false hid] at h), H⟩
    · have h1 := H.2 j (ready_mono hj hji)
      obtain ⟨hjun, oj, hoj, hall⟩ := mem_ready.1 hj
      have hnot : ∀ e ∈ oj.after, Region.binds .any e = true → e.on ≠ i := fun e he hb heq => by
        have h1 := hall e he hb
        have h0 := (mem_ready.1 hr).1
        rw [heq] at h1
        rw [getD_tf h0] at h1
        cases h1
      have h2 := wpOp_putIf hoj (hfree j oj hoj hji hjun hnot) (fun cs b => hsel i oi cs b hi) (fun cs b => hsel j oj cs b hoj) hQ hy h1
      have hfree' : ∀ k ok, ops[k]? = some ok → k ≠ i → (listed.setIfInBounds j true).getD k true = false →
          (∀ e ∈ ok.after, Region.binds .any e = true → e.on ≠ i) → oi.apart ops ok = true := fun k ok hk hki hun hno => by
        refine hfree k ok hk hki ?_ hno
        by_cases hjk : j = k
        · subst hjk; exact hjun
        · rw [getD_set_ne true hjk] at hun; exact hun
      refine wpOp_mono (fun a' w' h3 => ?_) h2
      have hS' : (listed.setIfInBounds j true).getD d false = false → S w' := fun h => h3.2.1 (by
        rw [Array.setIfInBounds_comm _ _ (Ne.symm hji), getD_set_ne false hid]
        exact h)
      refine ⟨hS', ih (listed.setIfInBounds j true) a' w' hfree' (ready_mono hr (Ne.symm hji)) (hc.set hj) h3.1 hS' ?_⟩
      rw [Array.setIfInBounds_comm _ _ hji]
      exact h3.2.2

/-- A plan: of each operation its number and its kind: 0: it yields in whatever world; 1: it yields in every world that meets S; else: it is the only one that may come up. -/
def planGo (ops : Array Oper) (d : Nat) : Array Bool → List (Nat × Nat) → Bool
  | listed, [] => (Region.ready .any ops listed).isEmpty
  | listed, (i, 0) :: rest => (Region.ready .any ops listed).contains i && Region.free .any ops listed i && i != d && planGo ops d (listed.setIfInBounds i true) rest
  | listed, (i, 1) :: rest => (Region.ready .any ops listed).contains i && Region.free .any ops listed i && i != d && waitsD ops d i && planGo ops d (listed.setIfInBounds i true) rest
  | listed, (i, _ + 2) :: rest => Region.ready .any ops listed == [i] && planGo ops d (listed.setIfInBounds i true) rest

def planOk (ops : Array Oper) (d : Nat) (plan : List (Nat × Nat)) : Bool :=
  Region.noSelect ops && decide (plan.length ≤ ops.size) && planGo ops d (Array.replicate ops.size false) plan

/-- The walk along a plan. -/
def wpPlan (P : Program) (ops : Array Oper) (Q : Exit → Act → World → Prop) (S : World → Prop) (d : Nat) : Bool → List (Nat × Nat) → Act → World → Prop
  | _, [], a, w => Q .normal a w
  | p, (i, 0) :: rest, a, w => ∃ o v, ops[i]? = some o ∧ YieldsIf P ops (fun _ => True) o v a ∧ wpPlan P ops Q S d p rest (a.put o.dst v) w
  | p, (i, 1) :: rest, a, w => ∃ o v, ops[i]? = some o ∧ YieldsIf P ops S o v a ∧ wpPlan P ops Q S d p rest (a.put o.dst v) w
  | p, (i, _ + 2) :: rest, a, w => wpOp P ops Q i (fun a' w' => ((p || i == d) = false → S w') ∧ wpPlan P ops Q S d (p || i == d) rest a' w') a w

theorem wpAnyD_of_plan (hsel : ∀ (j : Nat) (o : Oper) cs b, ops[j]? = some o → o.op ≠ .select cs b) (hQ : ∀ c dst v a w, Q (.panic c) (Act.put a dst v) w → Q (.panic c) a w) :
    ∀ (plan : List (Nat × Nat)) (fuel : Nat) (listed : Array Bool) (p : Bool) (a : Act) (w : World), planGo ops d listed plan = true → plan.length ≤ fuel → ClosedD ops d listed → listed.size = ops.size →
      (p = false → listed.getD d false = false) → (listed.getD d false = false → p = false) → (p = false → S w) → wpPlan P ops Q S d p plan a w → wpAnyD P ops Q S d fuel listed a w := by
  intro plan
  induction plan with
  | nil =>
    intro fuel listed p a w hg _ _ _ _ _ _ h
    have hr : Region.ready .any ops listed = [] := by simpa [planGo] using hg
    cases fuel with
    | zero => exact ⟨hr, h⟩
    | succ fuel => exact ⟨fun _ => h, by rw [hr]; simp⟩
  | cons x rest ih =>
    intro fuel listed p a w hg hl hc hz hp hp' hS h
    obtain ⟨i, k⟩ := x
    obtain ⟨fuel, rfl⟩ : ∃ f, fuel = f + 1 := ⟨fuel - 1, by simp at hl; omega⟩
    have hl' : rest.length ≤ fuel := by simp at hl; omega
    have keepP : i ≠ d → (p = false → (listed.setIfInBounds i true).getD d false = false) ∧ ((listed.setIfInBounds i true).getD d false = false → p = false) := fun hid =>
      ⟨fun h => by rw [getD_set_ne false hid]; exact hp h, fun h => hp' (by rwa [getD_set_ne false hid] at h)⟩
    match k, hg, h with
    | 0, hg, h =>
      simp only [planGo, Bool.and_eq_true, bne_iff_ne] at hg
      obtain ⟨⟨⟨hr, hf⟩, hid⟩, hg⟩ := hg
      obtain ⟨o, v, ho, hy, h⟩ := h
      have hr' : i ∈ Region.ready .any ops listed := by simpa using hr
      obtain ⟨k1, k2⟩ := keepP hid
      exact wpAnyD_first ho hsel (fun c a w => hQ c _ _ a w) hid (fun _ _ _ _ _ => trivial) fuel listed a w (Region.free_spec ho hf) hr' hc hy (fun h => hS (hp' h))
        (ih fuel _ p _ w hg hl' (hc.set hr') (by simpa using hz) k1 k2 hS h)
    | 1, hg, h =>
      simp only [planGo, Bool.and_eq_true, bne_iff_ne] at hg
      obtain ⟨⟨⟨⟨hr, hf⟩, hid⟩, hw⟩, hg⟩ := hg
      obtain ⟨o, v, ho, hy, h⟩ := h
      have hr' : i ∈ Region.ready .any ops listed := by simpa using hr
      obtain ⟨k1, k2⟩ := keepP hid
      refine wpAnyD_first ho hsel (fun c a w => hQ c _ _ a w) hid ?_ fuel listed a w (Region.free_spec ho hf) hr' hc hy (fun h => hS (hp' h))
        (ih fuel _ p _ w hg hl' (hc.set hr') (by simpa using hz) k1 k2 hS h)
      intro listed w hun hcl hSw
      cases hd : listed.getD d false with
      | false => exact hSw hd
      | true =>
        exfalso
        obtain ⟨od, hod, hall⟩ := hcl hd
        unfold waitsD at hw
        rw [hod] at hw
        simp only [] at hw
        rw [← Array.any_toList, List.any_eq_true] at hw
        obtain ⟨e, he, hb⟩ := hw
        simp only [Bool.and_eq_true, beq_iff_eq] at hb
        obtain ⟨hb, rfl⟩ := hb
        have := hall e (by simpa using he) hb
        rw [getD_tf hun] at this
        cases this
    | k + 2, hg, h =>
      simp only [planGo, Bool.and_eq_true, beq_iff_eq] at hg
      obtain ⟨hr, hg⟩ := hg
      have hr' : i ∈ Region.ready .any ops listed := by rw [hr]; simp
      refine ⟨fun h0 => (by rw [h0] at hr; cases hr), fun j hj => ?_⟩
      rw [hr] at hj
      obtain rfl : j = i := by simpa using hj
      refine wpOp_mono (fun a' w' h3 => ?_) h
      have hin : j < listed.size := by
        have := (mem_ready.1 hr').1
        rcases Nat.lt_or_ge j listed.size with h' | h'
        · exact h'
        · simp [Array.getD, Nat.not_lt.2 h'] at this
      have k1 : (p || j == d) = false → (listed.setIfInBounds j true).getD d false = false := fun h => by
        simp only [Bool.or_eq_false_iff, beq_eq_false_iff_ne] at h
        rw [getD_set_ne false h.2]
        exact hp h.1
      have k2 : (listed.setIfInBounds j true).getD d false = false → (p || j == d) = false := fun h => by
        by_cases hjd : j = d
        · subst hjd
          simp [Array.getD, hin] at h
        · rw [getD_set_ne false hjd] at h
          simp [hp' h, hjd]
      exact ⟨fun h => h3.1 (k2 h), ih fuel _ _ _ _ hg hl' (hc.set hr') (by simpa using hz) k1 k2 h3.1 h3.2⟩

/-- THE REGION: the plan is checked; S holds of the world behind the draw. -/
theorem wp_region_plan {id : Nat} {l : List Oper} {a : Act} {w : World} (d : Nat) (S : World → Prop) (plan : List (Nat × Nat)) (hm : P.follows .mixedOrders = true) (hc : planOk l.toArray d plan = true)
    (hQ : ∀ c t v a w, Q (.panic c) (Act.put a (some t) v) w → Q (.panic c) a w) (hS : S w.drew) (h : wpPlan P l.toArray Q S d false plan a w.drew) : (Code.region id l.toArray true).wp P Q a w := by
  simp only [planOk, Bool.and_eq_true, decide_eq_true_eq] at hc
  obtain ⟨⟨hs, hl⟩, hg⟩ := hc
  have h0 : (Array.replicate l.toArray.size false).getD d false = false := by
    rcases Nat.lt_or_ge d l.toArray.size with h' | h'
    · simp [Array.getD]
    · simp [Array.getD]
  refine wp_region_any hm (wpAny_of_D _ _ _ _ (wpAnyD_of_plan (Region.noSelect_spec hs) (fun c dst v a w h => by cases dst with | none => exact h | some t => exact hQ c t v a w h) plan _ _ false a _ hg hl ?_ (by simp) (fun _ => h0) (fun _ => rfl) (fun _ => hS) h))
  intro hd
  rw [h0] at hd
  cases hd

variable {a : Act} {w : World} {p : Bool} {rest : List (Nat × Nat)}
theorem wpPlan_nil (h : Q .normal a w) : wpPlan P ops Q S d p [] a w := h
/-- It yields in whatever world. -/
theorem wpPlan_free {i : Nat} (o : Oper) (v : Value) (ho : ops.toList[i]? = some o) (hw : Region.wanted o (yielded ops a.tmps) = true) (hy : ∀ w, (execOp a.eval o).run P w = .ok (.value v) w)
    (h : wpPlan P ops Q S d p rest (a.put o.dst v) w) : wpPlan P ops Q S d p ((i, 0) :: rest) a w := ⟨o, v, by rw [← Array.getElem?_toList]; exact ho, .inl ⟨hw, fun w _ => hy w⟩, h⟩
/-- It is passed over: its guard says no. -/
theorem wpPlan_skip {i k : Nat} (o : Oper) (ho : ops.toList[i]? = some o) (hw : Region.wanted o (yielded ops a.tmps) = false)
    (h : wpPlan P ops Q S d p rest (a.put o.dst undef) w) (hk : k < 2) : wpPlan P ops Q S d p ((i, k) :: rest) a w := by
  rw [Array.getElem?_toList] at ho
  match k, hk with
  | 0, _ => exact ⟨o, undef, ho, .inr ⟨hw, rfl⟩, h⟩
  | 1, _ => exact ⟨o, undef, ho, .inr ⟨hw, rfl⟩, h⟩
/-- It yields in every world that meets S. -/
theorem wpPlan_held {i : Nat} (o : Oper) (v : Value) (ho : ops.toList[i]? = some o) (hw : Region.wanted o (yielded ops a.tmps) = true) (hy : ∀ w, S w → (execOp a.eval o).run P w = .ok (.value v) w)
    (h : wpPlan P ops Q S d p rest (a.put o.dst v) w) : wpPlan P ops Q S d p ((i, 1) :: rest) a w := ⟨o, v, by rw [← Array.getElem?_toList]; exact ho, .inl ⟨hw, hy⟩, h⟩
/-- It is the only one that may come up: carried out; S is shown anew, if it is still wanted. -/
theorem wpPlan_do {i k : Nat} (o : Oper) (ho : ops.toList[i]? = some o)
    (h : ∀ K : Act → World → Prop, (∀ a' w', ((p || i == d) = false → S w') → wpPlan P ops Q S d (p || i == d) rest a' w' → K a' w') → if Region.wanted o (yielded ops a.tmps) = true then Oper.wp P o a w K Q else K (a.put o.dst undef) w) :
    wpPlan P ops Q S d p ((i, k + 2) :: rest) a w :=
  wpOp_step (by rw [← Array.getElem?_toList]; exact ho) fun K hK => h K fun a' w' h1 h2 => hK a' w' ⟨h1, h2⟩
end
end Go.Proofs.Ytmbabgaanpjmpaa
