/- A map keyed by int whose entries are a list of pairs: what the operations on it do, in words of the list. -/
import Derived.Test.YtmbabgaanpjmpaaPlan
import Derived.Maps.OwnSet
import Derived.Maps.RangeWalk
namespace Go.Proofs.Ytmbabgaanpjmpaa
open Go.RowKit Go.Maps

def kl (k : Int) : Lit := .int .i64 k
def okI (k : Int) : Prop := -9223372036854775808 ≤ k ∧ k ≤ 9223372036854775807
theorem okI_wf {k : Int} (h : okI k) : (Lit.int .i64 k).wf = true := by
  have h1 : IntKind.i64.min = -9223372036854775808 := rfl
  have h2 : IntKind.i64.max = 9223372036854775807 := rfl
  simp only [Lit.wf, Bool.and_eq_true, decide_eq_true_eq, h1, h2]
  exact h
theorem wf_okI {k : Int} (h : (Lit.int .i64 k).wf = true) : okI k := by
  have h1 : IntKind.i64.min = -9223372036854775808 := rfl
  have h2 : IntKind.i64.max = 9223372036854775807 := rfl
  simp only [Lit.wf, Bool.and_eq_true, decide_eq_true_eq, h1, h2] at h
  exact h
theorem kl_inj {a b : Int} (h : kl a = kl b) : a = b := by injection h

/-- How elements read. -/
structure ElemK {β : Type} (R : Value → Option (DataW Unit × List MemPlace)) (ev : β → Value) (dv : β → DataW Unit) (ok : β → Prop) : Prop where
  rd : ∀ x, ok x → ∃ ps, R (ev x) = some (dv x, ps)
  inv : ∀ v y, R v = some y → ∃ x, v = ev x ∧ y.1 = dv x ∧ ok x
  inj : ∀ x y, dv x = dv y → x = y
  ne : ∀ x, dv x ≠ .nil

/-- Block b is a map whose entries are those of q. -/
structure MapIs {β : Type} (P : Program) (k : TypeId) (R : Value → Option (DataW Unit × List MemPlace)) (dv : β → DataW Unit) (w : World) (b : Nat) (q : List (Int × β)) : Prop where
  ex : ∃ D : DataW Unit, w.ownsMap P k R b q.length D ∧ (∀ x v, (x, v) ∈ q → ∀ z, D.atKey (kl x) z = dv v) ∧ (∀ x, (∀ v, (x, v) ∉ q) → ∀ z, D.atKey (kl x) z = z) ∧ Maps.size D = q.length
  nd : (q.map (·.1)).Nodup
  okk : ∀ p ∈ q, okI p.1

section
variable {β : Type} {P : Program} {k e t : TypeId} {R : Value → Option (DataW Unit × List MemPlace)} {ev : β → Value} {dv : β → DataW Unit} {ok : β → Prop} {w w1 : World} {b : Nat} {q : List (Int × β)}

/-- What stands at x; z0 if nothing does. -/
def val (q : List (Int × β)) (z0 : β) (x : Int) : β := ((q.find? fun p => p.1 == x).map (·.2)).getD z0
theorem val_mem {z0 : β} : ∀ {q : List (Int × β)} {x : Int} {v : β}, (q.map (·.1)).Nodup → (x, v) ∈ q → val q z0 x = v
  | [], _, _, _, h => by simp at h
  | p :: r, x, v, hn, h => by
    rw [List.map_cons, List.nodup_cons] at hn
    unfold val
    rcases List.mem_cons.1 h with h | h
    · subst h
      simp
    · have hne : p.1 ≠ x := fun e => hn.1 (by rw [e]; exact List.mem_map.2 ⟨_, h, rfl⟩)
      rw [List.find?_cons_of_neg (by simpa using hne)]
      exact val_mem hn.2 h
theorem val_not {z0 : β} {q : List (Int × β)} {x : Int} (h : ∀ v, (x, v) ∉ q) : val q z0 x = z0 := by
  unfold val
  rw [List.find?_eq_none.2 (fun p hp => by
    simp only [beq_iff_eq]
    rintro rfl
    exact h p.2 hp)]
  rfl
theorem mem_key {q : List (Int × β)} {x : Int} : (∀ v, (x, v) ∉ q) ↔ x ∉ q.map (·.1) := by
  constructor
  · intro h hm
    obtain ⟨p, hp, rfl⟩ := List.mem_map.1 hm
    exact h p.2 hp
  · intro h v hv
    exact h (List.mem_map.2 ⟨_, hv, rfl⟩)
theorem val_perm {z0 : β} {q q' : List (Int × β)} (h : q.Perm q') (hn : (q.map (·.1)).Nodup) (x : Int) : val q z0 x = val q' z0 x := by
  by_cases hx : x ∈ q.map (·.1)
  · obtain ⟨p, hp, rfl⟩ := List.mem_map.1 hx
    rw [val_mem hn hp, val_mem ((h.map _).nodup_iff.1 hn) (h.mem_iff.1 hp)]
  · rw [val_not (mem_key.2 hx), val_not (mem_key.2 (fun h' => hx ((h.map _).mem_iff.2 h')))]

theorem ownsMap_tight {n : Nat} {D : DataW Unit} (h : w.ownsMap P k R b n D) : w.ownsMap P k R b (Maps.size D) D := by
  obtain ⟨es, clock, hb, F, hs, rfl⟩ := h
  exact ⟨es, clock, hb, F, by simp [Maps.size, length_sorted], rfl⟩

theorem MapIs.perm {q' : List (Int × β)} (h : MapIs P k R dv w b q) (hp : q.Perm q') : MapIs P k R dv w b q' := by
  obtain ⟨⟨D, h1, h2, h3, h4⟩, hn, hk⟩ := h
  exact ⟨⟨D, hp.length_eq ▸ h1, fun x v hm => h2 x v (hp.mem_iff.2 hm), fun x hx => h3 x (fun v hv => hx v (hp.mem_iff.1 hv)), h4.trans hp.length_eq⟩, (hp.map _).nodup_iff.1 hn, fun p hp' => hk p (hp.mem_iff.2 hp')⟩
theorem MapIs.fr {S : Nat → Prop} (h : MapIs P k R dv w b q) (hf : Fr S w w1) (hn : ¬ S b) : MapIs P k R dv w1 b q := by
  obtain ⟨⟨D, h1, h2⟩, h3, h4⟩ := h
  have hlt := h1.lt
  obtain ⟨es, clock, hb, F, hs, hD⟩ := h1
  exact ⟨⟨D, ⟨es, clock, (hf.block b hlt hn).trans hb, F, hs, hD⟩, h2⟩, h3, h4⟩
theorem MapIs.lt (h : MapIs P k R dv w b q) : b < w.heap.size := by
  obtain ⟨⟨D, h1, _⟩, _⟩ := h
  exact h1.lt
theorem MapIs.made (w : World) (P : Program) (k : TypeId) (R : Value → Option (DataW Unit × List MemPlace)) (dv : β → DataW Unit) : MapIs P k R dv (w.alloc (.map #[] 0)) w.heap.size [] :=
  ⟨⟨.map [], World.ownsMap_made w P k R, fun x v h => by simp at h, fun x _ z => atKey_of_not_has rfl z, rfl⟩, List.nodup_nil, fun p h => by simp at h⟩

theorem MapIs.run_look (h : MapIs P k R dv w b q) (E : ElemK R ev dv ok) (hk : P.underlying k = some (.int .i64)) (ht : P.underlying t = some (.map k e)) (z0 : β) (hok : ok z0) (hz : (zeroValue e).run P w = .ok (ev z0) w) {x : Int} (hx : okI x) :
    (Instr.lookup t (.map (some b)) (.int .i64 x) false).run P w = .ok (ev (val q z0 x)) w := by
  obtain ⟨⟨D, h1, h2, h3, h4⟩, hn, _⟩ := h
  obtain ⟨ps, hz0⟩ := E.rd z0 hok
  obtain ⟨v, ps', hrun, hv⟩ := h1.lookup (int_keyed hk) ht hz hz0 (keyOf_int_mk hk (okI_wf hx))
  obtain ⟨y, rfl, hy, _⟩ := E.inv _ _ hv
  simp only [] at hy
  rw [hrun]
  by_cases hm : x ∈ q.map (·.1)
  · obtain ⟨p, hp, rfl⟩ := List.mem_map.1 hm
    have := h2 p.1 p.2 hp (dv z0)
    unfold kl at this
    rw [this] at hy
    rw [val_mem hn hp, E.inj _ _ hy]
  · have := h3 x (mem_key.2 hm) (dv z0)
    unfold kl at this
    rw [this] at hy
    rw [val_not (mem_key.2 hm), E.inj _ _ hy]
theorem MapIs.run_len (h : MapIs P k R dv w b q) (ht : P.underlying t = some (.map k e)) (ty : TypeId) : (Builtin.len_ #[t] ty #[.map (some b)]).run P w = .ok (.int .i64 q.length) w := by
  obtain ⟨⟨D, h1, h2, h3, h4⟩, _⟩ := h
  rw [← h4]
  exact h1.len ht ty

theorem fr_grown (h : w.grownBy w1 (some b)) : Fr (fun j => j = b) w w1 := ⟨h.os, h.tape, h.output, h.size, fun i hi hn => h.block i hi (fun e => hn (by injection e))⟩
theorem fr_grown0 (h : w.grownBy w1 none) : Fr NoB w w1 := ⟨h.os, h.tape, h.output, h.size, fun i hi _ => h.block i hi (by simp)⟩

/-- A new key. -/
theorem MapIs.store (h : MapIs P k R dv w b q) (E : ElemK R ev dv ok) (hk : P.underlying k = some (.int .i64)) (ht : P.underlying t = some (.map k e)) {x : Int} (hx : okI x) {v : β} (hv : ok v) (hnew : x ∉ q.map (·.1)) (hl : q.length < maxLen) :
    ∃ w', (Instr.mapUpdate t (.map (some b)) (.int .i64 x) (ev v)).run P w = .ok () w' ∧ MapIs P k R dv w' b ((x, v) :: q) ∧ Fr (fun j => j = b) w w' := by
  obtain ⟨⟨D, h1, h2, h3, h4⟩, hn, hok⟩ := h
  obtain ⟨ps, hev⟩ := E.rd v hv
  obtain ⟨w', hrun, hown, hgr⟩ := h1.update (int_keyed hk) ht hl (keyOf_int_mk hk (okI_wf hx)) hev
  have hD := h1.tidy (int_keyed hk)
  have hno : Maps.has D (kl x) = false := has_false_of_atKey (h3 x (mem_key.2 hnew))
  refine ⟨w', hrun, ⟨⟨D.put (kl x) (dv v), ?_, ?_, ?_, ?_⟩, ?_, ?_⟩, fr_grown hgr⟩
  · exact hown
  · intro y u hm z
    rcases List.mem_cons.1 hm with hm | hm
    · obtain ⟨rfl, rfl⟩ := Prod.mk.inj hm
      exact atKey_put_same (k := kl y) hD.isMap trivial _ _
    · have hne : y ≠ x := fun e => hnew (by rw [← e]; exact List.mem_map.2 ⟨_, hm, rfl⟩)
      exact (atKey_put_other (k := Lit.int .i64 x) (k' := kl y) (fun e => hne (kl_inj e)) _ _).trans (h2 y u hm z)
  · intro y hy z
    have hne : y ≠ x := fun e => hy v (by rw [e]; exact List.mem_cons_self)
    exact (atKey_put_other (k := Lit.int .i64 x) (k' := kl y) (fun e => hne (kl_inj e)) _ _).trans (h3 y (fun u hu => hy u (List.mem_cons_of_mem _ hu)) z)
  · have := size_put (k := kl x) hD (dv v)
    rw [hno] at this
    simp only [Bool.false_eq_true, if_false] at this
    exact this.trans (by rw [h4]; rfl)
  · rw [List.map_cons, List.nodup_cons]
    exact ⟨hnew, hn⟩
  · intro p hp
    rcases List.mem_cons.1 hp with rfl | hp
    · exact hx
    · exact hok p hp

/-- 'delete'. -/
theorem MapIs.drop (h : MapIs P k R dv w b q) (hk : P.underlying k = some (.int .i64)) (ht : P.underlying t = some (.map k e)) {x : Int} (hx : okI x) (ty : TypeId) :
    ∃ w', (Builtin.delete_ #[t, k] ty #[.map (some b), .int .i64 x]).run P w = .ok (.tuple #[]) w' ∧ MapIs P k R dv w' b (q.filter fun p => p.1 != x) ∧ Fr (fun j => j = b) w w' := by
  obtain ⟨⟨D, h1, h2, h3, h4⟩, hn, hok⟩ := h
  obtain ⟨w', hrun, hown, htu⟩ := h1.drop (int_keyed hk) ht (keyOf_int_mk hk (okI_wf hx)) ty
  have hD := h1.tidy (int_keyed hk)
  have hat2 : ∀ y v, (y, v) ∈ (q.filter fun p => p.1 != x) → ∀ z, (D.del (kl x)).atKey (kl y) z = dv v := by
    intro y v hm z
    obtain ⟨hm, hne⟩ := List.mem_filter.1 hm
    rw [bne_iff_ne] at hne
    rw [atKey_del_other (fun e => hne (kl_inj e))]
    exact h2 y v hm z
  have hlen : Maps.size (D.del (kl x)) = (q.filter fun p => p.1 != x).length := by
    have hsz := size_del (k := kl x) hD
    by_cases hm : x ∈ q.map (·.1)
    · obtain ⟨p, hp, rfl⟩ := List.mem_map.1 hm
      rw [has_true_of_atKey (h2 p.1 p.2 hp)] at hsz
      simp only [if_true] at hsz
      have hq : ∀ (l : List (Int × β)), (l.map (·.1)).Nodup → p ∈ l → (l.filter fun r => r.1 != p.1).length + 1 = l.length := by
        intro l
        induction l with
        | nil => intro _ h; simp at h
        | cons a r ih =>
          intro hnd hpm
          rw [List.map_cons, List.nodup_cons] at hnd
          rcases List.mem_cons.1 hpm with rfl | hpm
          · have hall : (r.filter fun r => r.1 != p.1) = r := List.filter_eq_self.2 (fun c hc => by
              rw [bne_iff_ne]
              intro e
              exact hnd.1 (by rw [← e]; exact List.mem_map.2 ⟨c, hc, rfl⟩))
            rw [List.filter_cons_of_neg (by simp), hall]
            rfl
          · have hne : (a.1 != p.1) = true := by
              rw [bne_iff_ne]
              intro e
              exact hnd.1 (by rw [e]; exact List.mem_map.2 ⟨p, hpm, rfl⟩)
            rw [List.filter_cons_of_pos (by simpa using hne), List.length_cons, List.length_cons, ih hnd.2 hpm]
      have := hq q hn hp
      omega
    · rw [has_false_of_atKey (h3 x (mem_key.2 hm))] at hsz
      have hall : (q.filter fun r => r.1 != x) = q := List.filter_eq_self.2 (fun c hc => by
        rw [bne_iff_ne]
        intro e
        exact hm (by rw [← e]; exact List.mem_map.2 ⟨c, hc, rfl⟩))
      rw [hall]
      simpa using hsz.trans h4
  refine ⟨w', hrun, ⟨⟨D.del (kl x), ?_, hat2, ?_, hlen⟩, ?_, ?_⟩, fr_grown htu.grown⟩
  · rw [← hlen]
    exact ownsMap_tight hown
  · intro y hy z
    by_cases e : y = x
    · subst e
      exact atKey_del_same z
    · rw [atKey_del_other (fun e' => e (kl_inj e'))]
      exact h3 y (fun u hu => hy u (List.mem_filter.2 ⟨hu, by simpa using e⟩)) z
  · exact (List.Sublist.map _ List.filter_sublist).nodup hn
  · exact fun p hp => hok p (List.mem_filter.1 hp).1

/-- Under way: what of q is still to come. -/
def Under (P : Program) (k : TypeId) (R : Value → Option (DataW Unit × List MemPlace)) (dv : β → DataW Unit) (w : World) (b r : Nat) (q rest : List (Int × β)) : Prop :=
  MapIs P k R dv w b q ∧ ∃ (n : Nat) (D : DataW Unit) (left : Lit → Bool) (cnt : Nat), w.ranges P k R b r n D left cnt ∧ cnt ≤ n ∧
    (∀ x v, (x, v) ∈ q → ∀ z, D.atKey (kl x) z = dv v) ∧ (∀ x, (∀ v, (x, v) ∉ q) → ∀ z, D.atKey (kl x) z = z) ∧ rest = q.filter (fun p => left (kl p.1))

theorem Under.map {r : Nat} {rest : List (Int × β)} (h : Under P k R dv w b r q rest) : MapIs P k R dv w b q := h.1
theorem Under.lt {r : Nat} {rest : List (Int × β)} (h : Under P k R dv w b r q rest) : r < w.heap.size := by
  obtain ⟨_, n, D, left, cnt, h1, _⟩ := h
  exact h1.lt
theorem Under.fr {S : Nat → Prop} {r : Nat} {rest : List (Int × β)} (h : Under P k R dv w b r q rest) (hf : Fr S w w1) (hb : ¬ S b) (hr : ¬ S r) : Under P k R dv w1 b r q rest := by
  obtain ⟨hm, n, D, left, cnt, h1, h2⟩ := h
  have hlt := h1.lt
  have hlb := h1.owns.lt
  obtain ⟨es, clock, since, seen, c0, g1, g2, g3, g4, g5, g6⟩ := h1
  exact ⟨hm.fr hf hb, n, D, left, cnt, ⟨es, clock, since, seen, c0, (hf.block b hlb hb).trans g1, g2, g3, g4, (hf.block r hlt hr).trans g5, g6⟩, h2⟩

variable {ops : Array Oper} {rest : List Oper} {o : Oper} {a : Act} {Q : Exit → Act → World → Prop}

theorem wpList_range_is (hg : o.guard = none) (m : Operand) (t : TypeId) (hop : o.op = Op.range t m) (e : TypeId) (hk : P.underlying k = some (.int .i64)) (ht : P.underlying t = some (.map k e)) (hm : a.eval m = .map (some b)) (h : MapIs P k R dv w b q)
    (hK : ∀ w', Under P k R dv w' b w.heap.size q q → Fr NoB w w' → w'.heap.size = w.heap.size + 1 → wpList P ops Q rest (a.put o.dst (.pointer (some ⟨w.heap.size, 0, none⟩))) w') :
    wpList P ops Q (o :: rest) a w := by
  have H := h
  obtain ⟨⟨D, h1, h2, h3, h4⟩, hn, hok⟩ := h
  refine wpList_range_own w hg m t hop k e (int_keyed hk) ht R b q.length D hm h1 (fun w' hr hg hs => hK w' ⟨H.fr (fr_grown0 hg) (fun h => h), q.length, D, _, _, hr, by rw [h4]; exact Nat.le_refl _, h2, h3, ?_⟩ (fr_grown0 hg) hs)
  rw [eq_comm, List.filter_eq_self]
  exact fun p hp => has_true_of_atKey (h2 p.1 p.2 hp)

theorem filter_out {q : List (Int × β)} (hn : (q.map (·.1)).Nodup) (f : Lit → Bool) {x : Int} {v : β} (hm : (x, v) ∈ q) (hf : f (kl x) = true) :
    (q.filter fun p => f (kl p.1)).Perm ((x, v) :: q.filter fun p => f (kl p.1) && !(kl p.1).sameKey (kl x)) := by
  induction q with
  | nil => simp at hm
  | cons p r ih =>
    rw [List.map_cons, List.nodup_cons] at hn
    rcases List.mem_cons.1 hm with hm | hm
    · subst hm
      rw [List.filter_cons_of_pos (by simpa using hf), List.filter_cons_of_neg (by simp [WideAt.sameKey_self (a := kl x) trivial])]
      refine List.Perm.cons _ ?_
      rw [List.filter_congr (q := fun p => f (kl p.1) && !(kl p.1).sameKey (kl x))]
      intro c hc
      have hne : c.1 ≠ x := fun e => hn.1 (by rw [← e]; exact List.mem_map.2 ⟨c, hc, rfl⟩)
      rw [sameKey_ne (fun e => hne (kl_inj e))]
      simp
    · have hne : p.1 ≠ x := fun e => hn.1 (by rw [e]; exact List.mem_map.2 ⟨_, hm, rfl⟩)
      have hs : (kl p.1).sameKey (kl x) = false := sameKey_ne (fun e => hne (kl_inj e))
      have ih' := ih hn.2 hm
      cases hp : f (kl p.1) with
      | true =>
        rw [List.filter_cons_of_pos (by simpa using hp), List.filter_cons_of_pos (by simp [hp, hs])]
        exact (List.Perm.cons _ ih').trans (List.Perm.swap _ _ _)
      | false =>
        rw [List.filter_cons_of_neg (by simp [hp]), List.filter_cons_of_neg (by simp [hp])]
        exact ih'

theorem wpList_next_is (E : ElemK R ev dv ok) (hg : o.guard = none) (it : Operand) (hop : o.op = Op.next it false) (hk : P.underlying k = some (.int .i64)) (r : Nat) (left : List (Int × β)) (hit : a.eval it = .pointer (some ⟨r, 0, none⟩)) (h : Under P k R dv w b r q left)
    (hDone : left = [] → wpList P ops Q rest (a.put o.dst (.tuple #[.bool false])) w)
    (hMore : ∀ (x : Int) (v : β) (left' : List (Int × β)) (w' : World), (x, v) ∈ q → left.Perm ((x, v) :: left') → Under P k R dv w' b r q left' → Fr (fun j => j = r) w w' → w'.heap.size = w.heap.size →
      (Instr.entry (.pointer (some ⟨r, 0, none⟩))).run P w' = .ok (.tuple #[.int .i64 x, ev v]) w' → wpList P ops Q rest (a.put o.dst (.tuple #[.bool true, .int .i64 x, ev v])) w') :
    wpList P ops Q (o :: rest) a w := by
  obtain ⟨hm, n, D, lf, cnt, h1, h2, h3, h4, rfl⟩ := h
  refine wpList_next_ranges w hg it hop k (int_keyed hk) R (Value.int .i64) ev (fun key kl hkey => by obtain ⟨x, rfl, _⟩ := Maps.keyOf_int_inv hk hkey; exact ⟨x, rfl⟩) (fun v y hv => by obtain ⟨c, rfl, _⟩ := E.inv v y hv; exact ⟨c, rfl⟩)
    b r n D lf cnt hit h1 (fun _ hl => hDone (List.filter_eq_nil_iff.2 (fun p _ => by simp [hl]))) ?_
  intro x c kl' y w' cnt' hkey hl hv hat hr hlt hgr hsz hen
  obtain ⟨x', ex, rfl, hwx⟩ := Maps.keyOf_int_inv hk hkey
  cases ex
  obtain ⟨c', ec, hy, _⟩ := E.inv _ _ hv
  have hmem : (x, c') ∈ q := by
    by_cases hx : x ∈ q.map (·.1)
    · obtain ⟨p, hp, rfl⟩ := List.mem_map.1 hx
      have e1 := h3 p.1 p.2 hp .nil
      have e2 := hat .nil
      unfold kl at e1
      rw [e1] at e2
      rw [hy] at e2
      obtain rfl := E.inj _ _ e2
      exact hp
    · have e1 := h4 x (mem_key.2 hx) .nil
      have e2 := hat .nil
      unfold kl at e1
      rw [e1, hy] at e2
      exact absurd e2.symm (E.ne _)
  have hne := hr.ne
  have hmm : MapIs P k R dv w' b q := hm.fr (fr_grown hgr) (fun e => hne e.symm)
  rw [ec] at hen ⊢
  exact hMore x c' _ w' hmem (filter_out hm.nd lf hmem hl) ⟨hmm, n, D, _, cnt', hr, by omega, h3, h4, rfl⟩ (fr_grown hgr) hsz hen

theorem wpList_store_is (E : ElemK R ev dv ok) (hg : o.guard = none) (m x v : Operand) (t : TypeId) (hop : o.op = Op.mapUpdate t m x v) (e : TypeId) (hk : P.underlying k = some (.int .i64)) (ht : P.underlying t = some (.map k e))
    (hm : a.eval m = .map (some b)) (h : MapIs P k R dv w b q) (y : Int) (u : β) (hx : a.eval x = .int .i64 y) (hv : a.eval v = ev u) (hy : okI y) (hu : ok u) (hnew : y ∉ q.map (·.1)) (hl : q.length < maxLen)
    (hK : ∀ w', MapIs P k R dv w' b ((y, u) :: q) → Fr (fun j => j = b) w w' → wpList P ops Q rest (a.put o.dst undef) w') :
    wpList P ops Q (o :: rest) a w := by
  refine wpList_plain hg fun K' hK' => ?_
  obtain ⟨w', hrun, r1, r2⟩ := h.store E hk ht hy hu hnew hl
  unfold Oper.wp
  simp [execOp, hop, hm, hx, hv, hrun, Result.andThen]
  exact hK' _ _ (hK w' r1 r2)

theorem wpList_drop_is (hg : o.guard = none) (m x : Operand) (t : TypeId) (hop : o.op = Op.call { callee := Callee.builtin Builtin.delete, args := #[m, x], argTypes := #[t, k] })
    (e : TypeId) (hk : P.underlying k = some (.int .i64)) (ht : P.underlying t = some (.map k e)) (hm : a.eval m = .map (some b)) (h : MapIs P k R dv w b q) (y : Int) (hx : a.eval x = .int .i64 y) (hy : okI y)
    (hK : ∀ w', MapIs P k R dv w' b (q.filter fun p => p.1 != y) → Fr (fun j => j = b) w w' → wpList P ops Q rest (a.put o.dst (.tuple #[])) w') :
    wpList P ops Q (o :: rest) a w := by
  refine wpList_plain hg fun K' hK' => ?_
  obtain ⟨w', hrun, r1, r2⟩ := h.drop hk ht hy o.type
  unfold Oper.wp
  simp [execOp, hop, resolve, invoke, builtin, hm, hx, hrun, Result.andThen]
  exact hK' _ _ (hK w' r1 r2)
end

/-- Elements that are ints. -/
theorem elem_int {P : Program} {e : TypeId} (he : P.underlying e = some (.int .i64)) : ElemK (plainElem P e) (Value.int .i64) (fun x => .lit (kl x)) okI where
  rd x hx := ⟨[], plainElem_int he (okI_wf hx)⟩
  inv v y h := by
    obtain ⟨a, rfl, rfl, hw⟩ := plainElem_int_inv he h
    exact ⟨a, rfl, rfl, wf_okI hw⟩
  inj x y h := by injection h with h; exact kl_inj h
  ne x h := by cases h
end Go.Proofs.Ytmbabgaanpjmpaa
