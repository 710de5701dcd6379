import Derived.Test.YtmomjannlnafcaaSim8
import Derived.OrdersHeld
namespace Go.Proofs.Ytmomjannlnafcaa.Sim
set_option linter.unusedSimpArgs false
set_option linter.unusedVariables false
open Go.RowKit
/-! ### Regions that draw their order -/
section
variable {P : Program} {base : Nat} {R : Pl} {m : AM} {w : World} {n : Nat}
/-- Equality of values, as far as it is seen. -/
def beqV : Nat → Value → Value → Bool
  | 0, _, _ => false
  | _ + 1, .bool a, .bool b => a == b
  | _ + 1, .int k a, .int l b => decide (k = l) && decide (a = b)
  | _ + 1, .string a, .string b => decide (a.data = b.data)
  | _ + 1, .pointer a, .pointer b => decide (a = b)
  | _ + 1, .slice a n c, .slice b l d => decide (a = b) && decide (n = l) && decide (c = d)
  | _ + 1, .map a, .map b => decide (a = b)
  | _ + 1, .nilFunc, .nilFunc => true
  | _ + 1, .nilIface, .nilIface => true
  | f + 1, .func a b c, .func a' b' c' => decide (a = a') && decide (b.size = b'.size) && ((List.range b.size).all fun i => beqV f (b.getD i undef) (b'.getD i undef)) && decide (c.size = c'.size) && ((List.range c.size).all fun i => beqV f (c.getD i undef) (c'.getD i undef))
  | f + 1, .agg c, .agg c' => decide (c.size = c'.size) && ((List.range c.size).all fun i => beqV f (c.getD i undef) (c'.getD i undef))
  | f + 1, .tuple c, .tuple c' => decide (c.size = c'.size) && ((List.range c.size).all fun i => beqV f (c.getD i undef) (c'.getD i undef))
  | _ + 1, _, _ => false
theorem bytes_eq {a b : ByteArray} (h : a.data = b.data) : a = b := by cases a; cases b; simp at h; subst h; rfl
theorem beqV_eq : ∀ (f : Nat) (x y : Value), beqV f x y = true → x = y := by
  intro f
  induction f with
  | zero => intro x y h; simp [beqV] at h
  | succ f ih =>
    have arr : ∀ c d : Array Value, c.size = d.size → ((List.range c.size).all fun i => beqV f (c.getD i undef) (d.getD i undef)) = true → c = d := by
      intro c d hs ha
      refine ext_getD hs fun i hi => ih _ _ ?_
      have := List.all_eq_true.1 ha i (by simpa using hi)
      exact this
    intro x y h
    unfold beqV at h
    split at h
    · cases ‹_ = 0›
    · simp at h; rw [h]
    · simp at h; rw [h.1, h.2]
    · simp only [decide_eq_true_eq] at h; rw [bytes_eq h]
    · simp at h; rw [h]
    · simp at h; rw [h.1.1, h.1.2, h.2]
    · simp at h; rw [h]
    · rfl
    · rfl
    · simp only [Bool.and_eq_true, decide_eq_true_eq] at h
      obtain ⟨⟨⟨⟨h1, h2⟩, h3⟩, h4⟩, h5⟩ := h
      have e : _ = _ := ‹f + 1 = _›
      injection e with e; subst e
      rw [h1, arr _ _ h2 h3, arr _ _ h4 h5]
    · simp only [Bool.and_eq_true, decide_eq_true_eq] at h
      have e : _ = _ := ‹f + 1 = _›
      injection e with e; subst e
      rw [arr _ _ h.1 h.2]
    · simp only [Bool.and_eq_true, decide_eq_true_eq] at h
      have e : _ = _ := ‹f + 1 = _›
      injection e with e; subst e
      rw [arr _ _ h.1 h.2]
    · cases h
def beqL : List Value → List Value → Bool
  | [], [] => true
  | a :: l, b :: k => beqV 20 a b && beqL l k
  | _, _ => false
theorem beqL_eq : ∀ (l k : List Value), beqL l k = true → l = k
  | [], [], _ => rfl
  | a :: l, b :: k, h => by
    simp only [beqL, Bool.and_eq_true] at h
    rw [beqV_eq _ _ _ h.1, beqL_eq l k h.2]
  | [], _ :: _, h => by simp [beqL] at h
  | _ :: _, [], h => by simp [beqL] at h
def beqM : AM → AM → Bool
  | [], [] => true
  | none :: l, none :: k => beqM l k
  | some a :: l, some b :: k => beqL a.cells b.cells && decide (a.kind = b.kind) && decide (a.size = b.size) && beqM l k
  | _, _ => false
theorem beqM_eq : ∀ (l k : AM), beqM l k = true → l = k
  | [], [], _ => rfl
  | none :: l, none :: k, h => by rw [beqM_eq l k (by simpa [beqM] using h)]
  | some a :: l, some b :: k, h => by
    simp only [beqM, Bool.and_eq_true, decide_eq_true_eq] at h
    obtain ⟨⟨⟨h1, h2⟩, h3⟩, h4⟩ := h
    rw [beqM_eq l k h4]
    obtain ⟨c, q, s⟩ := a
    obtain ⟨c', q', s'⟩ := b
    simp only at h1 h2 h3
    rw [beqL_eq _ _ h1, h2, h3]
  | [], _ :: _, h => by simp [beqM] at h
  | none :: _, [], h => by simp [beqM] at h
  | some _ :: _, [], h => by simp [beqM] at h
  | none :: _, some _ :: _, h => by simp [beqM] at h
  | some _ :: _, none :: _, h => by simp [beqM] at h
def beqT : Tr → Tr → Bool
  | .leaf, .leaf => true
  | .node v l r, .node v' l' r' => beqV 20 v v' && beqT l l' && beqT r r'
  | _, _ => false
theorem beqT_eq : ∀ (a b : Tr), beqT a b = true → a = b
  | .leaf, .leaf, _ => rfl
  | .node v l r, .node v' l' r', h => by
    simp only [beqT, Bool.and_eq_true] at h
    rw [beqV_eq _ _ _ h.1.1, beqT_eq l l' h.1.2, beqT_eq r r' h.2]
  | .leaf, .node .., h => by simp [beqT] at h
  | .node .., .leaf, h => by simp [beqT] at h
def beqR (a b : Fr × AM) : Bool := Nat.beq a.1.size b.1.size && beqT a.1.tr b.1.tr && beqM a.2 b.2
theorem beqR_eq {a b : Fr × AM} (h : beqR a b = true) : a = b := by
  obtain ⟨⟨n1, a1⟩, a2⟩ := a
  obtain ⟨⟨n2, b1⟩, b2⟩ := b
  simp only [beqR, Bool.and_eq_true] at h
  rw [Nat.eq_of_beq_eq_true h.1.1, beqT_eq _ _ h.1.2, beqM_eq _ _ h.2]
/-- A block that nobody writes for a while. -/
def Blk.roed (b : Blk) : Blk :=
  match b.kind with
  | .own => { b with kind := .ro, size := 0 }
  | .grow => { b with kind := .ro, size := 1 }
  | _ => b
theorem Blk.roed_kind (b : Blk) : b.roed.kind.solid = false ∧ (b.roed.kind = .edge ↔ b.kind = .edge) := by
  unfold Blk.roed
  cases h : b.kind <;> simp [Kind.solid, h]
theorem BRep.roed {b : Blk} {p : Place} (h : BRep base R b p w) : BRep base R b.roed p w := by
  have hc : ∀ (j : Nat) (v : Value), b.cells[j]? = some v → ∃ v', w.cell? ⟨p.block, p.off + j, none⟩ = some v' ∧ Rel R v v' := fun j v hj => h.cell hj
  unfold Blk.roed
  split
  · rename_i hk
    refine ⟨h.1, fun _ => ?_, hc⟩
    obtain ⟨_, h⟩ := h
    rw [hk] at h
    obtain ⟨_, _, _, _, _, h4, _⟩ := h
    exact h4 rfl
  · rename_i hk
    exact ⟨h.1, (fun e => by simp at e), hc⟩
  · exact h
/-- A list's elements turned, each with its number. -/
def mapFrom {α β : Type} (f : Nat → α → β) : Nat → List α → List β
  | _, [] => []
  | i, a :: l => f i a :: mapFrom f (i + 1) l
theorem mapFrom_get {α β : Type} (f : Nat → α → β) : ∀ (l : List α) (k i : Nat), (mapFrom f k l)[i]? = (l[i]?).map (f (k + i))
  | [], _, _ => rfl
  | a :: l, k, 0 => rfl
  | a :: l, k, i + 1 => by
    have := mapFrom_get f l (k + 1) i
    simp only [mapFrom, List.getElem?_cons_succ, this]
    congr 2
    omega
theorem mapFrom_length {α β : Type} (f : Nat → α → β) : ∀ (l : List α) (k : Nat), (mapFrom f k l).length = l.length
  | [], _ => rfl
  | a :: l, k => by simp [mapFrom, mapFrom_length f l]
theorem mapFrom_get0 {α β : Type} (f : Nat → α → β) (l : List α) (i : Nat) : (mapFrom f 0 l)[i]? = (l[i]?).map (f i) := by rw [mapFrom_get]; simp
def heldM (W : List Nat) (m : AM) : AM := mapFrom (fun i b => if W.contains i then none else b.map Blk.roed) 0 m
def workM (W : List Nat) (k : Nat) (m : AM) : AM := mapFrom (fun i b => if W.contains i then b else b.map Blk.roed) 0 m ++ List.replicate k none
theorem heldM_get {W : List Nat} {i : Nat} {b : Blk} (h : (heldM W m)[i]? = some (some b)) : W.contains i = false ∧ ∃ c, m[i]? = some (some c) ∧ b = c.roed := by
  unfold heldM at h
  rw [mapFrom_get0] at h
  cases hm : m[i]? with
  | none => rw [hm] at h; cases h
  | some o =>
    rw [hm] at h
    simp only [Option.map_some, Option.some.injEq] at h
    cases hw : W.contains i with
    | true => rw [hw] at h; simp at h
    | false =>
      rw [hw] at h
      simp only [Bool.false_eq_true, if_false] at h
      cases o with
      | none => cases h
      | some c => simp at h; exact ⟨rfl, c, rfl, h.symm⟩
theorem workM_get {W : List Nat} {k i : Nat} {b : Blk} (h : (workM W k m)[i]? = some (some b)) : i < m.length ∧ ∃ c, m[i]? = some (some c) ∧ ((W.contains i = true ∧ b = c) ∨ (W.contains i = false ∧ b = c.roed)) := by
  unfold workM at h
  by_cases hl : i < m.length
  · refine ⟨hl, ?_⟩
    rw [List.getElem?_append_left (by rw [mapFrom_length]; exact hl), mapFrom_get0] at h
    cases hm : m[i]? with
    | none => rw [hm] at h; cases h
    | some o =>
      rw [hm] at h
      simp only [Option.map_some, Option.some.injEq] at h
      cases hw : W.contains i with
      | true => rw [hw] at h; simp at h; subst h; exact ⟨b, rfl, .inl ⟨rfl, rfl⟩⟩
      | false =>
        rw [hw] at h
        simp only [Bool.false_eq_true, if_false] at h
        cases o with
        | none => cases h
        | some c => simp at h; exact ⟨c, rfl, .inr ⟨rfl, h.symm⟩⟩
  · rw [List.getElem?_append_right (by rw [mapFrom_length]; omega), List.getElem?_replicate] at h
    split at h <;> cases h
theorem workM_length {W : List Nat} {k : Nat} : (workM W k m).length = m.length + k := by simp [workM, mapFrom_length]
theorem held_rep (h : MRep base R m w) (W : List Nat) : HRep base R (heldM W m) w := by
  intro i b hi
  obtain ⟨_, c, h1, rfl⟩ := heldM_get hi
  obtain ⟨p, h2, h3⟩ := h.rep i c h1
  exact ⟨p, h2, h3.roed⟩
theorem work_rep (h : MRep base R m w) (W : List Nat) (k : Nat) : MRep base R (workM W k m) w := by
  refine ⟨fun i hi => h.none_ i (by rw [workM_length] at hi; omega), fun i b hi => ?_, fun i j b c p q hi hj hb hc hij hp hq => ?_⟩
  · obtain ⟨_, c, h1, h2⟩ := workM_get hi
    obtain ⟨p, h3, h4⟩ := h.rep i c h1
    rcases h2 with ⟨_, rfl⟩ | ⟨_, rfl⟩
    · exact ⟨p, h3, h4⟩
    · exact ⟨p, h3, h4.roed⟩
  · obtain ⟨_, b0, h1, h2⟩ := workM_get hi
    obtain ⟨_, c0, h3, h4⟩ := workM_get hj
    have hb0 : b0.kind.solid = true := by
      rcases h2 with ⟨_, rfl⟩ | ⟨_, rfl⟩
      · exact hb
      · rw [b0.roed_kind.1] at hb; cases hb
    have hc0 : c0.kind ≠ .edge := by
      rcases h4 with ⟨_, rfl⟩ | ⟨_, rfl⟩
      · exact hc
      · exact fun e => hc (c0.roed_kind.2.2 e)
    exact h.apart i j b0 c0 p q h1 h3 hb0 hc0 hij hp hq
theorem owned_work {W : List Nat} {k k' : Nat} (h : Owned (workM W k m) R k') : ∃ (i : Nat) (b : Blk) (p : Place), W.contains i = true ∧ m[i]? = some (some b) ∧ b.kind.solid = true ∧ R i = some p ∧ p.block = k' := by
  obtain ⟨i, b, p, h1, h2, h3, h4⟩ := h
  obtain ⟨_, c, h5, h6⟩ := workM_get h1
  rcases h6 with ⟨hw, rfl⟩ | ⟨_, rfl⟩
  · exact ⟨i, b, p, hw, h5, h2, h3, h4⟩
  · rw [c.roed_kind.1] at h2; cases h2
/-- The heap of a block that nobody wrote. -/
theorem kept_heap {R1 : Pl} {m1 : AM} {w1 : World} {W : List Nat} {k : Nat} (h : MRep base R m w) (hp : Post base (workM W k m) m1 R R1 w w1) {i : Nat} {b : Blk} {p : Place} (hw : W.contains i = false) (hb : m[i]? = some (some b)) (he : b.kind ≠ .edge)
    (hR : R i = some p) : w1.heap[p.block]? = w.heap[p.block]? := by
  obtain ⟨q, h1, h2⟩ := h.rep i b hb
  rw [hR] at h1; injection h1 with h1; subst h1
  refine hp.keep _ h2.lt fun ho => ?_
  obtain ⟨j, c, q, k1, k2, k3, k4, k5⟩ := owned_work ho
  have hij : j ≠ i := fun e => by rw [e, hw] at k1; cases k1
  exact h.apart j i c b q p k2 hb k3 he hij k4 hR k5
theorem held_post {R1 : Pl} {m1 : AM} {w1 : World} {W : List Nat} {k : Nat} (h : MRep base R m w) (hp : Post base (workM W k m) m1 R R1 w w1) : HRep base R (heldM W m) w1 := by
  intro i b hi
  obtain ⟨hw, c, h1, rfl⟩ := heldM_get hi
  obtain ⟨p, h2, h3⟩ := h.rep i c h1
  refine ⟨p, h2, ?_⟩
  by_cases he : c.kind = .edge
  · obtain ⟨z1, z2⟩ := h3
    have hr : c.roed = c := by unfold Blk.roed; rw [he]
    rw [hr]
    refine ⟨Nat.lt_of_lt_of_le z1 hp.size, ?_⟩
    rw [he] at z2 ⊢; exact z2
  · exact h3.roed.kept (kept_heap h hp hw h1 he h2)
/-- Behind the region: what was only read is one's own again. -/
def restoreM (W : List Nat) (m m' : AM) : AM :=
  mapFrom (fun i b => if i < m.length then (if W.contains i then b else (m[i]?).getD none) else
    match b with
    | some c => if c.kind = .ro then none else some c
    | none => none) 0 m'
theorem restore_get {W : List Nat} {m' : AM} {i : Nat} {b : Blk} (h : (restoreM W m m')[i]? = some (some b)) :
    (i < m.length ∧ W.contains i = false ∧ m[i]? = some (some b)) ∨ (m'[i]? = some (some b) ∧ ((i < m.length ∧ W.contains i = true) ∨ (m.length ≤ i ∧ b.kind ≠ .ro))) := by
  unfold restoreM at h
  rw [mapFrom_get0] at h
  cases hm : m'[i]? with
  | none => rw [hm] at h; cases h
  | some o =>
    rw [hm] at h
    simp only [Option.map_some, Option.some.injEq] at h
    by_cases hl : i < m.length
    · rw [if_pos hl] at h
      cases hw : W.contains i with
      | true => rw [hw] at h; simp at h; subst h; exact .inr ⟨rfl, .inl ⟨hl, rfl⟩⟩
      | false =>
        rw [hw] at h
        simp only [Bool.false_eq_true, if_false] at h
        refine .inl ⟨hl, rfl, ?_⟩
        rw [List.getElem?_eq_getElem hl] at h ⊢
        simp at h; rw [h]
    · rw [if_neg hl] at h
      cases o with
      | none => cases h
      | some c =>
        simp only at h
        split at h
        · cases h
        · rename_i hk
          injection h with h; subst h
          exact .inr ⟨rfl, .inr ⟨by omega, hk⟩⟩
/-- What the region keeps of the elder places. -/
def Ext0 (W : List Nat) (k : Nat) (m m' : AM) : Prop := m.length + k ≤ m'.length ∧ ∀ (j : Nat) (c : Blk), j < m.length → m'[j]? = some (some c) → ∃ c0 : Blk, (workM W k m)[j]? = some (some c0) ∧ c.kind = c0.kind
theorem restore_ok {R' : Pl} {m' : AM} {w' : World} {W : List Nat} {k : Nat} (h : MRep base R m w) (hp : Post base (workM W k m) m' R R' w w') (hf : Fresh m R R') (hx : Ext0 W k m m') :
    Post base m (restoreM W m m') R R' w w' := by
  -- what is owned behind it lies in new memory, or in what could be written
  have hown : ∀ k', Owned m' R' k' → w.heap.size ≤ k' ∨ ∃ (i : Nat) (b : Blk) (p : Place), W.contains i = true ∧ m[i]? = some (some b) ∧ b.kind.solid = true ∧ R i = some p ∧ p.block = k' := fun k' ho =>
    (hp.sub k' ho).imp id owned_work
  have hold : ∀ (i : Nat) (b : Blk) (p : Place), i < m.length → W.contains i = false → m[i]? = some (some b) → R' i = some p → R i = some p ∧ BRep base R b p w := by
    intro i b p hl hw hb hR
    rw [hf i hl] at hR
    obtain ⟨q, h1, h2⟩ := h.rep i b hb
    rw [hR] at h1; injection h1 with h1; subst h1
    exact ⟨hR, h2⟩
  have hsep : ∀ (i j : Nat) (b c : Blk) (p q : Place), i < m.length → W.contains i = false → m[i]? = some (some b) → R' i = some p → b.kind ≠ .edge → m'[j]? = some (some c) → c.kind.solid = true → R' j = some q → p.block ≠ q.block := by
    intro i j b c p q hl hw hb hR hbe hc hcs hq heq
    obtain ⟨k1, k2⟩ := hold i b p hl hw hb hR
    rcases hown q.block ⟨j, c, q, hc, hcs, hq, rfl⟩ with h1 | ⟨i0, b0, p0, y1, y2, y3, y4, y5⟩
    · have := k2.lt; omega
    · exact h.apart i0 i b0 b p0 p y2 hb y3 hbe (fun e => by rw [e, hw] at y1; cases y1) y4 k1 (by rw [y5, heq])
  refine ⟨hp.le, ⟨fun i hi => hp.rep.none_ i (by simpa [restoreM, mapFrom_length] using hi), fun i b hi => ?_, fun i j b c p q hi hj hb hc hij hR hq => ?_⟩, hp.os, hp.tape, hp.output, hp.size, fun k' hk' ho => hp.keep k' hk' fun ho' => ?_, fun k' ho => ?_⟩
  · rcases restore_get hi with ⟨hl, hw, hb⟩ | ⟨hb, _⟩
    · obtain ⟨p, h1, h2⟩ := h.rep i b hb
      refine ⟨p, hp.le _ _ h1, BRep.mono ?_ hp.le⟩
      by_cases he : b.kind = .edge
      · obtain ⟨z1, z2⟩ := h2
        refine ⟨Nat.lt_of_lt_of_le z1 hp.size, ?_⟩
        rw [he] at z2 ⊢; exact z2
      · exact h2.kept (kept_heap h hp hw hb he h1)
    · exact hp.rep.rep i b hb
  · rcases restore_get hi with ⟨hl, hw, hb1⟩ | ⟨hb1, hi1⟩
    · have hbe : b.kind ≠ .edge := fun e => by rw [e] at hb; cases hb
      rcases restore_get hj with ⟨hl2, hw2, hc1⟩ | ⟨hc1, hj1⟩
      · obtain ⟨k1, _⟩ := hold i b p hl hw hb1 hR
        obtain ⟨k2, _⟩ := hold j c q hl2 hw2 hc1 hq
        exact h.apart i j b c p q hb1 hc1 hb hc hij k1 k2
      · rcases hj1 with ⟨hl2, hw2⟩ | ⟨hl2, hk2⟩
        · -- an old block that could be written
          obtain ⟨c1, e1, e2⟩ := hx.2 j c hl2 hc1
          obtain ⟨_, c0, e3, e4⟩ := workM_get e1
          rcases e4 with ⟨_, rfl⟩ | ⟨e5, _⟩
          · obtain ⟨k1, _⟩ := hold i b p hl hw hb1 hR
            rw [hf j hl2] at hq
            exact h.apart i j b c1 p q hb1 e3 hb (by rw [← e2]; exact hc) hij k1 hq
          · rw [hw2] at e5; cases e5
        · have hcs : c.kind.solid = true := by cases hk : c.kind <;> simp_all [Kind.solid]
          exact hsep i j b c p q hl hw hb1 hR hbe hc1 hcs hq
    · rcases restore_get hj with ⟨hl2, hw2, hc1⟩ | ⟨hc1, _⟩
      · exact fun e => hsep j i c b q p hl2 hw2 hc1 hq hc hb1 hb hR e.symm
      · exact hp.rep.apart i j b c p q hb1 hc1 hb hc hij hR hq
  · obtain ⟨i, b, p, _, y2, y3, y4, y5⟩ := owned_work ho'
    exact ho ⟨i, b, p, y2, y3, y4, y5⟩
  · obtain ⟨i, b, p, h1, h2, h3, h4⟩ := ho
    rcases restore_get h1 with ⟨hl, hw, hb⟩ | ⟨hb, _⟩
    · obtain ⟨k1, _⟩ := hold i b p hl hw hb h3
      exact .inr ⟨i, b, p, hb, h2, k1, h4⟩
    · rcases hown k' ⟨i, b, p, hb, h2, h3, h4⟩ with e | ⟨i0, b0, p0, y1, y2, y3, y4, y5⟩
      · exact .inl e
      · exact .inr ⟨i0, b0, p0, y2, y3, y4, y5⟩
theorem restore_ext {m' : AM} {W : List Nat} {k : Nat} (hx : Ext0 W k m m') : Ext m (restoreM W m m') := by
  refine ⟨by have := hx.1; simp [restoreM, mapFrom_length]; omega, fun j c hj hc => ?_⟩
  rcases restore_get hc with ⟨_, _, h1⟩ | ⟨h1, h2⟩
  · exact ⟨c, h1, rfl⟩
  · rcases h2 with ⟨_, hw⟩ | ⟨hl, _⟩
    · obtain ⟨c1, e1, e2⟩ := hx.2 j c hj h1
      obtain ⟨_, c0, e3, e4⟩ := workM_get e1
      rcases e4 with ⟨_, rfl⟩ | ⟨e5, _⟩
      · exact ⟨c1, e3, e2⟩
      · rw [hw] at e5; cases e5
    · omega
end
end Go.Proofs.Ytmomjannlnafcaa.Sim
