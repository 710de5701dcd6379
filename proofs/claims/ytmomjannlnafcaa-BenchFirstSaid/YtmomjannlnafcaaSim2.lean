import Derived.Test.YtmomjannlnafcaaSim1
import Derived.Room.Entries
namespace Go.Proofs.Ytmomjannlnafcaa.Sim
set_option linter.unusedSimpArgs false
set_option linter.unusedVariables false
open Go.RowKit
/-! ### Reading and writing -/
section
variable {P : Program} {base : Nat} {R : Pl} {m : AM} {w : World}
theorem BRep.cell {b : Blk} {p : Place} (h : BRep base R b p w) {j : Nat} {v : Value} (hj : b.cells[j]? = some v) : ∃ v', w.cell? ⟨p.block, p.off + j, none⟩ = some v' ∧ Rel R v v' := by
  unfold BRep at h
  obtain ⟨_, h⟩ := h
  split at h
  · exact h.2 j v hj
  · rw [h.1] at hj; simp at hj
  · obtain ⟨cur, ty, h1, _, _, _, h5⟩ := h
    obtain ⟨v', k1, k2, _⟩ := h5 j v hj
    exact ⟨v', by simp [World.cell?, h1, k1], k2⟩
theorem MRep.at_ (h : MRep base R m w) {i : Nat} {b : Blk} (hi : m[i]? = some (some b)) : ∃ p, R i = some p ∧ BRep base R b p w := by
  exact h.rep i b hi
theorem MRep.of (h : MRep base R m w) {i : Nat} {b : Blk} (hi : m[i]? = some (some b)) {p : Place} (hp : R i = some p) : BRep base R b p w := by
  obtain ⟨q, h1, h2⟩ := h.at_ hi
  rw [hp] at h1; injection h1 with h1; rw [h1]; exact h2
/-- A list of cells, each as the abstract one. -/
def RelL (R : Pl) (l l' : List Value) : Prop := l.length = l'.length ∧ ∀ (j : Nat) (v : Value), l[j]? = some v → ∃ v', l'[j]? = some v' ∧ Rel R v v'
theorem RelL.rels {l l' : List Value} (h : RelL R l l') : Rels R l.toArray l'.toArray := by
  refine ⟨by simpa using h.1, fun i hi => ?_⟩
  simp at hi
  obtain ⟨v', h1, h2⟩ := h.2 i l[i] (by simp [hi])
  simp [hi, h1, h2]
theorem Rels.relL {c c' : Array Value} (h : Rels R c c') : RelL R c.toList c'.toList := by
  refine ⟨by simpa using h.1, fun j v hj => ?_⟩
  have hj' : c[j]? = some v := by simpa using hj
  have hl : j < c.size := (Array.getElem?_eq_some_iff.1 hj').1
  have h1 := h.1
  have h2 := h.2 j hl
  refine ⟨c'[j]'(by omega), by simp [show j < c'.size by omega], ?_⟩
  simpa [hj', show j < c'.size by omega] using h2
theorem RelL.app {l l' k k' : List Value} (h : RelL R l l') (g : RelL R k k') : RelL R (l ++ k) (l' ++ k') := by
  refine ⟨by simp [h.1, g.1], fun j v hj => ?_⟩
  by_cases hl : j < l.length
  · rw [List.getElem?_append_left hl] at hj
    rw [List.getElem?_append_left (by rw [← h.1]; exact hl)]
    exact h.2 j v hj
  · rw [List.getElem?_append_right (by omega)] at hj
    rw [List.getElem?_append_right (by rw [← h.1]; omega), ← h.1]
    exact g.2 _ v hj
theorem RelL.take {l l' : List Value} (h : RelL R l l') (n : Nat) : RelL R (l.take n) (l'.take n) := by
  refine ⟨by simp [h.1], fun j v hj => ?_⟩
  rw [List.getElem?_take] at hj ⊢
  split at hj
  · rename_i hlt; rw [if_pos hlt]; exact h.2 j v hj
  · cases hj
theorem RelL.drop {l l' : List Value} (h : RelL R l l') (n : Nat) : RelL R (l.drop n) (l'.drop n) := by
  refine ⟨by simp [h.1], fun j v hj => ?_⟩
  rw [List.getElem?_drop] at hj ⊢
  exact h.2 _ v hj
theorem RelL.mono {R' : Pl} {l l' : List Value} (h : RelL R l l') (hR : R.le R') : RelL R' l l' := ⟨h.1, fun j v hj => by obtain ⟨v', h1, h2⟩ := h.2 j v hj; exact ⟨v', h1, h2.mono hR⟩⟩
theorem RelL.nil : RelL R [] [] := ⟨rfl, fun j v h => by simp at h⟩
theorem RelL.cons {v v' : Value} {l l' : List Value} (hv : Rel R v v') (h : RelL R l l') : RelL R (v :: l) (v' :: l') := by
  refine ⟨by simp [h.1], fun j u hj => ?_⟩
  cases j with
  | zero => simp at hj; subst hj; exact ⟨v', rfl, hv⟩
  | succ j => exact h.2 j u (by simpa using hj)
theorem Rel.one {v v' : Value} (h : Rel R v v') : v'.oneCell' = v.oneCell' := by cases h <;> rfl
theorem RelL.one {l l' : List Value} (h : RelL R l l') (h1 : ∀ v ∈ l, v.oneCell' = true) : ∀ v ∈ l', v.oneCell' = true := by
  intro v hv
  obtain ⟨j, hj, rfl⟩ := List.getElem_of_mem hv
  have hl := h.1
  obtain ⟨v', k1, k2⟩ := h.2 j (l[j]'(by omega)) (by simp)
  rw [List.getElem?_eq_getElem hj] at k1
  injection k1 with k1
  rw [k1, k2.one]
  exact h1 _ (List.getElem_mem _)
theorem Rel.cells {v v' : Value} (h : Rel R v v') : Rels R v.cells v'.cells := by
  cases h with
  | agg c c' h1 h2 => exact ⟨h1, h2⟩
  | bool b => exact ⟨rfl, fun i hi => by simp [Value.cells] at hi; subst hi; simpa [Value.cells] using Rel.bool (R := R) b⟩
  | int k n => exact ⟨rfl, fun i hi => by simp [Value.cells] at hi; subst hi; simpa [Value.cells] using Rel.int (R := R) k n⟩
  | float k n => exact ⟨rfl, fun i hi => by simp [Value.cells] at hi; subst hi; simpa [Value.cells] using Rel.float (R := R) k n⟩
  | complex k n m => exact ⟨rfl, fun i hi => by simp [Value.cells] at hi; subst hi; simpa [Value.cells] using Rel.complex (R := R) k n m⟩
  | string s => exact ⟨rfl, fun i hi => by simp [Value.cells] at hi; subst hi; simpa [Value.cells] using Rel.string (R := R) s⟩
  | ptrNil => exact ⟨rfl, fun i hi => by simp [Value.cells] at hi; subst hi; simpa [Value.cells] using Rel.ptrNil (R := R)⟩
  | ptr i o p h => exact ⟨rfl, fun i hi => by simp [Value.cells] at hi; subst hi; simpa [Value.cells] using Rel.ptr _ o p h⟩
  | sliceNil => exact ⟨rfl, fun i hi => by simp [Value.cells] at hi; subst hi; simpa [Value.cells] using Rel.sliceNil (R := R)⟩
  | slice i o n c p h hn => exact ⟨rfl, fun i hi => by simp [Value.cells] at hi; subst hi; simpa [Value.cells] using Rel.slice _ o n c p h hn⟩
  | mapNil => exact ⟨rfl, fun i hi => by simp [Value.cells] at hi; subst hi; simpa [Value.cells] using Rel.mapNil (R := R)⟩
  | nilFunc => exact ⟨rfl, fun i hi => by simp [Value.cells] at hi; subst hi; simpa [Value.cells] using Rel.nilFunc (R := R)⟩
  | nilIface => exact ⟨rfl, fun i hi => by simp [Value.cells] at hi; subst hi; simpa [Value.cells] using Rel.nilIface (R := R)⟩
  | func fn f c f' c' h1 h2 h3 h4 => exact ⟨rfl, fun i hi => by simp [Value.cells] at hi; subst hi; simpa [Value.cells] using Rel.func fn f c f' c' h1 h2 h3 h4⟩
  | tuple c c' h1 h2 => exact ⟨rfl, fun i hi => by simp [Value.cells] at hi; subst hi; simpa [Value.cells] using Rel.tuple c c' h1 h2⟩
/-- The cells of a block from o on. -/
theorem BRep.cells {b : Blk} {p : Place} (h : BRep base R b p w) (o n : Nat) (hn : o + n ≤ b.cells.length) :
    ∃ l', RelL R ((b.cells.drop o).take n) l' ∧ ∀ j v', l'[j]? = some v' → w.cell? ((⟨p.block, p.off + o, none⟩ : Addr).add j) = some v' := by
  let f : Nat → Value := fun j => (w.cell? ⟨p.block, p.off + (o + j), none⟩).getD undef
  refine ⟨(List.range n).map f, ⟨by simp; omega, fun j v hj => ?_⟩, fun j v' hj => ?_⟩
  · rw [List.getElem?_take] at hj
    split at hj
    · rename_i hlt
      rw [List.getElem?_drop] at hj
      obtain ⟨v', k1, k2⟩ := h.cell hj
      exact ⟨v', by simp [hlt, f, k1], k2⟩
    · cases hj
  · by_cases hlt : j < n
    · simp [hlt] at hj
      subst hj
      have hb : b.cells[o + j]? = some (b.cells[o + j]'(by omega)) := by simp
      obtain ⟨v', k1, _⟩ := h.cell hb
      simp [Addr.add_lit, f, Nat.add_assoc, k1]
    · rw [List.getElem?_eq_none (by simp; omega)] at hj
      cases hj
def splice (l : List Value) (o : Nat) (xs : List Value) : List Value := l.take o ++ xs ++ l.drop (o + xs.length)
theorem splice_length {l : List Value} {o : Nat} {xs : List Value} (h : o + xs.length ≤ l.length) : (splice l o xs).length = l.length := by
  simp [splice]; omega
theorem splice_get {l : List Value} {o : Nat} {xs : List Value} (h : o + xs.length ≤ l.length) (j : Nat) :
    (splice l o xs)[j]? = if j < o then l[j]? else if j < o + xs.length then xs[j - o]? else l[j]? := by
  unfold splice
  by_cases h1 : j < o
  · rw [if_pos h1, List.append_assoc, List.getElem?_append_left (by simp; omega), List.getElem?_take, if_pos h1]
  · rw [if_neg h1, List.append_assoc, List.getElem?_append_right (by simp; omega)]
    have hl : (l.take o).length = o := by simp; omega
    rw [hl]
    by_cases h2 : j < o + xs.length
    · rw [if_pos h2, List.getElem?_append_left (by omega)]
    · rw [if_neg h2, List.getElem?_append_right (by omega), List.getElem?_drop]
      congr 1
      omega
/-- Writing cells into a block of one's own. -/
theorem write_ok (h : MRep base R m w) {i : Nat} {b : Blk} (hi : m[i]? = some (some b)) (hk : b.kind.solid = true) {p : Place} (hp : R i = some p) {o : Nat} {xs xs' : List Value}
    (hx : RelL R xs xs') (h1 : ∀ v ∈ xs, v.oneCell' = true) (hfit : o + xs.length ≤ b.cells.length) :
    ∃ w', (storeCells ⟨p.block, p.off + o, none⟩ xs').run P w = .ok () w' ∧ Post base m (m.set i (some { b with cells := splice b.cells o xs })) R R w w' := by
  have hr := h.of hi hp
  have hr0 := hr
  unfold BRep at hr
  obtain ⟨hlt, hr⟩ := hr
  have hli : i < m.length := (List.getElem?_eq_some_iff.1 hi).1
  split at hr
  · rename_i e; rw [e] at hk; cases hk
  · rename_i e; rw [e] at hk; cases hk
  · rename_i k hk2
    obtain ⟨cur, ty, k1, k2, k3, k4, k5⟩ := hr
    have hxl := hx.1
    have hst := run_storeCells_at P p.block (p.off + o) ty xs' 0 cur w k1 (by omega) (hx.one h1)
    simp only [Nat.add_zero] at hst
    refine ⟨_, hst, .refl R, h.turn hi hk hp _ hk ?_ ?_ ?_, rfl, rfl, rfl, by simp [World.setRow], fun k' hk' ho => ?_, fun k' ho => ?_⟩
    · unfold BRep
      refine ⟨by simpa [World.setRow] using hlt, ?_⟩
      split
      · rename_i e; rw [e] at hk; cases hk
      · rename_i e; rw [e] at hk; cases hk
      · rename_i k' hk'
        refine ⟨_, ty, setRow_heap w p.block cur _ ty (0, 0) k1, k2, ?_, fun e => k4 e, fun j v hj => ?_⟩
        · simp only [splice_length hfit, List.size_toArray, List.length_append, List.length_take, List.length_drop, Array.length_toList]
          omega
        · simp only at hj
          rw [splice_get hfit] at hj
          simp only [List.getElem?_toArray]
          have hg := splice_get (l := cur.toList) (o := p.off + o) (xs := xs') (by simp; omega) (p.off + j)
          unfold splice at hg
          rw [hg]
          by_cases c1 : j < o
          · rw [if_pos c1] at hj
            rw [if_pos (by omega)]
            obtain ⟨v', q1, q2⟩ := k5 j v hj
            exact ⟨v', by simpa using q1, q2⟩
          · rw [if_neg c1] at hj
            rw [if_neg (by omega)]
            by_cases c2 : j < o + xs.length
            · rw [if_pos c2] at hj
              rw [if_pos (by omega)]
              obtain ⟨v', q1, q2⟩ := hx.2 _ v hj
              refine ⟨v', by rw [← q1]; congr 1; omega, q2, ?_⟩
              rw [q2.one]
              exact h1 v (List.mem_of_getElem? hj)
            · rw [if_neg c2] at hj
              rw [if_neg (by omega)]
              obtain ⟨v', q1, q2⟩ := k5 j v hj
              exact ⟨v', by simpa using q1, q2⟩
    · intro k' hne
      simp only [World.setRow, Array.getElem?_modify]
      rw [if_neg (by omega)]
    · simp [World.setRow]
    · simp only [World.setRow, Array.getElem?_modify]
      rw [if_neg (fun e => ho ⟨i, b, p, hi, hk, hp, e⟩)]
    · refine .inr ?_
      obtain ⟨j, c, q, q1, q2, q3, q4⟩ := ho
      by_cases e : j = i
      · subst e
        exact ⟨j, b, q, hi, hk, q3, q4⟩
      · rw [List.getElem?_set_ne (fun x => e x.symm)] at q1
        exact ⟨j, c, q, q1, q2, q3, q4⟩
/-- A new block with these cells, at a free place. -/
theorem put_ok (h : MRep base R m w) (hbase : base ≤ w.heap.size) (n : Nat) (hn : n < m.length) (hfree : m[n]? = some none) (hR : R n = none) (ty : TypeId) {l : List Value} {c' : Array Value} (hx : RelL R l c'.toList)
    (h1 : ∀ v ∈ l, v.oneCell' = true) :
    Post base m (m.set n (some { cells := l })) R (R.put n ⟨w.heap.size, 0, 0⟩) w (w.alloc (.cells c' ty)) := by
  have hb : Below w.heap.size w (w.alloc (.cells c' ty)) := (Below.refl _ _).alloc (Nat.le_refl _) _
  obtain ⟨k1, k2⟩ := h.put (w' := w.alloc (.cells c' ty)) n hn hfree hR { cells := l } ⟨w.heap.size, 0, 0⟩ hb.block rfl (by
    refine ⟨by simp, c', ty, heap_alloc_new w _, hbase, ?_, fun _ => rfl, fun j v hj => ?_⟩
    · have := hx.1; simp at this ⊢; omega
    · obtain ⟨v', q1, q2⟩ := hx.2 j v hj
      refine ⟨v', by simpa using q1, q2, ?_⟩
      rw [q2.one]; exact h1 v (List.mem_of_getElem? hj))
  refine ⟨k1, k2, rfl, rfl, rfl, hb.size, fun k hk _ => hb.block k hk, fun k ho => ?_⟩
  obtain ⟨j, c, q, q1, q2, q3, q4⟩ := ho
  by_cases e : j = n
  · subst e
    rw [Pl.put_same] at q3
    injection q3 with q3
    subst q3
    exact .inl (by rw [← q4]; exact Nat.le_refl _)
  · rw [List.getElem?_set_ne (fun x => e x.symm)] at q1
    rw [Pl.put_other _ _ e] at q3
    exact .inr ⟨j, c, q, q1, q2, q3, q4⟩
end
end Go.Proofs.Ytmomjannlnafcaa.Sim
