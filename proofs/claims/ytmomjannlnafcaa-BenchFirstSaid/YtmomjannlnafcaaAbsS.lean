import Derived.Test.YtmomjannlnafcaaAbs8
import Derived.Sort.Grow
/- What the sorting of a row of ints leaves, over the abstract memory. -/
namespace Go.Proofs.Ytmomjannlnafcaa.Abs
set_option linter.unusedSimpArgs false
set_option linter.unusedVariables false
open Go.RowKit
open Go.Proofs.Ytmomjannlnafcaa.Sim
open Go.Sort
variable {base : Nat} {R : Pl} {m : AM} {w : World}
theorem rel_int_cells {l : List Int} {cur : Array Value} {off : Nat} (h : ∀ (j : Nat) (v : Value), (iv l)[j]? = some v → ∃ v', cur[off + j]? = some v' ∧ Rel R v v' ∧ v'.oneCell' = true) (j : Nat) (hj : j < l.length) : cur[off + j]? = some (.int .i64 (l.getD j 0)) := by
  obtain ⟨v', h1, h2, _⟩ := h j _ (iv_get hj)
  rw [h1]
  cases h2; rfl
theorem sorted_post {i : Nat} {b : Blk} {p : Sim.Place} {l k : List Int} {n : Nat} {os : Array Obj} (h : MRep base R m w) (hi : m[i]? = some (some b)) (hs : b.kind.solid = true) (hp : R i = some p) (hb : b.cells = iv l) (hl : k.length = l.length) :
    Post base m (m.set i (some { b with cells := iv k })) R R w (grow (putRow (Value.int .i64) (Sort.ahead w n) p.block p.off k.toArray) os) := by
  have hr := h.of hi hp
  unfold BRep at hr
  obtain ⟨hlt, hr⟩ := hr
  have key : ∃ cur ty, w.heap[p.block]? = some (.cells cur ty (0, 0)) ∧ base ≤ p.block ∧ p.off + b.cells.length + p.extra * b.size ≤ cur.size ∧ (b.kind = .own → p.extra = 0) ∧
      ∀ (j : Nat) (v : Value), b.cells[j]? = some v → ∃ v', cur[p.off + j]? = some v' ∧ Rel R v v' ∧ v'.oneCell' = true := by
    split at hr
    · rename_i e; rw [e] at hs; cases hs
    · rename_i e; rw [e] at hs; cases hs
    · exact hr
  obtain ⟨cur, ty, k1, k2, k3, k4, k5⟩ := key
  have hcl : b.cells.length = l.length := by rw [hb, iv_len]
  let w1 := putRow (Value.int .i64) (Sort.ahead w n) p.block p.off k.toArray
  have hw1 : w1.heap[p.block]? = some (.cells (putCells (Value.int .i64) p.off k.toArray cur) ty (0, 0)) := by
    simp [w1, putRow, mapBlock, Sort.ahead, Array.getElem?_modify, k1, onCells]
  have hot : ∀ q, q ≠ p.block → w1.heap[q]? = w.heap[q]? := fun q hq => by
    simp only [w1, putRow, mapBlock, Sort.ahead, Array.getElem?_modify]
    rw [if_neg (Ne.symm hq)]
  have hsz : w1.heap.size = w.heap.size := by simp [w1, putRow, mapBlock, Sort.ahead]
  have hm1 : MRep base R (m.set i (some { b with cells := iv k })) w1 := by
    refine h.turn hi hs hp _ hs ?_ hot hsz
    unfold BRep
    refine ⟨by rw [hsz]; exact hlt, ?_⟩
    split
    · rename_i e; rw [e] at hs; cases hs
    · rename_i e; rw [e] at hs; cases hs
    · refine ⟨_, ty, hw1, k2, ?_, fun e => k4 e, fun j v hj => ?_⟩
      · simp only [putCells, Array.size_mapIdx, iv_len]
        rw [hl, ← hcl]; exact k3
      · simp only at hj
        have hjl : j < k.length := by
          have := (List.getElem?_eq_some_iff.1 hj).1
          simpa [iv_len] using this
        rw [iv_get hjl] at hj
        injection hj with hj; subst hj
        refine ⟨.int .i64 (k.getD j 0), ?_, .int _ _, rfl⟩
        have hcs : p.off + j < cur.size := by omega
        simp only [putCells, Array.getElem?_mapIdx, Array.getElem?_eq_getElem hcs, Option.map_some, Option.some.injEq]
        rw [if_pos ⟨by omega, by simpa using hjl⟩, Nat.add_sub_cancel_left]
        simp [hjl]
  refine ⟨.refl R, hm1.kept (fun q hq => ?_), rfl, rfl, rfl, by rw [size_grow]; show w.heap.size ≤ w1.heap.size + _; omega, fun q hq ho => ?_, fun q ho => .inr ?_⟩
  · simp only [grow]
    rw [Array.getElem?_append_left hq]
  · show (grow w1 os).heap[q]? = _
    simp only [grow]
    rw [Array.getElem?_append_left (by omega), hot q (fun e => ho ⟨i, b, p, hi, hs, hp, e.symm⟩)]
  · obtain ⟨j, c, q', q1, q2, q3, q4⟩ := ho
    by_cases e : j = i
    · subst e; exact ⟨j, b, q', hi, hs, q3, q4⟩
    · rw [List.getElem?_set_ne (fun x => e x.symm)] at q1
      exact ⟨j, c, q', q1, q2, q3, q4⟩
theorem holds_of {i : Nat} {b : Blk} {p : Sim.Place} {l : List Int} (h : MRep base R m w) (hi : m[i]? = some (some b)) (hs : b.kind.solid = true) (hp : R i = some p) (hb : b.cells = iv l) : Holds (Value.int .i64) w p.block p.off l.toArray ∧ p.block < w.heap.size := by
  have hr := h.of hi hp
  unfold BRep at hr
  obtain ⟨hlt, hr⟩ := hr
  refine ⟨fun j hj => ?_, hlt⟩
  have key : ∃ cur ty, w.heap[p.block]? = some (.cells cur ty (0, 0)) ∧
      ∀ (j : Nat) (v : Value), b.cells[j]? = some v → ∃ v', cur[p.off + j]? = some v' ∧ Rel R v v' ∧ v'.oneCell' = true := by
    split at hr
    · rename_i e; rw [e] at hs; cases hs
    · rename_i e; rw [e] at hs; cases hs
    · obtain ⟨cur, ty, a1, _, _, _, a5⟩ := hr; exact ⟨cur, ty, a1, a5⟩
  obtain ⟨cur, ty, k1, k5⟩ := key
  have hj' : j < l.length := by simpa using hj
  refine ⟨?_, ?_⟩
  · simp only [World.cell?, k1]
    rw [rel_int_cells (by rw [hb] at k5; exact k5) j hj']
    simp [hj']
  · simp [World.frozen?, k1]
/-- A contract of a sorting of ints, over the abstract memory. -/
theorem sort_call {P : Program} {f : FuncId} {i n : Nat} {b : Blk} {l k : List Int} (hi : m[i]? = some (some b)) (hs : b.kind.solid = true) (hb : b.cells = iv l) (hn : n = l.length) (hl : k.length = l.length)
    (h : ∀ (blk off cap : Nat) (w : World), Holds (Value.int .i64) w blk off l.toArray → blk < w.heap.size → Calls P f #[.slice (some ⟨blk, off, none⟩) l.length cap] w fun e w' => e = .returned (.tuple #[]) ∧ ∃ n os, w' = grow (putRow (Value.int .i64) (Sort.ahead w n) blk off k.toArray) os) :
    ACall P f #[.slice (some ⟨i, 0, none⟩) n n] m (fun v m' => v = .tuple #[] ∧ m' = m.set i (some { b with cells := iv k })) := by
  subst hn
  intro base R w args' hbase hm hargs
  have h1 := hargs.1
  have h2 := hargs.2 0 (by simp)
  obtain ⟨x, rfl⟩ : ∃ x, args' = #[x] := ⟨args'[0]'(by simp at h1; omega), by
    apply Array.ext
    · simp at h1; simp; omega
    · intro j a b; have : j = 0 := by simp at b; omega
      subst this; rfl⟩
  simp at h2
  cases h2 with
  | slice _ _ _ _ p hp hle =>
    obtain ⟨hH, hlt⟩ := holds_of hm hi hs hp hb
    refine (h p.block (p.off + 0) (l.length + p.extra) w hH hlt).mono ?_
    rintro e w' ⟨rfl, n, os, rfl⟩
    exact ⟨.tuple #[], .tuple #[], R, _, rfl, .tuple _ _ rfl (fun i hi => absurd hi (by simp)), sorted_post hm hi hs hp hb hl, rfl, rfl⟩
end Go.Proofs.Ytmomjannlnafcaa.Abs
