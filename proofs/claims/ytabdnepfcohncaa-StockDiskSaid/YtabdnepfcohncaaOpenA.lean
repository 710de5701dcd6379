/- A slice of acts, opened. -/
import Derived.Test.YtabdnepfcohncaaF3
import Derived.Test.YtabdnepfcohncaaOpen
namespace Go.Proofs.Ytabdnepfcohncaa
open Go.ChangeShapes Go.WideShapes Go.Deep
section
variable {H : Type} {enc : TypeId × Value → H} {w : World} {base : Nat} {spare : Nat → Bool} {held : Bool}
theorem open_acts {d : DataW H} {p : List MemPlace} {A : Option Addr} {len c : Nat} (h : DataW.Trod enc Try.prog w base spare held 35 (.slice A len c) d p) :
    ∃ acts : List ActD, acts.length = len ∧ ActsIn w w.heap.size A acts ∧ len ≤ maxLen := by
  obtain ⟨fuel, hf⟩ := h
  rcases open_slice_fields Try.underlying35 Try.underlying43 (by kernel_rfl) (by kernel_rfl) hf with ⟨hcs, _⟩ | ⟨a, l, cap, m, D, Pl, hcs, _, hl, hm, hmm, _, hi⟩
  · simp [Value.cells] at hcs
    obtain ⟨rfl, rfl, rfl⟩ := hcs
    exact ⟨[], rfl, ⟨(fun _ h => nomatch h), fun h => nomatch h⟩, by unfold maxLen; omega⟩
  · simp [Value.cells] at hcs
    obtain ⟨rfl, rfl, rfl⟩ := hcs
    have hlm : len ≤ m := by rw [hmm]; split <;> omega
    have key : ∀ i : Nat, ∃ x : ActD, i < len → ActOk w w.heap.size x ∧ w.cell? (a.add (i * 4)) = some (.int .i64 x.kind) ∧ w.cell? (a.add (i * 4 + 1)) = some (.int .i64 x.n) ∧ w.cell? (a.add (i * 4 + 2)) = some (.int .i64 x.m) ∧ w.cell? (a.add (i * 4 + 3)) = some (.slice x.A x.k x.c) := by
      intro i
      by_cases hil : i < len
      · obtain ⟨ys, n, _, _, _, hf⟩ := hi i (by omega)
        obtain ⟨v0, y0, c0, _, t0⟩ := hf 0 _ rfl
        obtain ⟨v1, y1, c1, _, t1⟩ := hf 1 _ rfl
        obtain ⟨v2, y2, c2, _, t2⟩ := hf 2 _ rfl
        obtain ⟨v3, y3, c3, _, t3⟩ := hf 3 _ rfl
        obtain ⟨n0, e0, _, _⟩ := DataW.trod_int Try.underlying3 t0
        obtain ⟨n1, e1, _, b1⟩ := DataW.trod_int Try.underlying3 t1
        obtain ⟨n2, e2, _, _⟩ := DataW.trod_int Try.underlying3 t2
        obtain ⟨A3, k3, z3, l3, rfl, hk, hz, hr⟩ := open_bytes t3
        simp at e0 e1 e2
        subst e0 e1 e2
        exact ⟨⟨n0, n1, n2, A3, k3, z3⟩, fun _ => ⟨⟨(bounds_i64 b1).2, hk, hz, ⟨l3, hr⟩⟩, c0, c1, c2, c3⟩⟩
      · exact ⟨⟨0, 0, 0, none, 0, 0⟩, fun h => absurd h hil⟩
    obtain ⟨f, hf⟩ := Classical.axiomOfChoice key
    refine ⟨(List.range len).map f, by simp, ⟨?_, fun h0 => ⟨a, rfl, ?_, ?_⟩⟩, by omega⟩
    · intro x hx
      obtain ⟨i, hi, rfl⟩ := List.mem_map.1 hx
      exact (hf i (List.mem_range.1 hi)).1
    · have := World.block_lt_of_cell? w _ (hf 0 (by simpa using h0)).2.1
      rwa [block_of_add] at this
    · intro i hi
      simp only [List.getElem_map, List.getElem_range]
      exact (hf i (by simpa using hi)).2
end
end Go.Proofs.Ytabdnepfcohncaa
