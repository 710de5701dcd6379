/- A slice of ints as an argument, opened by the reading of the row. -/
import Derived.Test.YtmomjannlnafcaaLib
import Derived.Deep.Slices
import Derived.ChangeSame
import Derived.ProofKit
namespace Go.Proofs.Ytmomjannlnafcaa
open Go.ChangeShapes Go.WideShapes Go.Deep
section
variable {H : Type} {enc : TypeId × Value → H} {w : World} {base : Nat} {spare : Nat → Bool} {held : Bool}
theorem cells3 : Try.prog.cellsOf 3 = 1 := by kernel_rfl
theorem ints_of {x : Addr} {len : Nat} {zs : List Int} (hl : len ≤ zs.length) (hc : ∀ i, i < zs.length → w.cell? (x.add i) = some (.int .i64 (zs.getD i 0))) :
    ∃ p, RI w w.heap.size (some x) len p := by
  refine ⟨zs.take len, ⟨by simp; omega, fun hn => ⟨x, rfl, ?_, fun j u hu => ?_⟩⟩⟩
  · have := World.block_lt_of_cell? w _ (hc 0 (by omega))
    rwa [block_of_add] at this
  · rw [List.getElem?_map] at hu
    by_cases hj : j < len
    · have hjz : j < zs.length := by omega
      rw [List.getElem?_take, if_pos hj, List.getElem?_eq_getElem hjz] at hu
      simp only [Option.map_some] at hu
      injection hu with hu
      rw [hc j hjz, ← hu, List.getD_eq_getElem?_getD, List.getElem?_eq_getElem hjz, Option.getD_some]
      rfl
    · rw [List.getElem?_take, if_neg hj] at hu
      cases hu
theorem open_rints {A : Option Addr} {k c : Nat} {d : DataW H} {p : List MemPlace} (h : DataW.Trod enc Try.prog w base spare held 23 (.slice A k c) d p) :
    ∃ l, k ≤ c ∧ c ≤ maxLen ∧ RI w w.heap.size A k l := by
  obtain ⟨n, h⟩ := h
  rcases open_ints Try.underlying23 Try.underlying3 cells3 h with ⟨hcs, _⟩ | ⟨x, l, c, zs, hcs, _, hl, hm, hz, _, hcell, _⟩
  · simp [Value.cells] at hcs
    obtain ⟨rfl, rfl, rfl⟩ := hcs
    exact ⟨[], Nat.le_refl _, by unfold maxLen; omega, Reads.none_⟩
  · simp [Value.cells] at hcs
    obtain ⟨rfl, rfl, rfl⟩ := hcs
    obtain ⟨q, hq⟩ := ints_of (w := w) (x := x) (len := k) (zs := zs) (by rw [hz]; split <;> omega) hcell
    exact ⟨q, hl, hm, hq⟩
end
end Go.Proofs.Ytmomjannlnafcaa
