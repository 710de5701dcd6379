/- What the walks are told of a slice of bytes that came in. -/
import Derived.Test.YtabdnepfcohncaaLib
import Derived.OpenShut
namespace Go.Proofs.Ytabdnepfcohncaa
open Go.RowKit
/-- A slice of integers that came in: it is nil; or it leads to a row of 'cap' cells, the numbers 'zs' (the first 'len' are its elements), each fitting its kind. -/
def IsRow (k : IntKind) (w : World) (a : Option Addr) (len cap : Nat) (zs : List Int) : Prop :=
  (a = none ∧ len = 0 ∧ cap = 0 ∧ zs = []) ∨
  ∃ x, a = some x ∧ len ≤ cap ∧ cap ≤ maxLen ∧ zs.length = cap ∧ (∀ i, i < zs.length → w.cell? (x.add i) = some (.int k (zs.getD i 0))) ∧ ∀ n ∈ zs, (Lit.int k n).wf = true
theorem IsRow.bytes {w : World} {a : Option Addr} {len cap : Nat} {zs : List Int} (h : IsRow .u8 w a len cap zs) : ∃ p, RB w w.heap.size a len p ∧ len ≤ cap ∧ cap ≤ maxLen := by
  rcases h with ⟨rfl, rfl, rfl, rfl⟩ | ⟨x, rfl, hl, hm, hz, hc, hw⟩
  · exact ⟨[], RB.zero _ _ _, Nat.le_refl _, by unfold maxLen; omega⟩
  · refine ⟨(zs.take len).map fun n => UInt8.ofNat n.toNat, ⟨by simp; omega, fun hn => ⟨x, rfl, ?_, fun j u hu => ?_⟩⟩, hl, hm⟩
    · have := World.block_lt_of_cell? w _ (hc 0 (by omega))
      rwa [block_of_add] at this
    · rw [List.getElem?_map, List.getElem?_map] at hu
      by_cases hj : j < len
      · have hjz : j < zs.length := by omega
        rw [List.getElem?_take, if_pos hj, List.getElem?_eq_getElem hjz] at hu
        simp only [Option.map_some] at hu
        injection hu with hu
        rw [hc j hjz, ← hu, List.getD_eq_getElem?_getD, List.getElem?_eq_getElem hjz, Option.getD_some]
        have hb := bounds_u8 (hw _ (List.getElem_mem hjz))
        have h1 : (UInt8.ofNat zs[j].toNat).toNat = zs[j].toNat := by
          rw [UInt8.toNat_ofNat']; exact Nat.mod_eq_of_lt (by omega)
        rw [B8, h1]
        congr 2
        omega
      · rw [List.getElem?_take, if_neg hj] at hu
        cases hu
end Go.Proofs.Ytabdnepfcohncaa
