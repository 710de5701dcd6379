/- Chapter 8: the reference's Johnson; BenchJohnson walked. -/
import Derived.Test.YtmomjannlnafcaaJ3
namespace Go.Proofs.Ytmomjannlnafcaa.Abs
set_option linter.unusedSimpArgs false
set_option linter.unusedVariables false
open Go.RowKit
open Go.Proofs.Ytmomjannlnafcaa.Sim
open Go.Proofs
/-! ### a place is the number of those before it -/
theorem countP_take {S : List Int} {le : Int → Int → Bool} (hT : TO le) (hs : Srt le S) (hn : S.Nodup) {k : Nat} (hk : k < S.length) : S.countP (fun b => decide (b ≠ S[k]) && le b S[k]) = k := by
  have e : S = S.take k ++ S[k] :: S.drop (k + 1) := by
    rw [← List.drop_eq_getElem_cons hk, List.take_append_drop]
  have hs' := hs
  have hn' := hn
  unfold Srt at hs'
  generalize hx : S[k] = x at *
  rw [e] at hs' hn'
  obtain ⟨s1, s2, s3⟩ := List.pairwise_append.1 hs'
  obtain ⟨n1, n2, n3⟩ := List.nodup_append.1 hn'
  obtain ⟨t1, t2⟩ := List.pairwise_cons.1 s2
  obtain ⟨d1, d2⟩ := List.nodup_cons.1 n2
  rw [e, List.countP_append, List.countP_cons]
  have h1 : (S.take k).countP (fun b => decide (b ≠ x) && le b x) = k := by
    have : (S.take k).countP (fun b => decide (b ≠ x) && le b x) = (S.take k).length := by
      rw [List.countP_eq_length]
      intro b hb
      simp only [Bool.and_eq_true, decide_eq_true_eq]
      exact ⟨fun h => n3 b hb x (by simp) h, s3 b hb x (by simp)⟩
    rw [this]; simp; omega
  have h2 : (S.drop (k + 1)).countP (fun b => decide (b ≠ x) && le b x) = 0 := by
    rw [List.countP_eq_zero]
    intro b hb
    simp only [Bool.and_eq_true, decide_eq_true_eq, not_and]
    intro hne hle
    exact hne (hT.an b x hle (t1 b hb))
  rw [h1, h2]
  simp
/-- The place of an index in the sorted row. -/
def rankJ (le : Int → Int → Bool) (n : Nat) (a : Int) : Nat := (upI n).countP (fun b => decide (b ≠ a) && le b a)
theorem rank_at {le : Int → Int → Bool} (hT : TO le) {n k : Nat} (hk : k < n) : rankJ le n ((ms le (upI n)).getD k 0) = k := by
  have hl : (ms le (upI n)).length = n := by rw [ms_len, upI_len]
  have hnd : (ms le (upI n)).Nodup := (ms_perm.nodup_iff).2 (upI_nodup n)
  have := countP_take hT (ms_srt hT) hnd (k := k) (by omega)
  unfold rankJ
  rw [show (ms le (upI n)).getD k 0 = (ms le (upI n))[k]'(by omega) by simp [show k < (ms le (upI n)).length by omega]]
  exact ((ms_perm (le := le) (l := upI n)).countP_eq _).symm.trans this
theorem rank_of {le : Int → Int → Bool} (hT : TO le) {n : Nat} {a : Int} (ha : 0 ≤ a ∧ a < n) : rankJ le n a < n ∧ (ms le (upI n)).getD (rankJ le n a) 0 = a := by
  have hl : (ms le (upI n)).length = n := by rw [ms_len, upI_len]
  have : a ∈ ms le (upI n) := ms_mem.2 (mem_upI.2 ha)
  obtain ⟨k, hk, rfl⟩ := List.getElem_of_mem this
  have h1 := rank_at hT (le := le) (n := n) (k := k) (by omega)
  rw [show (ms le (upI n)).getD k 0 = (ms le (upI n))[k]'(by omega) by simp [hk]] at h1
  rw [h1]
  exact ⟨by omega, by simp [hk]⟩
theorem aheadT_eq (x y : Two) {a b : Nat} (h : b ≠ a) : aheadT x y b a = decide (jK x < jK y ∨ jK x = jK y ∧ (jV x < jV y ∨ jV x = jV y ∧ (b : Int) ≤ (a : Int))) := by
  unfold aheadT
  rw [Bool.eq_iff_iff]
  simp only [jK, jV, decide_eq_true_eq]
  by_cases f1 : x.cut ≤ x.sew <;> by_cases f2 : y.cut ≤ y.sew <;> simp [f1, f2]
  · by_cases f3 : x.cut = y.cut <;> simp [f3] <;> omega
  · by_cases f3 : x.sew = y.sew <;> simp [f3] <;> omega
theorem aheadT_le {j : List Two} {a b : Nat} (h : b ≠ a) : aheadT (j.getD b default) (j.getD a default) b a = leJ j b a := by
  rw [aheadT_eq _ _ h]
  simp only [leJ, Int.toNat_natCast]
/-- The row after a rounds. -/
def rowJ (S : List Int) (a : Nat) : List Int := S.map fun x => if x < (a : Int) then x else 0
theorem rowJ_set {le : Int → Int → Bool} (hT : TO le) {n a : Nat} (ha : a < n) : (rowJ (ms le (upI n)) a).set (rankJ le n a) a = rowJ (ms le (upI n)) (a + 1) := by
  have hl : (ms le (upI n)).length = n := by rw [ms_len, upI_len]
  obtain ⟨r1, r2⟩ := rank_of hT (le := le) (n := n) (a := a) (by omega)
  apply List.ext_getElem?
  intro k
  by_cases hk : k < n
  · have hr := rank_at hT (le := le) (n := n) (k := k) hk
    have e : (ms le (upI n))[k]? = some ((ms le (upI n)).getD k 0) := by simp [show k < (ms le (upI n)).length by omega]
    by_cases hx : rankJ le n a = k
    · rw [hx, List.getElem?_set_self (by simp [rowJ, hl, hk])]
      rw [hx] at r2
      simp only [rowJ, List.getElem?_map, e, Option.map_some, r2]
      rw [if_pos (by omega)]
    · rw [List.getElem?_set_ne hx]
      simp only [rowJ, List.getElem?_map, e, Option.map_some]
      generalize hy : (ms le (upI n)).getD k 0 = y at *
      have : y ≠ a := fun h => hx (by rw [← h]; exact hr)
      by_cases h1 : y < a
      · rw [if_pos h1, if_pos (by omega)]
      · rw [if_neg h1, if_neg (by omega)]
  · rw [List.getElem?_eq_none (by simp [rowJ, hl]; omega), List.getElem?_eq_none (by simp [rowJ, hl]; omega)]
theorem rowJ_zero {n : Nat} {S : List Int} (h : ∀ x ∈ S, 0 ≤ x) (hl : S.length = n) : rowJ S 0 = List.replicate n 0 := by
  subst hl
  refine List.ext_getElem (by simp [rowJ]) fun i h1 h2 => ?_
  simp only [rowJ, List.getElem_map, List.getElem_replicate]
  exact if_neg (by have := h _ (List.getElem_mem (l := S) (n := i) (by simpa [rowJ] using h1)); omega)
theorem rowJ_end {n : Nat} {S : List Int} (h : ∀ x ∈ S, x < n) : rowJ S n = S := by
  refine List.ext_getElem (by simp [rowJ]) fun i h1 h2 => ?_
  simp only [rowJ, List.getElem_map]
  exact if_pos (h _ (List.getElem_mem h2))
/-- How many of the first b come before a. -/
def cntJ (j : List Two) (a b : Nat) : Nat := (List.range b).countP fun i => decide (i ≠ a) && leJ j i a
theorem cntJ_succ (j : List Two) (a b : Nat) : cntJ j a (b + 1) = cntJ j a b + if b ≠ a ∧ leJ j b a = true then 1 else 0 := by
  unfold cntJ
  rw [List.range_succ, List.countP_append, List.countP_cons]
  simp
theorem cntJ_rank (j : List Two) (a n : Nat) : cntJ j a n = rankJ (leJ j) n a := by
  unfold cntJ rankJ upI
  rw [List.countP_map]
  congr 1
  funext i
  by_cases h : i = a
  · subst h; simp
  · simp only [Function.comp, decide_not, h, show ¬ ((i : Int) = (a : Int)) by omega, decide_false]
theorem cntJ_le (j : List Two) (a b : Nat) : cntJ j a b ≤ b := by
  unfold cntJ
  have := List.countP_le_length (p := fun i : Nat => decide (i ≠ a) && leJ j i a) (l := List.range b)
  simpa using this
end Go.Proofs.Ytmomjannlnafcaa.Abs
