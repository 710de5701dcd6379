/- Plain laws of chapter 8: orders, spans, turning positions. -/
import Derived.Test.YtmomjannlnafcaaB5
namespace Go.Proofs.Ytmomjannlnafcaa.Abs
set_option linter.unusedSimpArgs false
set_option linter.unusedVariables false
open Go.RowKit
open Go.Proofs.Ytmomjannlnafcaa.Sim
theorem nodup_le {α : Type} [DecidableEq α] : ∀ (l r : List α), l.Nodup → (∀ x ∈ l, x ∈ r) → l.length ≤ r.length
  | [], r, _, _ => by simp
  | a :: l, r, h, hs => by
    have h1 := List.nodup_cons.1 h
    have ha : a ∈ r := hs a (by simp)
    have := nodup_le l (r.erase a) h1.2 fun x hx => by
      have hne : x ≠ a := fun e => h1.1 (e ▸ hx)
      exact (List.mem_erase_of_ne hne).2 (hs x (by simp [hx]))
    rw [List.length_erase_of_mem ha] at this
    have := List.length_pos_of_mem ha
    simp; omega
theorem mem_upI {n : Nat} {x : Int} : x ∈ upI n ↔ 0 ≤ x ∧ x < n := by
  simp only [upI, List.mem_map, List.mem_range]
  constructor
  · rintro ⟨k, hk, rfl⟩; omega
  · rintro ⟨h1, h2⟩; exact ⟨x.toNat, by omega, by omega⟩
theorem upI_nodup (n : Nat) : (upI n).Nodup := by
  unfold upI
  have := List.nodup_range (n := n)
  exact List.Pairwise.map _ (fun a b h e => h (by omega)) this
theorem upI_sorted (n : Nat) : (upI n).Pairwise (fun x y => decide (x ≤ y) = true) := by
  unfold upI
  exact List.Pairwise.map _ (fun a b h => by simp; omega) (List.pairwise_lt_range (n := n))
/-- A slice is an order of n if and only if it has n elements, each below n, each once. -/
theorem orderB_iff {l : List Int} {n : Nat} : orderB l n = true ↔ l.length = n ∧ (∀ x ∈ l, 0 ≤ x ∧ x < n) ∧ l.Nodup := by
  simp only [orderB, Bool.and_eq_true, decide_eq_true_eq]
  constructor
  · rintro ⟨h1, h2⟩
    have hp : (srt l).Perm l := List.mergeSort_perm l _
    rw [h2] at hp
    exact ⟨h1, fun x hx => mem_upI.1 (hp.mem_iff.2 hx), hp.nodup_iff.1 (upI_nodup n)⟩
  · rintro ⟨h1, h2, h3⟩
    refine ⟨h1, ?_⟩
    have hsub : ∀ x ∈ l, x ∈ upI n := fun x hx => mem_upI.2 (h2 x hx)
    have hsup : ∀ x ∈ upI n, x ∈ l := fun x hx => Classical.byContradiction fun hn => by
      have := nodup_le l ((upI n).erase x) h3 fun y hy => (List.mem_erase_of_ne (fun (e : y = x) => hn (e ▸ hy))).2 (hsub y hy)
      rw [List.length_erase_of_mem hx, upI_len] at this
      have := List.length_pos_of_mem hx
      rw [upI_len] at this
      omega
    have hperm : l.Perm (upI n) := by
      rw [List.perm_iff_count]
      intro a
      rw [h3.count, (upI_nodup n).count]
      by_cases ha : a ∈ l
      · rw [if_pos ha, if_pos (hsub a ha)]
      · rw [if_neg ha, if_neg (fun h => ha (hsup a h))]
    have hps : (srt l).Perm (upI n) := (List.mergeSort_perm l _).trans hperm
    refine hps.eq_of_pairwise (le := fun x y => decide (x ≤ y) = true) (fun a b _ _ h1 h2 => by simp at h1 h2; omega) ?_ (upI_sorted n)
    exact List.pairwise_mergeSort (fun a b c h1 h2 => by simp at h1 h2 ⊢; omega) (fun a b => by simp; omega) l
def nat (l : List Int) : List Nat := l.map Int.toNat
theorem nat_len (l : List Int) : (nat l).length = l.length := by simp [nat]
theorem nat_get {l : List Int} {k : Nat} (h : k < l.length) : (nat l).getD k 0 = (l.getD k 0).toNat := by simp [nat, h]
theorem nats_of {m : AM} {v : Value} {l : List Int} (h : Ints m v l) (h0 : ∀ x ∈ l, 0 ≤ x) : Nats m v (nat l) := by
  obtain ⟨a, o, h1, h2, h3⟩ := h
  refine ⟨a, o, by rw [nat_len]; exact h1, h2, fun k hk => ?_⟩
  rw [nat_len] at hk
  rw [nat_get hk]
  have := h0 (l.getD k 0) (by simp [hk])
  rw [Int.toNat_of_nonneg this]
  exact h3 k hk
theorem nat_lt {l : List Int} {n : Nat} (h : orderB l n = true) : ∀ k, k < (nat l).length → (nat l).getD k 0 < n := fun k hk => by
  obtain ⟨_, o2, _⟩ := orderB_iff.1 h
  rw [nat_len] at hk
  rw [nat_get hk]
  have := o2 (l.getD k 0) (by simp [hk])
  omega
theorem nat_ok {m : AM} {v : Value} {l : List Int} {n : Nat} (hl : Ints m v l) (h : orderB l n = true) : Nats m v (nat l) := nats_of hl fun x hx => ((orderB_iff.1 h).2.1 x hx).1
/-! ### sums over an order -/
def sumI (l : List Int) : Int := l.foldr (· + ·) 0
theorem sumI_app (l k : List Int) : sumI (l ++ k) = sumI l + sumI k := by
  induction l with
  | nil => simp [sumI]
  | cons x l ih => simp only [sumI, List.cons_append, List.foldr_cons] at ih ⊢; rw [ih]; omega
theorem sumI_perm {l k : List Int} (h : l.Perm k) : sumI l = sumI k := by
  induction h with
  | nil => rfl
  | cons x _ ih => simp only [sumI, List.foldr_cons] at ih ⊢; rw [ih]
  | swap x y l => simp only [sumI, List.foldr_cons]; omega
  | trans _ _ h1 h2 => exact h1.trans h2
theorem sumI_bd {l : List Int} {a b : Int} (h : ∀ x ∈ l, a ≤ x ∧ x ≤ b) : a * l.length ≤ sumI l ∧ sumI l ≤ b * l.length := by
  induction l with
  | nil => simp [sumI]
  | cons x l ih =>
    have h1 := h x (by simp)
    have h2 := ih fun y hy => h y (by simp [hy])
    simp only [sumI, List.foldr_cons, List.length_cons] at h2 ⊢
    rw [show ((l.length + 1 : Nat) : Int) = (l.length : Int) + 1 by omega, Int.mul_add, Int.mul_add]
    omega
def cutOf (j : List Two) (i : Nat) : Int := (j.getD i default).cut
def sewOf (j : List Two) (i : Nat) : Int := (j.getD i default).sew
def cutS (j : List Two) (l : List Nat) (k : Nat) : Int := sumI ((l.take k).map (cutOf j))
def sewS (j : List Two) (l : List Nat) (k : Nat) : Int := sumI ((l.take k).map (sewOf j))
theorem cutS_succ {j : List Two} {l : List Nat} {k : Nat} (h : k < l.length) : cutS j l (k + 1) = cutS j l k + cutOf j (l.getD k 0) := by
  unfold cutS; rw [take_snoc l k 0 h, List.map_append, sumI_app]; simp [sumI]
theorem sewS_succ {j : List Two} {l : List Nat} {k : Nat} (h : k < l.length) : sewS j l (k + 1) = sewS j l k + sewOf j (l.getD k 0) := by
  unfold sewS; rw [take_snoc l k 0 h, List.map_append, sumI_app]; simp [sumI]
/-- The Cuts up to position i and the Sews from it on, of the first k. -/
def sumK (j : List Two) (l : List Nat) (k i : Nat) : Int := cutS j l (i + 1) + (sewS j l k - sewS j l i)
theorem spanF_sums (j : List Two) (l : List Nat) (hp : ∀ i, 0 ≤ cutOf j i) : ∀ k, k ≤ l.length → (spanF j (l.take k)).1 = cutS j l k ∧ (∀ i, i < k → sumK j l k i ≤ (spanF j (l.take k)).2) ∧ (k = 0 → (spanF j (l.take k)).2 = 0) ∧ (0 < k → ∃ i, i < k ∧ sumK j l k i = (spanF j (l.take k)).2) := by
  intro k
  induction k with
  | zero => intro _; simp [spanF, cutS, sumI]
  | succ k ih =>
    intro hk
    have hlt : k < l.length := hk
    obtain ⟨h1, h2, h3, h4⟩ := ih (by omega)
    have es : spanF j (l.take (k + 1)) = spanS j (spanF j (l.take k)) (l.getD k 0) := by rw [take_snoc l k 0 hlt]; simp [spanF]
    have ec := cutS_succ (j := j) hlt
    have ew := sewS_succ (j := j) hlt
    have e2 : (spanF j (l.take (k + 1))).2 = max (cutS j l (k + 1)) (spanF j (l.take k)).2 + sewOf j (l.getD k 0) := by rw [es]; simp only [spanS, sewOf]; rw [h1, ec]; rfl
    have e1 : (spanF j (l.take (k + 1))).1 = cutS j l (k + 1) := by rw [es]; simp only [spanS]; rw [h1, ec]; rfl
    refine ⟨e1, fun i hi => ?_, fun h => by omega, fun _ => ?_⟩
    · rw [e2]
      rcases Nat.lt_succ_iff_lt_or_eq.1 hi with h | h
      · have := h2 i h
        simp only [sumK] at this ⊢
        rw [ew]; omega
      · subst h
        simp only [sumK]; rw [ew]; omega
    · by_cases hc : (spanF j (l.take k)).2 ≤ cutS j l (k + 1)
      · exact ⟨k, by omega, by rw [e2]; simp only [sumK]; rw [ew]; omega⟩
      · rcases Nat.eq_zero_or_pos k with h0 | h0
        · have h5 := h3 h0
          have h6 := hp (l.getD k 0)
          have h7 : cutS j l k = 0 := by rw [h0]; simp [cutS, sumI]
          omega
        · obtain ⟨i, hi, hs⟩ := h4 h0
          refine ⟨i, by omega, ?_⟩
          rw [e2]
          simp only [sumK] at hs ⊢
          rw [ew]; omega
theorem lim_pos {j : List Two} (h : tlim j) (i : Nat) : 0 ≤ cutOf j i ∧ cutOf j i ≤ 10000 ∧ 0 ≤ sewOf j i ∧ sewOf j i ≤ 10000 := by
  by_cases hi : i < j.length
  · exact h i hi
  · have : j.getD i default = default := by simp [List.getElem?_eq_none (show j.length ≤ i by omega)]
    simp only [cutOf, sewOf, this]
    decide
/-- The sums over an order of all jobs are the sums over the jobs. -/
theorem sewS_all {j : List Two} {l : List Int} (h : orderB l j.length = true) : sewS j (nat l) l.length = sumI (j.map (·.sew)) := by
  obtain ⟨h1, h2, h3⟩ := orderB_iff.1 h
  have hp : (nat l).Perm (List.range j.length) := by
    have hs : (srt l).Perm l := List.mergeSort_perm l _
    simp only [orderB, Bool.and_eq_true, decide_eq_true_eq] at h
    rw [h.2] at hs
    have := (hs.map Int.toNat).symm
    refine this.trans ?_
    unfold upI
    rw [List.map_map]
    have : (Int.toNat ∘ (Nat.cast : Nat → Int)) = id := by funext x; simp
    rw [this, List.map_id]
  unfold sewS
  rw [List.take_of_length_le (by rw [nat_len]; exact Nat.le_refl _), sumI_perm (hp.map (sewOf j))]
  congr 1
  apply List.ext_getElem?
  intro i
  simp only [List.getElem?_map, sewOf]
  by_cases hi : i < j.length
  · simp [hi, sewOf]
  · simp [List.getElem?_eq_none (show j.length ≤ i by omega)]; omega
/-- The result of Span. -/
def spanR (j : List Two) (l : List Int) : Int × Int := if twosB j = true then (if orderB l j.length = true then ((spanF j (nat l)).2, 0) else (0, 6)) else (0, 2)
/-- The first position that makes the span. -/
def turnF (j : List Two) (l : List Int) : Int := idxF (fun k => decide (sumK j (nat l) l.length k = (spanF j (nat l)).2)) l.length
def turnR (j : List Two) (l : List Int) : Int × Int := if twosB j = true then (if orderB l j.length = true then (turnF j l, 0) else (0, 6)) else (0, 2)
theorem take42 (j : List Two) (l : List Int) : twosB (j.take 42) = twosB j ∧ (twosB j = true → j.take 42 = j) := by
  by_cases h : j.length ≤ 42
  · rw [List.take_of_length_le h]; exact ⟨rfl, fun _ => rfl⟩
  · have h1 : twosB (j.take 42) = false := by simp [twosB]; omega
    have h2 : twosB j = false := by simp [twosB]; omega
    rw [h1, h2]; exact ⟨rfl, fun h => by cases h⟩
theorem spanR42 (j : List Two) (l : List Int) : spanR (j.take 42) l = spanR j l ∧ turnR (j.take 42) l = turnR j l := by
  obtain ⟨h1, h2⟩ := take42 j l
  unfold spanR turnR
  rw [h1]
  by_cases h : twosB j = true
  · rw [h2 h]; exact ⟨rfl, rfl⟩
  · simp [h]
end Go.Proofs.Ytmomjannlnafcaa.Abs
