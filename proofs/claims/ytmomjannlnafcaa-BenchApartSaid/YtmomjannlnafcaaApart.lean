/- The slices of McNaughton's rule lie apart: plain Lean, no program in sight. -/
import Derived.Test.YtmomjannlnafcaaT3
namespace Go.Proofs.Ytmomjannlnafcaa
def gs (E : Int) (s : Sl) : Int := s.bench * E + s.fr
def ge (E : Int) (s : Sl) : Int := s.bench * E + s.to
/-- What a slice of job i within [a, u) is. -/
structure InJob (E i a u : Int) (s : Sl) : Prop where
  job : s.job = i
  b0 : 0 ≤ s.bench
  f0 : 0 ≤ s.fr
  ft : s.fr < s.to
  te : s.to ≤ E
  lo : a ≤ gs E s
  hi : ge E s ≤ u
def Far (E : Int) (x s : Sl) : Prop := ge E x ≤ gs E s ∧ (x.job = s.job → ge E s - gs E x ≤ E)
theorem seg_here {E i a u : Int} (he : 1 ≤ E) (h0 : 0 ≤ a) (ha : a < u) :
    InJob E i a u ⟨i, a / E, a - a / E * E, min u ((a / E + 1) * E) - a / E * E⟩ := by
  have h1 := Int.emod_add_mul_ediv a E
  have h2 := Int.emod_lt_of_pos a (show 0 < E by omega)
  have h4 := Int.emod_nonneg a (show E ≠ 0 by omega)
  have h3 : (a / E + 1) * E = a / E * E + E := by rw [Int.add_mul, Int.one_mul]
  have h5 : 0 ≤ a / E := Int.ediv_nonneg h0 (by omega)
  rw [Int.mul_comm] at h1
  rw [h3]
  constructor <;> simp only [gs, ge] <;> omega
theorem segsF_in {E i u : Int} (he : 1 ≤ E) : ∀ (f : Nat) (a : Int), 0 ≤ a → ∀ s ∈ segsF E i f a u, InJob E i a u s
  | 0, _, _, s, h => by cases h
  | f + 1, a, h0, s, h => by
    simp only [segsF] at h
    split at h
    · rename_i ha
      have hn := next_gt he ha
      rcases List.mem_cons.1 h with rfl | h
      · exact seg_here he h0 ha
      · have := segsF_in he f _ (by omega) s h
        exact ⟨this.job, this.b0, this.f0, this.ft, this.te, by have := this.lo; omega, this.hi⟩
    · cases h
theorem ge_here {E i a u : Int} : ge E ⟨i, a / E, a - a / E * E, min u ((a / E + 1) * E) - a / E * E⟩ = min u ((a / E + 1) * E) := by simp only [ge]; omega
theorem segsF_far {E i u b : Int} (he : 1 ≤ E) (hu : u - b ≤ E) : ∀ (f : Nat) (a : Int), 0 ≤ a → b ≤ a → (segsF E i f a u).Pairwise (Far E)
  | 0, _, _, _ => List.Pairwise.nil
  | f + 1, a, h0, hb => by
    simp only [segsF]
    split
    · rename_i ha
      have hn := next_gt he ha
      refine List.Pairwise.cons (fun s hs => ?_) (segsF_far he hu f _ (by omega) (by omega))
      have h := segsF_in he f _ (by omega) s hs
      refine ⟨by rw [ge_here]; exact h.lo, fun _ => ?_⟩
      have h1 := (seg_here (i := i) he h0 ha).lo
      have h2 := h.hi
      omega
    · exact List.Pairwise.nil
theorem segs_two {E i a u : Int} (he : 1 ≤ E) (hu : u - a ≤ E) : (segs E i a u).length ≤ 2 := by
  by_cases ha : a < u
  · rw [segs_step he ha]
    by_cases hm : (a / E + 1) * E < u
    · have hn := next_gt he ha
      have e1 : min u ((a / E + 1) * E) = (a / E + 1) * E := by omega
      have hd : (a / E + 1) * E / E = a / E + 1 := Int.mul_ediv_cancel _ (by omega)
      have h3 : (a / E + 1 + 1) * E = (a / E + 1) * E + E := by rw [Int.add_mul (a / E + 1), Int.one_mul]
      rw [e1, segs_step he hm, hd, h3]
      have e2 : min u ((a / E + 1) * E + E) = u := by omega
      rw [e2, segs_end (by omega)]
      simp
    · have e1 : min u ((a / E + 1) * E) = u := by omega
      rw [e1, segs_end (by omega)]
      simp
  · rw [segs_end ha]; simp
def sumJob (j : Int) : List Sl → Int
  | [] => 0
  | s :: L => (if s.job = j then s.to - s.fr else 0) + sumJob j L
theorem sumJob_append (j : Int) : ∀ (A B : List Sl), sumJob j (A ++ B) = sumJob j A + sumJob j B
  | [], B => by simp [sumJob]
  | s :: A, B => by simp only [List.cons_append, sumJob]; rw [sumJob_append j A B]; omega
theorem sumJob_none {j : Int} : ∀ (A : List Sl), (∀ s ∈ A, s.job ≠ j) → sumJob j A = 0
  | [], _ => rfl
  | s :: A, h => by
    simp only [sumJob]
    rw [if_neg (h s (List.mem_cons_self ..)), sumJob_none A fun s hs => h s (List.mem_cons_of_mem _ hs)]
    rfl
theorem sumJob_segsF {E i u : Int} (he : 1 ≤ E) : ∀ (f : Nat) (a : Int), 0 ≤ a → a ≤ u → (u - a).toNat ≤ f → sumJob i (segsF E i f a u) = u - a
  | 0, a, _, h1, h2 => by simp only [segsF, sumJob]; omega
  | f + 1, a, h0, h1, h2 => by
    simp only [segsF]
    by_cases ha : a < u
    · have hn := next_gt he ha
      rw [if_pos ha]
      simp only [sumJob, if_pos]
      rw [sumJob_segsF he f _ (by omega) (by omega) (by omega)]
      omega
    · rw [if_neg ha]; simp only [sumJob]; omega
/-! ### the whole schedule -/
theorem total_nonneg : ∀ (l : List Int), (∀ x ∈ l, 0 ≤ x) → 0 ≤ total l
  | [], _ => by simp [total]
  | x :: l, h => by
    have h1 := h x (List.mem_cons_self ..)
    have h2 := total_nonneg l fun y hy => h y (List.mem_cons_of_mem _ hy)
    simp only [total, List.foldr_cons] at *
    omega
theorem total_cons (x : Int) (l : List Int) : total (x :: l) = x + total l := rfl
/-- A slice of the schedule of jobs i, i + 1, .. within [a, u). -/
structure InAll (E i a u : Int) (n : Nat) (s : Sl) : Prop where
  j0 : i ≤ s.job
  j1 : s.job < i + n
  b0 : 0 ≤ s.bench
  f0 : 0 ≤ s.fr
  ft : s.fr < s.to
  te : s.to ≤ E
  lo : a ≤ gs E s
  hi : ge E s ≤ u
theorem segAll_in {E : Int} (he : 1 ≤ E) : ∀ (l : List Int) (i a : Int), 0 ≤ a → (∀ x ∈ l, 0 ≤ x) → ∀ s ∈ segAll E i a l, InAll E i a (a + total l) l.length s
  | [], _, _, _, _, s, h => by cases h
  | x :: l, i, a, h0, hl, s, h => by
    simp only [segAll] at h
    have hx := hl x (List.mem_cons_self ..)
    have hl' : ∀ y ∈ l, 0 ≤ y := fun y hy => hl y (List.mem_cons_of_mem _ hy)
    have ht := total_nonneg l hl'
    rw [total_cons, List.length_cons]
    rcases List.mem_append.1 h with h | h
    · obtain ⟨p1, p2, p3, p4, p5, p6, p7⟩ := segsF_in he _ a h0 s h
      constructor <;> omega
    · obtain ⟨p0, p1, p2, p3, p4, p5, p6, p7⟩ := segAll_in he l (i + 1) (a + x) (by omega) hl' s h
      constructor <;> omega
theorem segAll_far {E : Int} (he : 1 ≤ E) : ∀ (l : List Int) (i a : Int), 0 ≤ a → (∀ x ∈ l, 0 ≤ x ∧ x ≤ E) → (segAll E i a l).Pairwise (Far E)
  | [], _, _, _, _ => List.Pairwise.nil
  | x :: l, i, a, h0, hl => by
    simp only [segAll]
    have hx := hl x (List.mem_cons_self ..)
    have hl' : ∀ y ∈ l, 0 ≤ y ∧ y ≤ E := fun y hy => hl y (List.mem_cons_of_mem _ hy)
    refine List.pairwise_append.2 ⟨segsF_far (b := a) he (by omega) _ a h0 (Int.le_refl _), segAll_far he l _ _ (by omega) hl', fun y hy s hs => ?_⟩
    have h1 := segsF_in he _ a h0 y hy
    have h2 := segAll_in he l (i + 1) (a + x) (by omega) (fun y hy => (hl' y hy).1) s hs
    refine ⟨?_, fun e => ?_⟩
    · have := h1.hi; have := h2.lo; omega
    · have := h1.job; have := h2.j0; omega
theorem segAll_len {E : Int} (he : 1 ≤ E) : ∀ (l : List Int) (i a : Int), (∀ x ∈ l, x ≤ E) → (segAll E i a l).length ≤ 2 * l.length
  | [], _, _, _ => by simp [segAll]
  | x :: l, i, a, hl => by
    simp only [segAll, List.length_append, List.length_cons]
    have h1 := segs_two (E := E) (i := i) (a := a) (u := a + x) he (by have := hl x (List.mem_cons_self ..); omega)
    have h2 := segAll_len he l (i + 1) (a + x) fun y hy => hl y (List.mem_cons_of_mem _ hy)
    omega
theorem segAll_sum {E : Int} (he : 1 ≤ E) : ∀ (l : List Int) (i a : Int), 0 ≤ a → (∀ x ∈ l, 0 ≤ x) → ∀ (k : Nat) (hk : k < l.length), sumJob (i + k) (segAll E i a l) = l[k]
  | x :: l, i, a, h0, hl, 0, _ => by
    have hx := hl x (List.mem_cons_self ..)
    simp only [segAll]
    rw [sumJob_append, sumJob_none (segAll E (i + 1) (a + x) l) (fun s hs => ?_)]
    · simp only [Int.natCast_zero, Int.add_zero, List.getElem_cons_zero, segs]
      rw [sumJob_segsF he _ a h0 (by omega) (Nat.le_refl _)]
      omega
    · have := (segAll_in he l (i + 1) (a + x) (by omega) (fun y hy => hl y (List.mem_cons_of_mem _ hy)) s hs).j0
      simp only [Int.natCast_zero]
      omega
  | x :: l, i, a, h0, hl, k + 1, hk => by
    have hx := hl x (List.mem_cons_self ..)
    simp only [segAll]
    rw [sumJob_append, sumJob_none (segs E i a (a + x)) (fun s hs => ?_)]
    · have := segAll_sum he l (i + 1) (a + x) (by omega) (fun y hy => hl y (List.mem_cons_of_mem _ hy)) k (by simpa using hk)
      rw [show i + ((k + 1 : Nat) : Int) = i + 1 + k by omega, this]
      simp
    · have := (segsF_in he _ a h0 s hs).job
      omega
theorem segAll_end {E : Int} : ∀ (l : List Int) (i a : Int), 0 ≤ a → a < E → (∀ x ∈ l, 0 < x) → E ≤ a + total l → ∃ s ∈ segAll E i a l, s.to = E
  | [], _, a, _, h1, _, h2 => by simp [total] at h2; omega
  | x :: l, i, a, h0, h1, hl, h2 => by
    have hx := hl x (List.mem_cons_self ..)
    rw [total_cons] at h2
    simp only [segAll]
    by_cases hc : E ≤ a + x
    · refine ⟨⟨i, a / E, a - a / E * E, min (a + x) ((a / E + 1) * E) - a / E * E⟩, List.mem_append.2 (.inl ?_), ?_⟩
      · rw [segs_step (e := E) (i := i) (a := a) (u := a + x) (by omega) (by omega)]; exact List.mem_cons_self ..
      · rw [Int.ediv_eq_zero_of_lt h0 h1]
        simp only [Int.zero_add, Int.one_mul, Int.zero_mul]
        omega
    · obtain ⟨s, hs, e⟩ := segAll_end (E := E) l (i + 1) (a + x) (by omega) (by omega) (fun y hy => hl y (List.mem_cons_of_mem _ hy)) (by omega)
      exact ⟨s, List.mem_append.2 (.inr hs), e⟩
end Go.Proofs.Ytmomjannlnafcaa
