import Derived.Test.YtmomjannlnafcaaApart
import Derived.Test.YtmomjannlnafcaaEq
import Derived.Test.YtmomjannlnafcaaT6
namespace Go.Proofs.Ytmomjannlnafcaa
open Go.RowKit
def wholeOf (n : Nat) (L : List Sl) : List Int := (List.range n).map fun (j : Nat) => sumJob j L
theorem wholeOf_len (n : Nat) (L : List Sl) : (wholeOf n L).length = n := by simp [wholeOf]
theorem wholeOf_at (n : Nat) (L : List Sl) {j : Nat} (hj : j < n) : (wholeOf n L)[j]? = some (sumJob j L) := by simp [wholeOf, hj]
theorem wholeOf_snoc (n : Nat) (L : List Sl) (s : Sl) (j : Nat) (hj : j < n) (e : s.job = j) : (wholeOf n L).set j (sumJob j L + (s.to - s.fr)) = wholeOf n (L ++ [s]) := by
  apply List.ext_getElem?
  intro i
  rw [List.getElem?_set]
  by_cases hi : i < n
  · rw [wholeOf_at n (L ++ [s]) hi, sumJob_append]
    simp only [sumJob, Int.add_zero]
    by_cases hij : j = i
    · subst hij
      rw [if_pos rfl, if_pos (by rw [wholeOf_len]; exact hi), if_pos e]
    · rw [if_neg hij, wholeOf_at n L hi, if_neg (by omega), Int.add_zero]
  · rw [if_neg (by omega), List.getElem?_eq_none (by rw [wholeOf_len]; omega), List.getElem?_eq_none (by rw [wholeOf_len]; omega)]
theorem sumJob_bd (j : Int) : ∀ (A : List Sl), (∀ s ∈ A, s.fr < s.to ∧ 0 ≤ s.fr ∧ s.to ≤ 400007) → 0 ≤ sumJob j A ∧ sumJob j A ≤ A.length * 400007
  | [], _ => by simp [sumJob]
  | s :: A, h => by
    have h1 := h s (List.mem_cons_self ..)
    have h2 := sumJob_bd j A fun s hs => h s (List.mem_cons_of_mem _ hs)
    simp only [sumJob, List.length_cons]
    split <;> omega
def lastOf (L : List Sl) : Int := L.foldl (fun a s => max a s.to) 0
theorem lastOf_snoc (L : List Sl) (s : Sl) : lastOf (L ++ [s]) = max (lastOf L) s.to := by unfold lastOf; rw [List.foldl_append]; rfl
theorem own_below {w w' : World} {base B e size n c g : Nat} {xs : List Value} (h : w.ownsRow base e size (.slice (some ⟨g, 0, none⟩) n c) n xs) (hb : Below B w w') (hg : g < B) : w'.ownsRow base e size (.slice (some ⟨g, 0, none⟩) n c) n xs := by
  refine ⟨h.1, ?_⟩
  rcases h.2 with h0 | ⟨g', cap, cur, hv, h1, h2, h3⟩
  · exact .inl h0
  · refine .inr ⟨g', cap, cur, hv, h1, ?_, h3⟩
    have : g' = g := by injection hv with hv; injection hv with hv; injection hv with hv; exact hv.symm
    subst this
    rw [hb.block _ hg]; exact h2
theorem total_le {l : List Int} {m : Int} (hm : 1 ≤ m) : total l ≤ m * endOf l m := by
  have h1 := Int.emod_add_mul_ediv (total l + m - 1) m
  have h2 := Int.emod_lt_of_pos (total l + m - 1) (show 0 < m by omega)
  have h3 : (total l + m - 1) / m ≤ endOf l m := (foldl_ge l _).1
  have h4 : m * ((total l + m - 1) / m) ≤ m * endOf l m := Int.mul_le_mul_of_nonneg_left h3 (by omega)
  omega
theorem bench_lt {E b m t T : Int} (hE : 1 ≤ E) (h1 : T ≤ m * E) (h2 : b * E + t ≤ T) (ht : 0 < t) : b < m := by
  rcases Int.lt_or_le b m with h | h
  · exact h
  · have := Int.mul_le_mul_of_nonneg_right h (show 0 ≤ E by omega)
    omega
theorem end_pos {l : List Int} {m : Int} (h : likeB l m = true) (hl : l ≠ []) : 1 ≤ endOf l m := by
  obtain ⟨_, _, _, h4⟩ := likeB_spec h
  obtain ⟨_, _, he⟩ := end_bd h
  cases l with
  | nil => exact absurd rfl hl
  | cons x l =>
    have h5 := List.all_eq_true.1 h4 x (List.mem_cons_self ..)
    have h6 := he x (List.mem_cons_self ..)
    unfold okT at h5
    simp at h5
    omega
theorem far_off {E : Int} {x s : Sl} (hx : 0 ≤ x.fr) (hs2 : s.to ≤ E) (hE : 1 ≤ E) (hxf : x.fr < x.to) (hsf : s.fr < s.to) (h : Far E x s) (hh : x.bench = s.bench ∨ x.job = s.job) (h1 : x.fr < s.to) : ¬ s.fr < x.to := by
  obtain ⟨h2, h3⟩ := h
  unfold ge gs at h2 h3
  by_cases hb : x.bench = s.bench
  · rw [hb] at h2; omega
  · have h4 : x.job = s.job := hh.elim (fun h => absurd h hb) id
    have h5 := h3 h4
    have h6 : x.bench + 1 ≤ s.bench := by
      rcases Int.lt_or_le x.bench s.bench with h | h
      · omega
      · exfalso
        have h7 : (s.bench + 1) * E ≤ x.bench * E := Int.mul_le_mul_of_nonneg_right (by omega) (by omega)
        have h8 : (s.bench + 1) * E = s.bench * E + E := by rw [Int.add_mul, Int.one_mul]
        omega
    have h7 : (x.bench + 1) * E ≤ s.bench * E := Int.mul_le_mul_of_nonneg_right h6 (by omega)
    have h8 : (x.bench + 1) * E = x.bench * E + E := by rw [Int.add_mul, Int.one_mul]
    omega
theorem lastOf_le {E : Int} : ∀ (L : List Sl) (a : Int), a ≤ E → (∀ s ∈ L, s.to ≤ E) → L.foldl (fun a s => max a s.to) a ≤ E
  | [], _, h, _ => h
  | s :: L, a, h, hs => lastOf_le L _ (by have := hs s (List.mem_cons_self ..); show max a s.to ≤ E; omega) fun t ht => hs t (List.mem_cons_of_mem _ ht)
theorem lastOf_ge : ∀ (L : List Sl) (a : Int), a ≤ L.foldl (fun a s => max a s.to) a ∧ ∀ s ∈ L, s.to ≤ L.foldl (fun a s => max a s.to) a
  | [], a => ⟨Int.le_refl _, fun _ h => by cases h⟩
  | s :: L, a => by
    have h := lastOf_ge L (max a s.to)
    simp only [List.foldl_cons]
    refine ⟨by omega, fun t ht => ?_⟩
    rcases List.mem_cons.1 ht with rfl | ht
    · omega
    · exact h.2 t ht
theorem mem_le_total : ∀ (l : List Int), (∀ x ∈ l, 0 ≤ x) → ∀ x ∈ l, x ≤ total l
  | y :: l, h, x, hx => by
    have h1 := h y (List.mem_cons_self ..)
    have h2 := total_nonneg l fun z hz => h z (List.mem_cons_of_mem _ hz)
    rw [total_cons]
    rcases List.mem_cons.1 hx with rfl | hx
    · omega
    · have := mem_le_total l (fun z hz => h z (List.mem_cons_of_mem _ hz)) x hx
      omega
theorem quo_le {T m : Int} (hT : 1 ≤ T) (hm : 1 ≤ m) : (T + m - 1) / m ≤ T := by
  have h1 := Int.mul_ediv_self_le (x := T + m - 1) (k := m) (by omega)
  rcases Int.lt_or_le T ((T + m - 1) / m) with h | h
  · exfalso
    have h2 : m * (T + 1) ≤ m * ((T + m - 1) / m) := Int.mul_le_mul_of_nonneg_left (by omega) (by omega)
    have h3 : 1 * T ≤ m * T := Int.mul_le_mul_of_nonneg_right hm (by omega)
    have h4 : m * (T + 1) = m * T + m := by rw [Int.mul_add, Int.mul_one]
    omega
  · exact h
theorem last_end {l : List Int} {m : Int} (h : likeB l m = true) : lastOf (segAll (endOf l m) 0 0 l) = endOf l m := by
  obtain ⟨_, hm, _, h4⟩ := likeB_spec h
  have hx : ∀ x ∈ l, 1 ≤ x := fun x hx => by have h5 := List.all_eq_true.1 h4 x hx; unfold okT at h5; simp at h5; omega
  by_cases hl : l = []
  · subst hl
    have h0 : (m - 1) / m = 0 := Int.ediv_eq_zero_of_lt (by omega) (by omega)
    simp [segAll, lastOf, endOf, total, h0]
  · have hE := end_pos h hl
    obtain ⟨x, l', rfl⟩ := List.exists_cons_of_ne_nil hl
    have hT : 1 ≤ total (x :: l') := by have h6 := mem_le_total _ (fun y hy => by have := hx y hy; omega) x (List.mem_cons_self ..); have := hx x (List.mem_cons_self ..); omega
    have hET : endOf (x :: l') m ≤ total (x :: l') := foldl_le _ _ _ (quo_le hT hm) (mem_le_total _ fun y hy => by have := hx y hy; omega)
    obtain ⟨s, hs, e⟩ := segAll_end (E := endOf (x :: l') m) (x :: l') 0 0 (Int.le_refl _) (by omega) (fun y hy => by have := hx y hy; omega) (by omega)
    have h7 := (lastOf_ge (segAll (endOf (x :: l') m) 0 0 (x :: l')) 0).2 s hs
    have h8 := lastOf_le (E := endOf (x :: l') m) (segAll (endOf (x :: l') m) 0 0 (x :: l')) 0 (by omega) fun s hs => (segAll_in hE _ 0 0 (Int.le_refl _) (fun y hy => by have := hx y hy; omega) s hs).te
    unfold lastOf
    omega
theorem whole_eq {l : List Int} {m : Int} (h : likeB l m = true) : wholeOf l.length (segAll (endOf l m) 0 0 l) = l := by
  obtain ⟨_, hm, _, h4⟩ := likeB_spec h
  have hx : ∀ x ∈ l, 1 ≤ x := fun x hx => by have h5 := List.all_eq_true.1 h4 x hx; unfold okT at h5; simp at h5; omega
  apply List.ext_getElem?
  intro j
  by_cases hj : j < l.length
  · rw [wholeOf_at _ _ hj, List.getElem?_eq_getElem hj]
    have hE := end_pos h (fun e => by rw [e] at hj; simp at hj)
    have := segAll_sum hE l 0 0 (Int.le_refl _) (fun y hy => by have := hx y hy; omega) j hj
    rw [Int.zero_add] at this
    rw [this]
  · rw [List.getElem?_eq_none (by rw [wholeOf_len]; omega), List.getElem?_eq_none (by omega)]
theorem own_RSl2 {w : World} {base e : Nat} {v : Value} {L : List Sl} (h : w.ownsRow base e 4 v L.length (L.flatMap slc)) :
    ∃ A c, v = .slice A L.length c ∧ L.length ≤ c ∧ c ≤ maxLen ∧ RSl w w.heap.size A L.length L := by
  have hs : ∃ A c, v = .slice A L.length c ∧ L.length ≤ c ∧ c ≤ maxLen := by
    rcases h.2 with ⟨rfl, h0⟩ | ⟨g, cap, cur, rfl, _, _, hn, hm, _⟩
    · exact ⟨none, 0, by rw [h0], by omega, by omega⟩
    · exact ⟨_, _, rfl, hn, hm⟩
  obtain ⟨A, c, rfl, hn, hm⟩ := hs
  exact ⟨A, c, rfl, hn, hm, Reads.of_own h⟩
theorem own_RI {w : World} {base n c g : Nat} {l : List Int} (h : w.ownsRow base 3 1 (.slice (some ⟨g, 0, none⟩) n c) n (l.map I64)) : RI w w.heap.size (some ⟨g, 0, none⟩) n l := Reads.of_own h
end Go.Proofs.Ytmomjannlnafcaa
