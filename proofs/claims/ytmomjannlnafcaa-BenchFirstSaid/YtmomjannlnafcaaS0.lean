/- Plain facts about stable sorting: sorted lists, what a merge leaves. -/
import Derived.Test.YtmomjannlnafcaaAbsM
namespace Go.Proofs.Ytmomjannlnafcaa.Abs
set_option linter.unusedSimpArgs false
set_option linter.unusedVariables false
/-- A total order. -/
structure TO (le : Int → Int → Bool) : Prop where
  to : ∀ a b, (le a b || le b a) = true
  tr : ∀ a b c, le a b = true → le b c = true → le a c = true
  an : ∀ a b, le a b = true → le b a = true → a = b
def ms (le : Int → Int → Bool) (l : List Int) : List Int := l.mergeSort le
section
variable {le : Int → Int → Bool} {l p A B A1 A2 B1 B2 : List Int}
theorem ms_len : (ms le l).length = l.length := by simp [ms]
theorem ms_perm : (ms le l).Perm l := List.mergeSort_perm l le
theorem ms_mem {x : Int} : x ∈ ms le l ↔ x ∈ l := ms_perm.mem_iff
def Srt (le : Int → Int → Bool) (l : List Int) : Prop := l.Pairwise (fun a b => le a b = true)
theorem ms_srt (h : TO le) : Srt le (ms le l) := List.pairwise_mergeSort h.tr h.to l
theorem ms_of (h : TO le) (hp : p.Perm l) (hs : Srt le p) : ms le l = p :=
  List.Perm.eq_of_pairwise (le := fun a b => le a b = true) (fun a b _ _ h1 h2 => h.an a b h1 h2) (ms_srt h) hs (ms_perm.trans hp.symm)
theorem ms_self (h : TO le) (hs : Srt le l) : ms le l = l := ms_of h (List.Perm.refl _) hs
theorem TO.of_not (h : TO le) {a b : Int} (hf : le a b = false) : le b a = true := by
  have := h.to a b
  rw [hf] at this; simpa using this
theorem ms_cut (h : TO le) (hA : Srt le (A1 ++ A2)) (hB : Srt le (B1 ++ B2)) (h1 : ∀ x ∈ A1, ∀ y ∈ B2, le x y = true) (h2 : ∀ y ∈ B1, ∀ x ∈ A2, le y x = true) : ms le ((A1 ++ A2) ++ (B1 ++ B2)) = ms le (A1 ++ B1) ++ ms le (A2 ++ B2) := by
  obtain ⟨_, _, a3⟩ := List.pairwise_append.1 hA
  obtain ⟨_, _, b3⟩ := List.pairwise_append.1 hB
  refine ms_of h ?_ ?_
  · refine (List.Perm.append ms_perm ms_perm).trans ?_
    simp only [List.append_assoc]
    refine List.Perm.append_left _ ?_
    rw [← List.append_assoc, ← List.append_assoc]
    exact List.Perm.append_right _ List.perm_append_comm
  · refine List.pairwise_append.2 ⟨ms_srt h, ms_srt h, fun x hx y hy => ?_⟩
    rw [ms_mem, List.mem_append] at hx hy
    rcases hx with hx | hx <;> rcases hy with hy | hy
    · exact a3 x hx y hy
    · exact h1 x hx y hy
    · exact h2 x hx y hy
    · exact b3 x hx y hy
theorem srt_get (hs : Srt le l) {i j : Nat} (hij : i < j) (hj : j < l.length) : le (l.getD i 0) (l.getD j 0) = true := by
  have := List.pairwise_iff_getElem.1 hs i j (by omega) hj hij
  simpa [show i < l.length by omega, hj] using this
theorem srt_getE (h : TO le) (hs : Srt le l) {i j : Nat} (hij : i ≤ j) (hj : j < l.length) : le (l.getD i 0) (l.getD j 0) = true := by
  rcases Nat.lt_or_eq_of_le hij with h1 | rfl
  · exact srt_get hs h1 hj
  · have := h.to (l.getD i 0) (l.getD i 0); simpa using this
theorem mem_take_get {n : Nat} {x : Int} (h : x ∈ l.take n) : ∃ i, i < n ∧ i < l.length ∧ x = l.getD i 0 := by
  obtain ⟨i, hi, rfl⟩ := List.getElem_of_mem h
  have hi' : i < n ∧ i < l.length := by simp only [List.length_take] at hi; omega
  exact ⟨i, hi'.1, hi'.2, by simp [hi'.2]⟩
theorem mem_drop_get {n : Nat} {x : Int} (h : x ∈ l.drop n) : ∃ i, n ≤ i ∧ i < l.length ∧ x = l.getD i 0 := by
  obtain ⟨i, hi, rfl⟩ := List.getElem_of_mem h
  simp at hi
  exact ⟨n + i, by omega, by omega, by simp [show n + i < l.length by omega]⟩
/-- Where the search of the symmetric merge ends, the halves fall apart. -/
theorem sym_cut (h : TO le) (hA : Srt le A) (hB : Srt le B) {hh q : Nat} (hq1 : hh - B.length ≤ q) (hq2 : q ≤ min A.length hh)
    (h1 : ∀ c, hh - B.length ≤ c → c < q → le (A.getD c 0) (B.getD (hh - 1 - c) 0) = true) (h2 : ∀ c, q ≤ c → c < min A.length hh → le (A.getD c 0) (B.getD (hh - 1 - c) 0) = false) :
    ms le (A ++ B) = ms le (A.take q ++ B.take (hh - q)) ++ ms le (A.drop q ++ B.drop (hh - q)) := by
  have e := ms_cut (le := le) (A1 := A.take q) (A2 := A.drop q) (B1 := B.take (hh - q)) (B2 := B.drop (hh - q)) h (by rwa [List.take_append_drop]) (by rwa [List.take_append_drop])
    (fun x hx y hy => by
      obtain ⟨i, i1, i2, rfl⟩ := mem_take_get hx
      obtain ⟨k, k1, k2, rfl⟩ := mem_drop_get hy
      have g := h1 (q - 1) (by omega) (by omega)
      rw [show hh - 1 - (q - 1) = hh - q by omega] at g
      exact h.tr _ _ _ (srt_getE h hA (show i ≤ q - 1 by omega) (by omega)) (h.tr _ _ _ g (srt_getE h hB k1 k2)))
    (fun y hy x hx => by
      obtain ⟨k, k1, k2, rfl⟩ := mem_take_get hy
      obtain ⟨i, i1, i2, rfl⟩ := mem_drop_get hx
      have g := h.of_not (h2 q (Nat.le_refl _) (by omega))
      exact h.tr _ _ _ (srt_getE h hB (show k ≤ hh - 1 - q by omega) (by omega)) (h.tr _ _ _ g (srt_getE h hA i1 i2)))
  rwa [List.take_append_drop, List.take_append_drop] at e
/-- One element into a sorted list. -/
theorem ms_one (h : TO le) {x : Int} {S1 S2 : List Int} (hS : Srt le (S1 ++ S2)) (h1 : ∀ y ∈ S1, le y x = true) (h2 : ∀ y ∈ S2, le x y = true) (hp : (S1 ++ S2).Perm l) : ms le (l ++ [x]) = S1 ++ x :: S2 := by
  obtain ⟨a1, a2, a3⟩ := List.pairwise_append.1 hS
  refine ms_of h ?_ ?_
  · refine List.Perm.trans ?_ (List.Perm.append_right [x] hp)
    exact (List.perm_middle).trans (by exact (List.perm_append_singleton x (S1 ++ S2)).symm)
  · refine List.pairwise_append.2 ⟨a1, List.pairwise_cons.2 ⟨h2, a2⟩, fun y hy z hz => ?_⟩
    rcases List.mem_cons.1 hz with rfl | hz
    · exact h1 y hy
    · exact a3 y hy z hz
end
/-! ### places in a row made of parts -/
theorem getD_l {l k : List Int} {i : Nat} (h : i < l.length) : (l ++ k).getD i 0 = l.getD i 0 := by simp [List.getElem?_append_left h]
theorem getD_r {l k : List Int} {i j : Nat} (h : i = l.length + j) : (l ++ k).getD i 0 = k.getD j 0 := by
  subst h; simp [List.getElem?_append_right]
theorem set_r {l k : List Int} {i j : Nat} {x : Int} (h : i = l.length + j) : (l ++ k).set i x = l ++ k.set j x := by
  subst h; simp
/-- Two places exchanged. -/
def swp (l : List Int) (i j : Nat) : List Int := (l.set i (l.getD j 0)).set j (l.getD i 0)
theorem swp_len (l : List Int) (i j : Nat) : (swp l i j).length = l.length := by simp [swp]
theorem swp_adj {p q : List Int} {x y : Int} {i : Nat} (h : i = p.length) : swp (p ++ x :: y :: q) i (i + 1) = p ++ y :: x :: q := by
  subst h
  simp [swp, List.set_append]
theorem swp_comm (l : List Int) (i j : Nat) (h : i ≠ j) : swp l i j = swp l j i := by
  unfold swp
  rw [List.set_comm _ _ h]
end Go.Proofs.Ytmomjannlnafcaa.Abs
