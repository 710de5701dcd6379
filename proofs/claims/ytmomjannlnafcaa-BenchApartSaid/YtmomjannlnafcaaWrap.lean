/- McNaughton's rule as a plain function. -/
import Derived.WalkKit
namespace Go.Proofs.Ytmomjannlnafcaa
/-- A slice of a schedule. -/
structure Sl where
  job : Int
  bench : Int
  fr : Int
  to : Int
def segsF (e i : Int) : Nat → Int → Int → List Sl
  | 0, _, _ => []
  | f + 1, a, u => if a < u then ⟨i, a / e, a - a / e * e, min u ((a / e + 1) * e) - a / e * e⟩ :: segsF e i f (min u ((a / e + 1) * e)) u else []
def segs (e i a u : Int) : List Sl := segsF e i (u - a).toNat a u
theorem next_gt {e a u : Int} (he : 1 ≤ e) (ha : a < u) : a < min u ((a / e + 1) * e) := by
  have h1 := Int.emod_add_mul_ediv a e
  have h2 := Int.emod_lt_of_pos a (show 0 < e by omega)
  have h3 : (a / e + 1) * e = e * (a / e) + e := by rw [Int.add_mul, Int.mul_comm, Int.one_mul]
  rw [h3]
  omega
theorem segsF_more {e i : Int} (he : 1 ≤ e) : ∀ (f g : Nat) (a u : Int), (u - a).toNat ≤ f → (u - a).toNat ≤ g → segsF e i f a u = segsF e i g a u
  | 0, 0, _, _, _, _ => rfl
  | 0, g + 1, a, u, h, _ => by simp only [segsF]; rw [if_neg (by omega)]
  | f + 1, 0, a, u, _, h => by simp only [segsF]; rw [if_neg (by omega)]
  | f + 1, g + 1, a, u, h, k => by
    simp only [segsF]
    by_cases ha : a < u
    · rw [if_pos ha, if_pos ha]
      have := next_gt he ha
      rw [segsF_more he f g _ u (by omega) (by omega)]
    · rw [if_neg ha, if_neg ha]
theorem segs_step {e i a u : Int} (he : 1 ≤ e) (ha : a < u) :
    segs e i a u = ⟨i, a / e, a - a / e * e, min u ((a / e + 1) * e) - a / e * e⟩ :: segs e i (min u ((a / e + 1) * e)) u := by
  have := next_gt he ha
  unfold segs
  obtain ⟨f, hf⟩ : ∃ f, (u - a).toNat = f + 1 := ⟨(u - a).toNat - 1, by omega⟩
  rw [hf]
  simp only [segsF]
  rw [if_pos ha, segsF_more he f (u - min u ((a / e + 1) * e)).toNat _ u (by omega) (Nat.le_refl _)]
theorem segs_end {e i a u : Int} (ha : ¬ a < u) : segs e i a u = [] := by
  unfold segs
  rw [show (u - a).toNat = 0 by omega]
  rfl
def segAll (e : Int) : Int → Int → List Int → List Sl
  | _, _, [] => []
  | i, a, t :: ts => segs e i a (a + t) ++ segAll e (i + 1) (a + t) ts
/-- One step of the program: bench b, time a at it. -/
theorem segs_at {e i b a t : Int} (he : 1 ≤ e) (h0 : 0 ≤ a) (h1 : a < e) (ht : 0 < t) :
    segs e i (b * e + a) (b * e + a + t) = ⟨i, b, a, a + min t (e - a)⟩ :: segs e i (b * e + (a + min t (e - a))) (b * e + (a + min t (e - a)) + (t - min t (e - a))) := by
  have hd : (b * e + a) / e = b := by
    rw [Int.add_comm, Int.add_mul_ediv_right _ _ (by omega), Int.ediv_eq_zero_of_lt h0 h1]; omega
  have hm : (b + 1) * e = b * e + e := by rw [Int.add_mul, Int.one_mul]
  rw [segs_step he (by omega), hd, hm]
  have e1 : min (b * e + a + t) (b * e + e) = b * e + (a + min t (e - a)) := by omega
  rw [e1]
  congr 2
  · omega
  · omega
  · omega
theorem segs_turn {e b : Int} : (b + 1) * e + 0 = b * e + e := by rw [Int.add_mul, Int.one_mul]; omega
def total (l : List Int) : Int := l.foldr (· + ·) 0
def longest (l : List Int) : Int := l.foldl max 0
end Go.Proofs.Ytmomjannlnafcaa
