/- Chapter 8: Johnson's rule is optimal (plain law); BenchFirst walked. -/
import Derived.Test.YtmomjannlnafcaaJ5
namespace Go.Proofs.Ytmomjannlnafcaa.Abs
set_option linter.unusedSimpArgs false
set_option linter.unusedVariables false
open Go.RowKit
open Go.Proofs.Ytmomjannlnafcaa.Sim
open Go.Proofs
section
variable (j : List Two)
def aI (x : Int) : Int := (j.getD x.toNat default).cut
def bI (x : Int) : Int := (j.getD x.toNat default).sew
def sA (l : List Int) : Int := sumI (l.map (aI j))
def sB (l : List Int) : Int := sumI (l.map (bI j))
/-- The span of a row of jobs. -/
def tS : List Int → Int
  | [] => 0
  | x :: l => max (aI j x + bI j x + sB j l) (aI j x + tS l)
end
section
variable {j : List Two}
theorem sB_cons (x : Int) (l : List Int) : sB j (x :: l) = bI j x + sB j l := rfl
theorem tS_cons (x : Int) (l : List Int) : tS j (x :: l) = max (aI j x + bI j x + sB j l) (aI j x + tS j l) := rfl
theorem fold_tS (h : ∀ x, 0 ≤ bI j x) : ∀ (l : List Int) (c s : Int), c ≤ s → ((nat l).foldl (spanS j) (c, s)).2 = max (s + sB j l) (c + tS j l)
  | [], c, s, hcs => by simp [nat, sB, sumI, tS]; omega
  | x :: l, c, s, hcs => by
    have hb := h x
    have ih := fold_tS h l (c + aI j x) (max (c + aI j x) s + bI j x) (by omega)
    have e : (nat (x :: l)).foldl (spanS j) (c, s) = (nat l).foldl (spanS j) (c + aI j x, max (c + aI j x) s + bI j x) := rfl
    rw [e, ih, sB_cons, tS_cons]
    omega
theorem spanF_tS (h : ∀ x, 0 ≤ bI j x) (l : List Int) : 0 ≤ tS j l ∨ True := .inr trivial
/-- x may stand before y. -/
def bef (j : List Two) (x y : Int) : Prop := min (aI j x) (bI j y) ≤ min (aI j y) (bI j x)
theorem swap_tS {x y : Int} (h : bef j x y) (l : List Int) : tS j (x :: y :: l) ≤ tS j (y :: x :: l) := by
  unfold bef at h
  simp only [tS_cons, sB_cons]
  omega
theorem tS_mono {x : Int} {l k : List Int} (hB : sB j l = sB j k) (h : tS j l ≤ tS j k) : tS j (x :: l) ≤ tS j (x :: k) := by
  simp only [tS_cons, hB]
  omega
theorem bef_aux (p q : Two) (x y : Int) (h : jK p < jK q ∨ jK p = jK q ∧ (jV p < jV q ∨ jV p = jV q ∧ x ≤ y)) : min p.cut q.sew ≤ min q.cut p.sew := by
  unfold jK jV at h
  by_cases f1 : p.cut ≤ p.sew <;> by_cases f2 : q.cut ≤ q.sew <;> simp only [f1, f2, if_true, if_false] at h <;> omega
theorem leJ_bef {x y : Int} (h : leJ j x y = true) : bef j x y :=
  bef_aux _ _ x y (by simpa only [leJ, decide_eq_true_eq] using h)
/-- Insertion into a sorted row. -/
def ins (j : List Two) (x : Int) : List Int → List Int
  | [] => [x]
  | y :: l => if leJ j x y then x :: y :: l else y :: ins j x l
theorem ins_perm (x : Int) : ∀ l, (ins j x l).Perm (x :: l)
  | [] => List.Perm.refl _
  | y :: l => by
    simp only [ins]
    split
    · exact List.Perm.refl _
    · exact ((ins_perm x l).cons y).trans (List.Perm.swap x y l)
theorem ins_srt (x : Int) : ∀ l, Srt (leJ j) l → Srt (leJ j) (ins j x l)
  | [], _ => List.pairwise_singleton _ _
  | y :: l, h => by
    obtain ⟨h1, h2⟩ := List.pairwise_cons.1 h
    simp only [ins]
    split
    · rename_i hxy
      exact List.pairwise_cons.2 ⟨fun z hz => by
        rcases List.mem_cons.1 hz with rfl | hz
        · exact hxy
        · exact (leJ_to j).tr _ _ _ hxy (h1 z hz), h⟩
    · rename_i hxy
      refine List.pairwise_cons.2 ⟨fun z hz => ?_, ins_srt x l h2⟩
      rcases List.mem_cons.1 ((ins_perm x l).mem_iff.1 hz) with rfl | hz
      · exact (leJ_to j).of_not (by simpa using hxy)
      · exact h1 z hz
theorem sB_perm {l k : List Int} (h : l.Perm k) : sB j l = sB j k := sumI_perm (h.map _)
theorem ins_tS (hlim : ∀ x, 0 ≤ aI j x ∧ 0 ≤ bI j x) (x : Int) : ∀ l, tS j (ins j x l) ≤ tS j (x :: l)
  | [] => Int.le_refl _
  | y :: l => by
    simp only [ins]
    split
    · exact Int.le_refl _
    · rename_i hxy
      have h1 : tS j (y :: ins j x l) ≤ tS j (y :: x :: l) := tS_mono (sB_perm (ins_perm x l)) (ins_tS hlim x l)
      exact Int.le_trans h1 (swap_tS (leJ_bef ((leJ_to j).of_not (by simpa using hxy))) l)
def isrt (j : List Two) : List Int → List Int
  | [] => []
  | x :: l => ins j x (isrt j l)
theorem isrt_perm : ∀ l, (isrt j l).Perm l
  | [] => List.Perm.refl _
  | x :: l => (ins_perm x _).trans ((isrt_perm l).cons x)
theorem isrt_srt : ∀ l, Srt (leJ j) (isrt j l)
  | [] => List.Pairwise.nil
  | x :: l => ins_srt x _ (isrt_srt l)
theorem isrt_tS (hlim : ∀ x, 0 ≤ aI j x ∧ 0 ≤ bI j x) : ∀ l, tS j (isrt j l) ≤ tS j l
  | [] => Int.le_refl _
  | x :: l => Int.le_trans (ins_tS hlim x _) (tS_mono (sB_perm (isrt_perm l)) (isrt_tS hlim l))
theorem johnL_order (j : List Two) : orderB (johnL j) j.length = true :=
  orderB_iff.2 ⟨johnL_len j, fun x hx => mem_upI.1 (ms_mem.1 hx), (ms_perm.nodup_iff).2 (upI_nodup _)⟩
theorem order_perm {l : List Int} {n : Nat} (h : orderB l n = true) : l.Perm (upI n) := by
  simp only [orderB, Bool.and_eq_true, decide_eq_true_eq] at h
  have := (List.mergeSort_perm l (fun x y => decide (x ≤ y))).symm
  have e := h.2
  unfold srt at e
  rwa [e] at this
/-- No order has a smaller span than Johnson's. -/
theorem johnson_best (hlim : tlim j) {l : List Int} (ho : orderB l j.length = true) : (spanF j (nat (johnL j))).2 ≤ (spanF j (nat l)).2 := by
  have hl : ∀ x, 0 ≤ aI j x ∧ 0 ≤ bI j x := fun x => by
    have := lim_pos hlim x.toNat
    exact ⟨this.1, this.2.2.1⟩
  have e : johnL j = isrt j l := ms_of (leJ_to j) ((isrt_perm l).trans (order_perm ho)) (isrt_srt l)
  have h1 := fold_tS (fun x => (hl x).2) (johnL j) 0 0 (Int.le_refl _)
  have h2 := fold_tS (fun x => (hl x).2) l 0 0 (Int.le_refl _)
  have h3 : tS j (johnL j) ≤ tS j l := by rw [e]; exact isrt_tS hl l
  have h4 : sB j (johnL j) = sB j l := by rw [e]; exact sB_perm (isrt_perm l)
  unfold spanF
  rw [h1, h2]
  omega
end
end Go.Proofs.Ytmomjannlnafcaa.Abs
