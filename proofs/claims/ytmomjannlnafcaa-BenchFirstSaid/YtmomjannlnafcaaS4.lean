/- slices: the symmetric merge, whole; stable sorting of at most 40 elements. -/
import Derived.Test.YtmomjannlnafcaaS3
namespace Go.Proofs.Ytmomjannlnafcaa.Abs
set_option linter.unusedSimpArgs false
set_option linter.unusedVariables false
open Go.RowKit
open Go.Proofs.Ytmomjannlnafcaa.Sim
open Go.Proofs
section
variable {m : AM} {r s : Nat} {kd : Kind} {le : Int → Int → Bool} {c : Int → Int → Int} {p : Int → Prop} {g : FuncId} {cap : Array Value} {fn : Func} {bd : Code}
-- function 129
set_option maxHeartbeats 4000000 in
set_option maxRecDepth 100000 in
theorem f129_ok (hC : CmpOk m r s kd c p g cap) (hT : TO le) (hf : Try.prog.funcs[g]? = some fn) (hb : fn.body = some bd) (n : Nat) (hlim : n ≤ 1000000) : ∀ (N a b d : Nat) (P A B W : List Int), A.length + B.length ≤ N → P.length = a → a + A.length = b → b + B.length = d → 0 < A.length → 0 < B.length → (P ++ A ++ B ++ W).length = n →
    (∀ x ∈ A, p x) → (∀ x ∈ B, p x) → (∀ x ∈ A, ∀ y ∈ B, Cross le c x y) → Srt le A → Srt le B →
    ACall Try.prog 129 #[.slice (some ⟨r, 0, none⟩) n n, .int .i64 (a : Nat), .int .i64 (b : Nat), .int .i64 (d : Nat), .func (.func g) #[] cap] (St m r kd s (P ++ A ++ B ++ W)) (Ret (.tuple #[]) (St m r kd s (P ++ ms le (A ++ B) ++ W))) := by
  intro N
  induction N with
  | zero => intros; omega
  | succ N ih =>
  intro a b d P A B W hN ha hab hbd hA hB hn hpA hpB hX hsA hsB
  by_cases hA1 : A.length = 1
  · obtain ⟨x, rfl⟩ : ∃ x, A = [x] := List.length_eq_one_iff.1 hA1
    exact f129_l hC hT hf hb a b d n P B W x ha (by simpa using hab) hbd hB hn hlim (hpA x (by simp)) hpB (fun y hy => hX x (by simp) y hy) hsB
  by_cases hB1 : B.length = 1
  · obtain ⟨y, rfl⟩ : ∃ y, B = [y] := List.length_eq_one_iff.1 hB1
    subst hab
    simp only [List.length_cons, List.length_nil] at hbd
    subst hbd
    exact f129_r hC hT hf hb a n P A W y ha (by omega) hn hlim (hpB y (by simp)) hpA (fun x hx => hX x hx y (by simp)) hsA
  subst hab
  subst hbd
  have hr := hC.hr; have hkd := hC.hkd
  have hlen : P.length + A.length + B.length + W.length = n := by rw [← hn]; simp only [List.length_append]
  obtain ⟨h, hh⟩ : ∃ h, h = (A.length + B.length) / 2 := ⟨_, rfl⟩
  refine ACall.intro Try.func129 rfl (Nat.le_of_ble_eq_true rfl) ?_
  have e1 : ((a : Nat) : Int) + ((a + A.length + B.length : Nat) : Int) = ((a + (a + A.length + B.length) : Nat) : Int) := by omega
  have e2 : ((a + (a + A.length + B.length) : Nat) : Int) / 2 = ((a + h : Nat) : Int) := by omega
  have e3 : ((a + h : Nat) : Int) + ((a + A.length : Nat) : Int) = ((a + h + (a + A.length) : Nat) : Int) := by omega
  have e5 : ((a + h + (a + A.length) : Nat) : Int) - 1 = ((a + h + (a + A.length) - 1 : Nat) : Int) := by omega
  have e6 : h - B.length + B.length = h ∨ h ≤ B.length := by omega
  (repeat (first | (with_reducible refine AWo.cons ?_) | ((with_reducible refine Step.id ?_); first | ((with_reducible apply Step.move); exact rfl; exact rfl) | ((with_reducible apply Step.assign); exact rfl; exact rfl) | ((with_reducible apply Step.addE); exact rfl; exact rfl; (focus (assumption)); (focus (omega)); exact rfl) | ((with_reducible apply Step.halfE); exact rfl; exact rfl; (focus (assumption)); (focus (omega)); exact rfl) | ((with_reducible apply Step.toU); exact rfl; exact un3i; exact un46u; (focus (omega)); exact rfl) | ((with_reducible apply Step.toI); exact rfl; exact un46u; exact un3i; (focus (omega)); exact rfl) | ((with_reducible apply Step.sub); exact rfl; exact rfl; (focus (omega)); exact rfl) | ((with_reducible apply Step.gtr); exact rfl; exact rfl; exact rfl) | ((with_reducible apply Step.eql); exact rfl; exact rfl; exact rfl)) | (with_reducible refine AWo.nil ?_) | ((with_reducible apply AW.seq)) | ((with_reducible apply Then.n)) | ((with_reducible apply AW.regL)) | ((with_reducible apply AW.skip)) | ((with_reducible apply AW.condF); exact rfl; (focus ((simp only [decide_eq_true_eq, decide_eq_false_iff_not, Bool.not_eq_true', Bool.not_eq_false', Bool.not_true, Bool.not_false]; first | assumption | omega))))))
  refine AW.join (fun t M => ∃ q w : Nat, h - B.length = q ∧ w = min A.length h ∧ All (fun i v => t i = some v) [(0, .slice (some ⟨r, 0, none⟩) n n), (1, .int .i64 (a : Nat)), (2, .int .i64 ((a + A.length : Nat) : Int)), (3, .int .i64 ((a + A.length + B.length : Nat) : Int)), (4, .func (.func g) #[] cap), (18, .int .i64 ((a + h : Nat) : Int)), (19, .int .i64 ((a + h + (a + A.length) : Nat) : Int)), (20, .int .i64 ((a + q : Nat) : Int)), (21, .int .i64 ((a + w : Nat) : Int))] ∧
    M = St m r kd s (P ++ A ++ B ++ W)) ?_ ?_
  · rcases Nat.lt_or_ge h A.length with hc | hc
    · have e4 : ((a + h + (a + A.length) : Nat) : Int) - ((a + A.length + B.length : Nat) : Int) = ((a + (h - B.length) : Nat) : Int) := by omega
      (repeat (first | (with_reducible refine AWo.cons ?_) | ((with_reducible refine Step.id ?_); first | ((with_reducible apply Step.move); exact rfl; exact rfl) | ((with_reducible apply Step.assign); exact rfl; exact rfl) | ((with_reducible apply Step.subE); exact rfl; exact rfl; (focus (assumption)); (focus (omega)); exact rfl)) | (with_reducible refine AWo.nil ?_) | ((with_reducible apply AW.seq)) | ((with_reducible apply Then.n)) | ((with_reducible apply AW.regL)) | ((with_reducible apply AW.condT); exact rfl; (focus ((simp only [decide_eq_true_eq, decide_eq_false_iff_not, Bool.not_eq_true', Bool.not_eq_false', Bool.not_true, Bool.not_false]; first | assumption | omega))))))
      exact ⟨h - B.length, h, rfl, by omega, (by repeat (first | exact trivial | (refine And.intro rfl ?_))), rfl⟩
    · (repeat (first | (with_reducible refine AWo.cons ?_) | ((with_reducible refine Step.id ?_); first | ((with_reducible apply Step.move); exact rfl; exact rfl) | ((with_reducible apply Step.assign); exact rfl; exact rfl)) | (with_reducible refine AWo.nil ?_) | ((with_reducible apply AW.seq)) | ((with_reducible apply Then.n)) | ((with_reducible apply AW.regL)) | ((with_reducible apply AW.condF); exact rfl; (focus ((simp only [decide_eq_true_eq, decide_eq_false_iff_not, Bool.not_eq_true', Bool.not_eq_false', Bool.not_true, Bool.not_false]; first | assumption | omega))))))
      exact ⟨0, A.length, by omega, by omega, (by repeat (first | exact trivial | (refine And.intro rfl ?_))), rfl⟩
  rintro t M ⟨q0, w0, hq0, hw0, hall, rfl⟩
  refine AW.weak (fr_all hall) ?_
  (repeat (first | (with_reducible refine AWo.cons ?_) | ((with_reducible refine Step.id ?_); first | ((with_reducible apply Step.move); exact rfl; exact rfl) | ((with_reducible apply Step.assign); exact rfl; exact rfl) | ((with_reducible apply Step.subE); exact rfl; exact rfl; (focus (assumption)); (focus (omega)); exact rfl)) | (with_reducible refine AWo.nil ?_) | ((with_reducible apply AW.seq)) | ((with_reducible apply Then.n)) | ((with_reducible apply AW.regL)) | ((with_reducible apply AW.block))))
  refine AW.loopW (fun u t M => ∃ (q w : Nat), u = w - q ∧ h - B.length ≤ q ∧ q ≤ w ∧ w ≤ min A.length h ∧ (∀ k, h - B.length ≤ k → k < q → le (A.getD k 0) (B.getD (h - 1 - k) 0) = true) ∧ (∀ k, w ≤ k → k < min A.length h → le (A.getD k 0) (B.getD (h - 1 - k) 0) = false) ∧
    t = fr [(0, .slice (some ⟨r, 0, none⟩) n n), (1, .int .i64 (a : Nat)), (2, .int .i64 ((a + A.length : Nat) : Int)), (3, .int .i64 ((a + A.length + B.length : Nat) : Int)), (4, .func (.func g) #[] cap), (18, .int .i64 ((a + h : Nat) : Int)), (19, .int .i64 ((a + h + (a + A.length) : Nat) : Int)), (20, .int .i64 ((a + q : Nat) : Int)), (21, .int .i64 ((a + w : Nat) : Int)), (22, .int .i64 ((a + h + (a + A.length) - 1 : Nat) : Int))] ∧
    M = St m r kd s (P ++ A ++ B ++ W)) ⟨_, _, (by repeat (first | exact trivial | (refine And.intro rfl ?_))), q0, w0, rfl, by omega, by omega, by omega, by omega, by omega, rfl, rfl⟩ ?_
  rintro u t M ⟨q, w, rfl, hq1, hqw, hw, h1, h2, rfl, rfl⟩
  rcases Nat.lt_or_ge q w with hlt | hge
  · obtain ⟨k, hk⟩ : ∃ k, k = (q + w) / 2 := ⟨_, rfl⟩
    have f1 : ((a + q : Nat) : Int) + ((a + w : Nat) : Int) = ((a + q + (a + w) : Nat) : Int) := by omega
    have f2 : ((a + q + (a + w) : Nat) : Int) / 2 = ((a + k : Nat) : Int) := by omega
    have f3 : ((a + h + (a + A.length) - 1 : Nat) : Int) - ((a + k : Nat) : Int) = ((a + A.length + (h - 1 - k) : Nat) : Int) := by omega
    have r1 : Rd (St m r kd s (P ++ A ++ B ++ W)) r (a + k) (.int .i64 (A.getD k 0)) := by rw [← get_mid (B := B) (W := W) ha (show k < A.length by omega)]; exact St.rd hr (by omega)
    have r2 : Rd (St m r kd s (P ++ A ++ B ++ W)) r (a + A.length + (h - 1 - k)) (.int .i64 (B.getD (h - 1 - k) 0)) := by rw [← get_right (P := P) (A := A) (W := W) (a := a + A.length) (by rw [List.length_append]; omega) (show h - 1 - k < B.length by omega)]; exact St.rd hr (by omega)
    have hmA : A.getD k 0 ∈ A := by simp [show k < A.length by omega]
    have hmB : B.getD (h - 1 - k) 0 ∈ B := by simp [show h - 1 - k < B.length by omega]
    have hc := hC.call (P ++ A ++ B ++ W) (B.getD (h - 1 - k) 0) (A.getD k 0) (hpB _ hmB) (hpA _ hmA)
    have hx := hX _ hmA _ hmB
    have mA : ∀ i j, i ≤ j → j < A.length → le (A.getD i 0) (A.getD j 0) = true := fun i j h1 h2 => srt_getE hT hsA h1 h2
    have mB : ∀ i j, i ≤ j → j < B.length → le (B.getD i 0) (B.getD j 0) = true := fun i j h1 h2 => srt_getE hT hsB h1 h2
    by_cases hlt2 : c (B.getD (h - 1 - k) 0) (A.getD k 0) < 0
    · have hxf := hx.1 hlt2
      generalize (P ++ A ++ B ++ W) = row at *
      (repeat (first | (with_reducible refine AWo.cons ?_) | ((with_reducible refine Step.id ?_); first | ((with_reducible apply Step.move); exact rfl; exact rfl) | ((with_reducible apply Step.assign); exact rfl; exact rfl) | ((with_reducible apply Step.load); exact rfl; (focus (decide +kernel)); exact rfl; (focus (assumption))) | ((with_reducible apply Step.ix1z); exact rfl; (focus (exact Sl.mk (by omega))); exact rfl; (focus (decide +kernel)); exact rfl; (focus (omega))) | ((with_reducible apply Step.addE); exact rfl; exact rfl; (focus (assumption)); (focus (omega)); exact rfl) | ((with_reducible apply Step.subE); exact rfl; exact rfl; (focus (assumption)); (focus (omega)); exact rfl) | ((with_reducible apply Step.halfE); exact rfl; exact rfl; (focus (assumption)); (focus (omega)); exact rfl) | ((with_reducible apply Step.toU); exact rfl; exact un3i; exact un46u; (focus (omega)); exact rfl) | ((with_reducible apply Step.toI); exact rfl; exact un46u; exact un3i; (focus (omega)); exact rfl) | ((with_reducible apply Step.lss); exact rfl; exact rfl; exact rfl) | ((with_reducible apply Step.not); exact rfl; exact rfl) | ((with_reducible apply Step.callV fit); exact rfl; exact rfl; exact hf; exact hb; exact rfl; exact (hc))) | (with_reducible refine AWo.nil ?_) | ((with_reducible apply AW.seq)) | ((with_reducible apply Then.n)) | ((with_reducible apply AW.regL)) | ((with_reducible apply AW.block)) | ((with_reducible apply AW.drawL fit); (focus (decide +kernel))) | ((with_reducible apply InBlk.n)) | ((with_reducible apply AW.skip)) | ((with_reducible apply AW.condT); exact rfl; (focus ((simp only [decide_eq_true_eq, decide_eq_false_iff_not, Bool.not_eq_true', Bool.not_eq_false', Bool.not_true, Bool.not_false]; first | assumption | omega)))) | ((with_reducible apply AW.condF); exact rfl; (focus ((simp only [decide_eq_true_eq, decide_eq_false_iff_not, Bool.not_eq_true', Bool.not_eq_false', Bool.not_true, Bool.not_false]; first | assumption | omega))))))
      refine ⟨_, _, ?_, (by repeat (first | exact trivial | (refine And.intro rfl ?_))), q, k, rfl, by omega, by omega, by omega, h1, fun j hj hj2 => ?_, rfl, rfl⟩
      · omega
      · cases hq : le (A.getD j 0) (B.getD (h - 1 - j) 0) with
        | false => rfl
        | true => rw [hT.tr _ _ _ (mA k j hj (by omega)) (hT.tr _ _ _ hq (mB (h - 1 - j) (h - 1 - k) (by omega) (by omega)))] at hxf; cases hxf
    · have hxt : le (A.getD k 0) (B.getD (h - 1 - k) 0) = true := by
        cases hq : le (A.getD k 0) (B.getD (h - 1 - k) 0) with
        | true => rfl
        | false => exact absurd (hx.2 hq) hlt2
      generalize (P ++ A ++ B ++ W) = row at *
      (repeat (first | (with_reducible refine AWo.cons ?_) | ((with_reducible refine Step.id ?_); first | ((with_reducible apply Step.move); exact rfl; exact rfl) | ((with_reducible apply Step.assign); exact rfl; exact rfl) | ((with_reducible apply Step.load); exact rfl; (focus (decide +kernel)); exact rfl; (focus (assumption))) | ((with_reducible apply Step.ix1z); exact rfl; (focus (exact Sl.mk (by omega))); exact rfl; (focus (decide +kernel)); exact rfl; (focus (omega))) | ((with_reducible apply Step.addE); exact rfl; exact rfl; (focus (assumption)); (focus (omega)); exact rfl) | ((with_reducible apply Step.subE); exact rfl; exact rfl; (focus (assumption)); (focus (omega)); exact rfl) | ((with_reducible apply Step.halfE); exact rfl; exact rfl; (focus (assumption)); (focus (omega)); exact rfl) | ((with_reducible apply Step.toU); exact rfl; exact un3i; exact un46u; (focus (omega)); exact rfl) | ((with_reducible apply Step.toI); exact rfl; exact un46u; exact un3i; (focus (omega)); exact rfl) | ((with_reducible apply Step.add); exact rfl; exact rfl; (focus (omega)); exact rfl) | ((with_reducible apply Step.lss); exact rfl; exact rfl; exact rfl) | ((with_reducible apply Step.not); exact rfl; exact rfl) | ((with_reducible apply Step.callV fit); exact rfl; exact rfl; exact hf; exact hb; exact rfl; exact (hc))) | (with_reducible refine AWo.nil ?_) | ((with_reducible apply AW.seq)) | ((with_reducible apply Then.n)) | ((with_reducible apply AW.regL)) | ((with_reducible apply AW.block)) | ((with_reducible apply AW.drawL fit); (focus (decide +kernel))) | ((with_reducible apply InBlk.n)) | ((with_reducible apply AW.skip)) | ((with_reducible apply AW.condT); exact rfl; (focus ((simp only [decide_eq_true_eq, decide_eq_false_iff_not, Bool.not_eq_true', Bool.not_eq_false', Bool.not_true, Bool.not_false]; first | assumption | omega))))))
      refine ⟨_, _, ?_, (by repeat (first | exact trivial | (refine And.intro rfl ?_))), k + 1, w, rfl, by omega, by omega, hw, fun j hj hj2 => ?_, h2, rfl, rfl⟩
      · omega
      · exact hT.tr _ _ _ (mA j k (by omega) (by omega)) (hT.tr _ _ _ hxt (mB (h - 1 - k) (h - 1 - j) (by omega) (by omega)))
  · obtain rfl : q = w := by omega
    clear e1 e2 e3 e5 e6 hall hq0 hw0
    have hcut := sym_cut hT hsA hsB hq1 hw h1 h2
    obtain ⟨A1, hA1'⟩ : ∃ A1, A1 = A.take q := ⟨_, rfl⟩
    obtain ⟨A2, hA2'⟩ : ∃ A2, A2 = A.drop q := ⟨_, rfl⟩
    obtain ⟨B1, hB1'⟩ : ∃ B1, B1 = B.take (h - q) := ⟨_, rfl⟩
    obtain ⟨B2, hB2'⟩ : ∃ B2, B2 = B.drop (h - q) := ⟨_, rfl⟩
    have hAA : A = A1 ++ A2 := by rw [hA1', hA2', List.take_append_drop]
    have hBB : B = B1 ++ B2 := by rw [hB1', hB2', List.take_append_drop]
    have lA1 : A1.length = q := by rw [hA1']; simp; omega
    have lB1 : B1.length = h - q := by rw [hB1']; simp; omega
    rw [← hA1', ← hA2', ← hB1', ← hB2'] at hcut
    clear hA1' hA2' hB1' hB2' h1 h2
    have lA2 : A2.length + q = A.length := by rw [hAA, List.length_append]; omega
    have lB2 : B2.length + (h - q) = B.length := by rw [hBB, List.length_append]; omega
    have sA1 : Srt le A1 ∧ Srt le A2 := by rw [hAA] at hsA; exact ⟨(List.pairwise_append.1 hsA).1, (List.pairwise_append.1 hsA).2.1⟩
    have sB1 : Srt le B1 ∧ Srt le B2 := by rw [hBB] at hsB; exact ⟨(List.pairwise_append.1 hsB).1, (List.pairwise_append.1 hsB).2.1⟩
    have mA1 : ∀ x ∈ A1, x ∈ A := fun x hx => by rw [hAA]; simp [hx]
    have mA2 : ∀ x ∈ A2, x ∈ A := fun x hx => by rw [hAA]; simp [hx]
    have mB1 : ∀ x ∈ B1, x ∈ B := fun x hx => by rw [hBB]; simp [hx]
    have mB2 : ∀ x ∈ B2, x ∈ B := fun x hx => by rw [hBB]; simp [hx]
    obtain ⟨r0, hr0⟩ : ∃ r0, r0 = P ++ A ++ B ++ W := ⟨_, rfl⟩
    obtain ⟨r1, hr1⟩ : ∃ r1, r1 = P ++ A1 ++ B1 ++ (A2 ++ B2 ++ W) := ⟨_, rfl⟩
    obtain ⟨r2, hr2⟩ : ∃ r2, r2 = (P ++ ms le (A1 ++ B1)) ++ A2 ++ B2 ++ W := ⟨_, rfl⟩
    obtain ⟨r3, hr3⟩ : ∃ r3, r3 = P ++ ms le (A ++ B) ++ W := ⟨_, rfl⟩
    have hr2' : r2 = P ++ ms le (A1 ++ B1) ++ (A2 ++ B2 ++ W) := by rw [hr2]; simp
    have hr3' : r3 = (P ++ ms le (A1 ++ B1)) ++ ms le (A2 ++ B2) ++ W := by rw [hr3, hcut]; simp
    have n1 : ¬(q < A.length ∧ q < h) → r0 = r1 := fun hno => by
      rw [hr0, hr1, hAA, hBB]
      rcases Nat.lt_or_ge q A.length with x1 | x1
      · obtain rfl : B1 = [] := List.eq_nil_of_length_eq_zero (by omega)
        simp
      · obtain rfl : A2 = [] := List.eq_nil_of_length_eq_zero (by omega)
        simp
    have n2 : ¬(0 < q ∧ q < h) → r1 = r2 := fun hno => by
      rw [hr1, hr2']
      rcases Nat.lt_or_ge 0 q with x1 | x1
      · obtain rfl : B1 = [] := List.eq_nil_of_length_eq_zero (by omega)
        simp only [List.append_nil]; rw [ms_self hT sA1.1]; try simp
      · obtain rfl : A1 = [] := List.eq_nil_of_length_eq_zero (by omega)
        simp only [List.nil_append]; rw [ms_self hT sB1.1]; try simp
    have n3 : ¬(q < A.length ∧ h - q < B.length) → r2 = r3 := fun hno => by
      rw [hr2, hr3']
      rcases Nat.lt_or_ge q A.length with x1 | x1
      · obtain rfl : B2 = [] := List.eq_nil_of_length_eq_zero (by omega)
        simp only [List.append_nil]; rw [ms_self hT sA1.2]; try simp
      · obtain rfl : A2 = [] := List.eq_nil_of_length_eq_zero (by omega)
        simp only [List.nil_append]; rw [ms_self hT sB1.2]; try simp
    have c1 : ∀ row, row = r0 → (q < A.length ∧ q < h) → ACall Try.prog 141 #[.slice (some ⟨r, 0, none⟩) n n, .int .i64 ((a + q : Nat) : Int), .int .i64 ((a + A.length : Nat) : Int), .int .i64 ((a + A.length + (h - q) : Nat) : Int), .func (.func g) #[] cap] (St m r kd s row) (Ret (.tuple #[]) (St m r kd s r1)) := fun row hrow hcc => by
      have hr0' : r0 = (P ++ A1) ++ A2 ++ B1 ++ (B2 ++ W) := by rw [hr0, hAA, hBB]; simp
      have hr1' : r1 = (P ++ A1) ++ B1 ++ A2 ++ (B2 ++ W) := by rw [hr1]; simp
      rw [hrow, hr0', hr1']
      exact f141_ok hr hkd _ _ _ n (P ++ A1) A2 B1 (B2 ++ W) (by rw [List.length_append]; omega) (by omega) (by omega) (by omega) (by omega) (by simp only [List.length_append]; omega) hlim
    have c2 : ∀ row, row = r1 → (0 < q ∧ q < h) → ACall Try.prog 129 #[.slice (some ⟨r, 0, none⟩) n n, .int .i64 (a : Nat), .int .i64 ((a + q : Nat) : Int), .int .i64 ((a + h : Nat) : Int), .func (.func g) #[] cap] (St m r kd s row) (Ret (.tuple #[]) (St m r kd s r2)) := fun row hrow hcc => by
      rw [hrow, hr1, hr2']
      exact ih a (a + q) (a + h) P A1 B1 (A2 ++ B2 ++ W) (by omega) ha (by omega) (by omega) (by omega) (by omega) (by simp only [List.length_append]; omega) (fun x hx => hpA x (mA1 x hx)) (fun x hx => hpB x (mB1 x hx)) (fun x hx y hy => hX x (mA1 x hx) y (mB1 y hy)) sA1.1 sB1.1
    have c3 : ∀ row, row = r2 → (q < A.length ∧ h - q < B.length) → ACall Try.prog 129 #[.slice (some ⟨r, 0, none⟩) n n, .int .i64 ((a + h : Nat) : Int), .int .i64 ((a + A.length + (h - q) : Nat) : Int), .int .i64 ((a + A.length + B.length : Nat) : Int), .func (.func g) #[] cap] (St m r kd s row) (Ret (.tuple #[]) (St m r kd s r3)) := fun row hrow hcc => by
      rw [hrow, hr2, hr3']
      exact ih (a + h) (a + A.length + (h - q)) (a + A.length + B.length) (P ++ ms le (A1 ++ B1)) A2 B2 W (by omega) (by rw [List.length_append, ms_len, List.length_append]; omega) (by omega) (by omega) (by omega) (by omega) (by simp only [List.length_append, ms_len]; omega) (fun x hx => hpA x (mA2 x hx)) (fun x hx => hpB x (mB2 x hx)) (fun x hx y hy => hX x (mA2 x hx) y (mB2 y hy)) sA1.2 sB1.2
    have g1 : ((a + h + (a + A.length) : Nat) : Int) - ((a + q : Nat) : Int) = ((a + A.length + (h - q) : Nat) : Int) := by omega
    rw [← hr0, ← hr3]
    clear hr0 hr1 hr2 hr3 hr2' hr3' hcut ih hX hpA hpB hn
    by_cases k1 : q < A.length <;> by_cases k2 : q < h <;> by_cases k3 : 0 < q <;> by_cases k4 : h - q < B.length
    all_goals first
      | (exfalso; omega)
      | ((repeat (first | (with_reducible refine AWo.cons ?_) | ((with_reducible refine Step.id ?_); first | ((with_reducible apply Step.gdT); exact rfl; exact rfl; (focus ((simp only [decide_eq_true_eq, decide_eq_false_iff_not, Bool.not_eq_true', Bool.not_eq_false', Bool.not_true, Bool.not_false]; first | assumption | omega)))) | ((with_reducible apply Step.gdF); exact rfl; exact rfl; (focus ((simp only [decide_eq_true_eq, decide_eq_false_iff_not, Bool.not_eq_true', Bool.not_eq_false', Bool.not_true, Bool.not_false]; first | assumption | omega)))) | ((with_reducible apply Step.move); exact rfl; exact rfl) | ((with_reducible apply Step.assign); exact rfl; exact rfl) | ((with_reducible apply Step.subE); exact rfl; exact rfl; (focus (assumption)); (focus (omega)); exact rfl) | ((with_reducible apply Step.lss); exact rfl; exact rfl; exact rfl) | ((with_reducible apply Step.pickT); exact rfl; exact rfl; exact rfl; exact rfl; (focus ((simp only [decide_eq_true_eq, decide_eq_false_iff_not, Bool.not_eq_true', Bool.not_eq_false', Bool.not_true, Bool.not_false]; first | assumption | omega)))) | ((with_reducible apply Step.pickF); exact rfl; exact rfl; exact rfl; exact rfl; (focus ((simp only [decide_eq_true_eq, decide_eq_false_iff_not, Bool.not_eq_true', Bool.not_eq_false', Bool.not_true, Bool.not_false]; first | assumption | omega)))) | ((with_reducible apply Step.callM fit); exact rfl; exact Try.func141; exact rfl; exact rfl; exact ((c1 _ rfl (by omega)))) | ((with_reducible apply Step.callM fit); exact rfl; exact Try.func129; exact rfl; exact rfl; exact ((c2 _ (by first | rfl | exact n1 (by omega)) (by omega)))) | ((with_reducible apply Step.callM fit); exact rfl; exact Try.func129; exact rfl; exact rfl; exact ((c3 _ (by first | rfl | exact n2 (by omega) | exact (n1 (by omega)).trans (n2 (by omega))) (by omega))))) | (with_reducible refine AWo.nil ?_) | ((with_reducible apply AW.seq)) | ((with_reducible apply Then.n)) | ((with_reducible apply AW.regL)) | ((with_reducible apply AW.exit)) | ((with_reducible apply InBlk.hit)) | ((with_reducible apply Then.e)) | ((with_reducible apply AW.skip)) | ((with_reducible apply AW.condT); exact rfl; (focus ((simp only [decide_eq_true_eq, decide_eq_false_iff_not, Bool.not_eq_true', Bool.not_eq_false', Bool.not_true, Bool.not_false]; first | assumption | omega)))) | ((with_reducible apply AW.condF); exact rfl; (focus (first | rfl | (simp only [decide_eq_true_eq, decide_eq_false_iff_not, Bool.not_eq_true', Bool.not_eq_false', Bool.not_true, Bool.not_false]; first | assumption | omega))))))
         refine ⟨_, rfl, rfl, ?_⟩
         first | rfl | (rw [n3 (by omega)]; done) | (rw [n2 (by omega), n3 (by omega)]; done) | (rw [n1 (by omega), n2 (by omega), n3 (by omega)]; done) | (rw [n2 (by omega)]; done))
end
end Go.Proofs.Ytmomjannlnafcaa.Abs
