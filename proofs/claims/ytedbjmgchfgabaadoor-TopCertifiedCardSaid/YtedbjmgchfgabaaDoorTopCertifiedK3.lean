/- Proved here: what the proof of TopCertified rests on, part 3 of 5. Conditions: those that each theorem names. -/
import Derived.Test.YtedbjmgchfgabaaDoorTopCertifiedK2
namespace Go.Proofs.YtedbjmgchfgabaaDoor.Abs
set_option linter.unusedSimpArgs false
set_option linter.unusedVariables false
open Go.RowKit
open Go.Proofs.YtedbjmgchfgabaaDoor.Sim
open Go.Proofs
theorem rowB_no {n : Nat} {s : ByteArray} {i : Nat} (hi : i < s.size) (h : ¬ (48 ≤ byteAt s i ∧ byteAt s i ≤ 57)) : rowB n s = false := by
  rw [Bool.eq_false_iff]
  intro hc
  simp only [rowB, Bool.and_eq_true, List.all_eq_true, List.mem_range, decide_eq_true_eq] at hc
  exact h (hc.2 i hi)
theorem rowB_yes {n : Nat} {s : ByteArray} (hs : s.size = n) (h : ∀ i, i < s.size → 48 ≤ byteAt s i ∧ byteAt s i ≤ 57) : rowB n s = true := by
  simp only [rowB, Bool.and_eq_true, List.all_eq_true, List.mem_range, decide_eq_true_eq]
  exact ⟨hs, h⟩
set_option maxRecDepth 100000 in
theorem RValid_ok {m : AM} {sv : Value} {B : Brd} (hs : Strs m sv B) : ACall Tryd.prog 9 #[sv] m (Ret (.bool (skinB B)) m) := by
  obtain ⟨A, O, sl, la, rd⟩ := hs
  refine ACall.start Tryd.func9 rfl rfl ?_
  by_cases h1 : B.length < 1
  · have e : skinB B = false := by simp [skinB]; omega
    (repeat (first | (with_reducible refine AWo.cons ?_) | ((with_reducible refine Step.id ?_); first | ((with_reducible apply Step.gdF); exact rfl; exact rfl; (focus (first | rfl | (simp only [decide_eq_true_eq, decide_eq_false_iff_not, Bool.not_eq_true', Bool.not_eq_false', Bool.not_true, Bool.not_false]; first | assumption | omega)))) | ((with_reducible apply Step.move); exact rfl; exact rfl) | ((with_reducible apply Step.assign); exact rfl; exact rfl) | ((with_reducible apply Step.lss); exact rfl; exact rfl; exact rfl) | ((with_reducible apply Step.len); exact rfl; (focus (assumption)); (focus (decide +kernel)); exact rfl) | ((with_reducible apply Step.pickT); exact rfl; exact rfl; exact rfl; exact rfl; (focus (first | rfl | (simp only [decide_eq_true_eq, decide_eq_false_iff_not, Bool.not_eq_true', Bool.not_eq_false', Bool.not_true, Bool.not_false]; first | assumption | omega))))) | (with_reducible refine AWo.nil ?_) | ((with_reducible apply AW.seq)) | ((with_reducible apply Then.n)) | ((with_reducible apply AW.regL)) | ((with_reducible apply AW.condT); exact rfl; (focus (rfl)))))
    (refine AW.retD (l := [(2, _)]) (by repeat (first | exact trivial | (refine And.intro ⟨rfl, by (exact .bool _)⟩ ?_))) ?_; (repeat (first | refine Then.r ?_ | refine InBlk.r ?_)))
    exact ⟨_, rfl, by rw [e], rfl⟩
  by_cases h2 : 48 < B.length
  · have e : skinB B = false := by simp [skinB]; omega
    (repeat (first | (with_reducible refine AWo.cons ?_) | ((with_reducible refine Step.id ?_); first | ((with_reducible apply Step.gdT); exact rfl; exact rfl; (focus ((simp only [decide_eq_true_eq, decide_eq_false_iff_not, Bool.not_eq_true', Bool.not_eq_false', Bool.not_true, Bool.not_false]; first | assumption | omega)))) | ((with_reducible apply Step.gdF); exact rfl; exact rfl; (focus (first | rfl | (simp only [decide_eq_true_eq, decide_eq_false_iff_not, Bool.not_eq_true', Bool.not_eq_false', Bool.not_true, Bool.not_false]; first | assumption | omega)))) | ((with_reducible apply Step.move); exact rfl; exact rfl) | ((with_reducible apply Step.assign); exact rfl; exact rfl) | ((with_reducible apply Step.lss); exact rfl; exact rfl; exact rfl) | ((with_reducible apply Step.gtr); exact rfl; exact rfl; exact rfl) | ((with_reducible apply Step.len); exact rfl; (focus (assumption)); (focus (decide +kernel)); exact rfl) | ((with_reducible apply Step.pickT); exact rfl; exact rfl; exact rfl; exact rfl; (focus (first | rfl | (simp only [decide_eq_true_eq, decide_eq_false_iff_not, Bool.not_eq_true', Bool.not_eq_false', Bool.not_true, Bool.not_false]; first | assumption | omega)))) | ((with_reducible apply Step.pickF); exact rfl; exact rfl; exact rfl; exact rfl; (focus ((simp only [decide_eq_true_eq, decide_eq_false_iff_not, Bool.not_eq_true', Bool.not_eq_false', Bool.not_true, Bool.not_false]; first | assumption | omega))))) | (with_reducible refine AWo.nil ?_) | ((with_reducible apply AW.seq)) | ((with_reducible apply Then.n)) | ((with_reducible apply AW.regL)) | ((with_reducible apply AW.condT); exact rfl; (focus (rfl)))))
    (refine AW.retD (l := [(2, _)]) (by repeat (first | exact trivial | (refine And.intro ⟨rfl, by (exact .bool _)⟩ ?_))) ?_; (repeat (first | refine Then.r ?_ | refine InBlk.r ?_)))
    exact ⟨_, rfl, by rw [e], rfl⟩
  have r0 := rd 0 (by omega)
  by_cases h3 : (rowOf B 0).size < 1
  · have e : skinB B = false := by simp [skinB]; omega
    (repeat (first | (with_reducible refine AWo.cons ?_) | ((with_reducible refine Step.id ?_); first | ((with_reducible apply Step.gdT); exact rfl; exact rfl; (focus ((simp only [decide_eq_true_eq, decide_eq_false_iff_not, Bool.not_eq_true', Bool.not_eq_false', Bool.not_true, Bool.not_false]; first | assumption | omega)))) | ((with_reducible apply Step.gdF); exact rfl; exact rfl; (focus ((simp only [decide_eq_true_eq, decide_eq_false_iff_not, Bool.not_eq_true', Bool.not_eq_false', Bool.not_true, Bool.not_false]; first | assumption | omega)))) | ((with_reducible apply Step.move); exact rfl; exact rfl) | ((with_reducible apply Step.assign); exact rfl; exact rfl) | ((with_reducible apply Step.load); exact rfl; (focus (decide +kernel)); exact rfl; (focus (exact Rd.old _ (by assumption)))) | ((with_reducible apply Step.ix1 (k := 0)); exact rfl; (focus (assumption)); exact rfl; (focus (decide +kernel)); exact rfl; (focus (omega))) | ((with_reducible apply Step.lenS); exact rfl; exact un9; exact rfl) | ((with_reducible apply Step.lss); exact rfl; exact rfl; exact rfl) | ((with_reducible apply Step.gtr); exact rfl; exact rfl; exact rfl) | ((with_reducible apply Step.len); exact rfl; (focus (assumption)); (focus (decide +kernel)); exact rfl) | ((with_reducible apply Step.pickT); exact rfl; exact rfl; exact rfl; exact rfl; (focus ((simp only [decide_eq_true_eq, decide_eq_false_iff_not, Bool.not_eq_true', Bool.not_eq_false', Bool.not_true, Bool.not_false]; first | assumption | omega)))) | ((with_reducible apply Step.pickF); exact rfl; exact rfl; exact rfl; exact rfl; (focus ((simp only [decide_eq_true_eq, decide_eq_false_iff_not, Bool.not_eq_true', Bool.not_eq_false', Bool.not_true, Bool.not_false]; first | assumption | omega))))) | (with_reducible refine AWo.nil ?_) | ((with_reducible apply AW.seq)) | ((with_reducible apply Then.n)) | ((with_reducible apply AW.regL)) | ((with_reducible apply AW.condT); exact rfl; (focus (rfl)))))
    (refine AW.retD (l := [(2, _)]) (by repeat (first | exact trivial | (refine And.intro ⟨rfl, by (exact .bool _)⟩ ?_))) ?_; (repeat (first | refine Then.r ?_ | refine InBlk.r ?_)))
    exact ⟨_, rfl, by rw [e], rfl⟩
  by_cases h4 : 48 < (rowOf B 0).size
  · have e : skinB B = false := by simp [skinB]; omega
    (repeat (first | (with_reducible refine AWo.cons ?_) | ((with_reducible refine Step.id ?_); first | ((with_reducible apply Step.gdT); exact rfl; exact rfl; (focus ((simp only [decide_eq_true_eq, decide_eq_false_iff_not, Bool.not_eq_true', Bool.not_eq_false', Bool.not_true, Bool.not_false]; first | assumption | omega)))) | ((with_reducible apply Step.move); exact rfl; exact rfl) | ((with_reducible apply Step.assign); exact rfl; exact rfl) | ((with_reducible apply Step.load); exact rfl; (focus (decide +kernel)); exact rfl; (focus (exact Rd.old _ (by assumption)))) | ((with_reducible apply Step.ix1 (k := 0)); exact rfl; (focus (assumption)); exact rfl; (focus (decide +kernel)); exact rfl; (focus (omega))) | ((with_reducible apply Step.lenS); exact rfl; exact un9; exact rfl) | ((with_reducible apply Step.lss); exact rfl; exact rfl; exact rfl) | ((with_reducible apply Step.gtr); exact rfl; exact rfl; exact rfl) | ((with_reducible apply Step.len); exact rfl; (focus (assumption)); (focus (decide +kernel)); exact rfl) | ((with_reducible apply Step.pickF); exact rfl; exact rfl; exact rfl; exact rfl; (focus ((simp only [decide_eq_true_eq, decide_eq_false_iff_not, Bool.not_eq_true', Bool.not_eq_false', Bool.not_true, Bool.not_false]; first | assumption | omega))))) | (with_reducible refine AWo.nil ?_) | ((with_reducible apply AW.seq)) | ((with_reducible apply Then.n)) | ((with_reducible apply AW.regL)) | ((with_reducible apply AW.condT); exact rfl; (focus ((simp only [decide_eq_true_eq, decide_eq_false_iff_not, Bool.not_eq_true', Bool.not_eq_false', Bool.not_true, Bool.not_false]; first | assumption | omega))))))
    (refine AW.retD (l := [(2, _)]) (by repeat (first | exact trivial | (refine And.intro ⟨rfl, by (exact .bool _)⟩ ?_))) ?_; (repeat (first | refine Then.r ?_ | refine InBlk.r ?_)))
    exact ⟨_, rfl, by rw [e], rfl⟩
  have hk := skinB_rows (B := B) (by omega)
  (repeat (first | (with_reducible refine AWo.cons ?_) | ((with_reducible refine Step.id ?_); first | ((with_reducible apply Step.gdT); exact rfl; exact rfl; (focus ((simp only [decide_eq_true_eq, decide_eq_false_iff_not, Bool.not_eq_true', Bool.not_eq_false', Bool.not_true, Bool.not_false]; first | assumption | omega)))) | ((with_reducible apply Step.move); exact rfl; exact rfl) | ((with_reducible apply Step.assign); exact rfl; exact rfl) | ((with_reducible apply Step.load); exact rfl; (focus (decide +kernel)); exact rfl; (focus (exact Rd.old _ (by assumption)))) | ((with_reducible apply Step.ix1 (k := 0)); exact rfl; (focus (assumption)); exact rfl; (focus (decide +kernel)); exact rfl; (focus (omega))) | ((with_reducible apply Step.lenS); exact rfl; exact un9; exact rfl) | ((with_reducible apply Step.lss); exact rfl; exact rfl; exact rfl) | ((with_reducible apply Step.gtr); exact rfl; exact rfl; exact rfl) | ((with_reducible apply Step.len); exact rfl; (focus (assumption)); (focus (decide +kernel)); exact rfl) | ((with_reducible apply Step.pickF); exact rfl; exact rfl; exact rfl; exact rfl; (focus ((simp only [decide_eq_true_eq, decide_eq_false_iff_not, Bool.not_eq_true', Bool.not_eq_false', Bool.not_true, Bool.not_false]; first | assumption | omega))))) | (with_reducible refine AWo.nil ?_) | ((with_reducible apply AW.seq)) | ((with_reducible apply Then.n)) | ((with_reducible apply AW.regL)) | ((with_reducible apply AW.block)) | ((with_reducible apply AW.skip)) | ((with_reducible apply AW.condF); exact rfl; (focus ((simp only [decide_eq_true_eq, decide_eq_false_iff_not, Bool.not_eq_true', Bool.not_eq_false', Bool.not_true, Bool.not_false]; first | assumption | omega))))))
  refine AW.loopT (fun n t L => ∃ k : Nat, n = B.length - k ∧ k ≤ B.length ∧ L = [] ∧ (∀ y, y < k → rowB (rowOf B 0).size (rowOf B y) = true) ∧
    t = [(0, sv), (28, sv), (29, .int .i64 (B.length : Nat)), (30, .int .i64 (k : Nat))])
    ⟨_, _, _, (Or.inl ⟨rfl, (by repeat (first | exact trivial | (refine And.intro rfl ?_)))⟩), 0, rfl, Nat.zero_le _, rfl, fun y hy => by omega, rfl⟩ ?_
  rintro n t L ⟨k, rfl, hkk, rfl, hr, rfl⟩
  rcases Nat.lt_or_ge k B.length with hlt | hge
  · have rk := rd k hlt
    by_cases h5 : (rowOf B k).size = (rowOf B 0).size
    · (repeat (first | (with_reducible refine AWo.cons ?_) | ((with_reducible refine Step.id ?_); first | ((with_reducible apply Step.move); exact rfl; exact rfl) | ((with_reducible apply Step.assign); exact rfl; exact rfl) | ((with_reducible apply Step.load); exact rfl; (focus (decide +kernel)); exact rfl; (focus (exact Rd.old _ (by assumption)))) | ((with_reducible apply Step.ix1); exact rfl; (focus (assumption)); exact rfl; (focus (decide +kernel)); exact rfl; (focus (omega))) | ((with_reducible apply Step.ix1 (k := 0)); exact rfl; (focus (assumption)); exact rfl; (focus (decide +kernel)); exact rfl; (focus (omega))) | ((with_reducible apply Step.lenS); exact rfl; exact un9; exact rfl) | ((with_reducible apply Step.lss); exact rfl; exact rfl; exact rfl) | ((with_reducible apply Step.neq); exact rfl; exact rfl; exact rfl)) | (with_reducible refine AWo.nil ?_) | ((with_reducible apply AW.seq)) | ((with_reducible apply Then.n)) | ((with_reducible apply AW.regL)) | ((with_reducible apply AW.block)) | ((with_reducible apply AW.skip)) | ((with_reducible apply AW.condT); exact rfl; (focus ((simp only [decide_eq_true_eq, decide_eq_false_iff_not, Bool.not_eq_true', Bool.not_eq_false', Bool.not_true, Bool.not_false]; first | assumption | omega)))) | ((with_reducible apply AW.condF); exact rfl; (focus ((simp only [decide_eq_true_eq, decide_eq_false_iff_not, Bool.not_eq_true', Bool.not_eq_false', Bool.not_true, Bool.not_false]; first | assumption | omega))))))
      refine AW.loopT (fun n t L => ∃ i : Nat, n = (rowOf B k).size - i ∧ i ≤ (rowOf B k).size ∧ L = [] ∧ (∀ j, j < i → 48 ≤ byteAt (rowOf B k) j ∧ byteAt (rowOf B k) j ≤ 57) ∧
        t = [(0, sv), (4, .string (rowOf B k)), (28, sv), (29, .int .i64 (B.length : Nat)), (30, .int .i64 (k : Nat)), (42, .int .i64 ((rowOf B k).size : Nat)), (43, .int .i64 (i : Nat))])
        ⟨_, _, _, (Or.inl ⟨rfl, (by repeat (first | exact trivial | (refine And.intro rfl ?_)))⟩), 0, rfl, Nat.zero_le _, rfl, fun y hy => by omega, rfl⟩ ?_
      rintro n t L ⟨i, rfl, hi, rfl, hc, rfl⟩
      rcases Nat.lt_or_ge i (rowOf B k).size with hil | hig
      · by_cases h6 : byteAt (rowOf B k) i < 48
        · (repeat (first | (with_reducible refine AWo.cons ?_) | ((with_reducible refine Step.id ?_); first | ((with_reducible apply Step.gdF); exact rfl; exact rfl; (focus ((simp only [decide_eq_true_eq, decide_eq_false_iff_not, Bool.not_eq_true', Bool.not_eq_false', Bool.not_true, Bool.not_false]; first | assumption | omega)))) | ((with_reducible apply Step.move); exact rfl; exact rfl) | ((with_reducible apply Step.assign); exact rfl; exact rfl) | ((with_reducible apply Step.strIx); exact rfl; exact rfl; exact un9; (focus (omega)); exact rfl) | ((with_reducible apply Step.lss); exact rfl; exact rfl; exact rfl) | ((with_reducible apply Step.pickT); exact rfl; exact rfl; exact rfl; exact rfl; (focus ((simp only [decide_eq_true_eq, decide_eq_false_iff_not, Bool.not_eq_true', Bool.not_eq_false', Bool.not_true, Bool.not_false]; first | assumption | omega))))) | (with_reducible refine AWo.nil ?_) | ((with_reducible apply AW.seq)) | ((with_reducible apply Then.n)) | ((with_reducible apply AW.regL)) | ((with_reducible apply AW.block)) | ((with_reducible apply AW.skip)) | ((with_reducible apply AW.condT); exact rfl; (focus (first | rfl | (simp only [decide_eq_true_eq, decide_eq_false_iff_not, Bool.not_eq_true', Bool.not_eq_false', Bool.not_true, Bool.not_false]; first | assumption | omega))))))
          (refine AW.retD (l := [(2, _)]) (by repeat (first | exact trivial | (refine And.intro ⟨rfl, by (exact .bool _)⟩ ?_))) ?_; (repeat (first | refine Then.r ?_ | refine InBlk.r ?_)))
          exact ⟨_, rfl, by rw [hk, not_rows hlt (rowB_no hil (by omega))], rfl⟩
        by_cases h7 : 57 < byteAt (rowOf B k) i
        · (repeat (first | (with_reducible refine AWo.cons ?_) | ((with_reducible refine Step.id ?_); first | ((with_reducible apply Step.gdT); exact rfl; exact rfl; (focus ((simp only [decide_eq_true_eq, decide_eq_false_iff_not, Bool.not_eq_true', Bool.not_eq_false', Bool.not_true, Bool.not_false]; first | assumption | omega)))) | ((with_reducible apply Step.move); exact rfl; exact rfl) | ((with_reducible apply Step.assign); exact rfl; exact rfl) | ((with_reducible apply Step.strIx); exact rfl; exact rfl; exact un9; (focus (omega)); exact rfl) | ((with_reducible apply Step.lss); exact rfl; exact rfl; exact rfl) | ((with_reducible apply Step.gtr); exact rfl; exact rfl; exact rfl) | ((with_reducible apply Step.pickF); exact rfl; exact rfl; exact rfl; exact rfl; (focus ((simp only [decide_eq_true_eq, decide_eq_false_iff_not, Bool.not_eq_true', Bool.not_eq_false', Bool.not_true, Bool.not_false]; first | assumption | omega))))) | (with_reducible refine AWo.nil ?_) | ((with_reducible apply AW.seq)) | ((with_reducible apply Then.n)) | ((with_reducible apply AW.regL)) | ((with_reducible apply AW.block)) | ((with_reducible apply AW.skip)) | ((with_reducible apply AW.condT); exact rfl; (focus ((simp only [decide_eq_true_eq, decide_eq_false_iff_not, Bool.not_eq_true', Bool.not_eq_false', Bool.not_true, Bool.not_false]; first | assumption | omega))))))
          (refine AW.retD (l := [(2, _)]) (by repeat (first | exact trivial | (refine And.intro ⟨rfl, by (exact .bool _)⟩ ?_))) ?_; (repeat (first | refine Then.r ?_ | refine InBlk.r ?_)))
          exact ⟨_, rfl, by rw [hk, not_rows hlt (rowB_no hil (by omega))], rfl⟩
        (repeat (first | (with_reducible refine AWo.cons ?_) | ((with_reducible refine Step.id ?_); first | ((with_reducible apply Step.gdT); exact rfl; exact rfl; (focus ((simp only [decide_eq_true_eq, decide_eq_false_iff_not, Bool.not_eq_true', Bool.not_eq_false', Bool.not_true, Bool.not_false]; first | assumption | omega)))) | ((with_reducible apply Step.move); exact rfl; exact rfl) | ((with_reducible apply Step.assign); exact rfl; exact rfl) | ((with_reducible apply Step.strIx); exact rfl; exact rfl; exact un9; (focus (omega)); exact rfl) | ((with_reducible apply Step.add); exact rfl; exact rfl; (focus (omega)); exact rfl) | ((with_reducible apply Step.lss); exact rfl; exact rfl; exact rfl) | ((with_reducible apply Step.gtr); exact rfl; exact rfl; exact rfl) | ((with_reducible apply Step.pickF); exact rfl; exact rfl; exact rfl; exact rfl; (focus ((simp only [decide_eq_true_eq, decide_eq_false_iff_not, Bool.not_eq_true', Bool.not_eq_false', Bool.not_true, Bool.not_false]; first | assumption | omega))))) | (with_reducible refine AWo.nil ?_) | ((with_reducible apply AW.seq)) | ((with_reducible apply Then.n)) | ((with_reducible apply AW.regL)) | ((with_reducible apply AW.block)) | ((with_reducible apply InBlk.n)) | ((with_reducible apply AW.skip)) | ((with_reducible apply AW.condT); exact rfl; (focus ((simp only [decide_eq_true_eq, decide_eq_false_iff_not, Bool.not_eq_true', Bool.not_eq_false', Bool.not_true, Bool.not_false]; first | assumption | omega)))) | ((with_reducible apply AW.condF); exact rfl; (focus ((simp only [decide_eq_true_eq, decide_eq_false_iff_not, Bool.not_eq_true', Bool.not_eq_false', Bool.not_true, Bool.not_false]; first | assumption | omega))))))
        exact ⟨_, _, _, by omega, (Or.inl ⟨rfl, (by repeat (first | exact trivial | (refine And.intro rfl ?_)))⟩), i + 1, rfl, by omega, rfl, fun y hy => by
          rcases Nat.lt_succ_iff_lt_or_eq.1 hy with h | rfl
          · exact hc y h
          · omega, rfl⟩
      · obtain rfl : i = (rowOf B k).size := by omega
        (repeat (first | (with_reducible refine AWo.cons ?_) | ((with_reducible refine Step.id ?_); first | ((with_reducible apply Step.move); exact rfl; exact rfl) | ((with_reducible apply Step.add); exact rfl; exact rfl; (focus (omega)); exact rfl) | ((with_reducible apply Step.lss); exact rfl; exact rfl; exact rfl)) | (with_reducible refine AWo.nil ?_) | ((with_reducible apply AW.seq)) | ((with_reducible apply Then.n)) | ((with_reducible apply AW.regL)) | ((with_reducible apply AW.exit)) | ((with_reducible apply InBlk.n)) | ((with_reducible apply InBlk.hit)) | ((with_reducible apply Then.e)) | ((with_reducible apply AW.condF); exact rfl; (focus ((simp only [decide_eq_true_eq, decide_eq_false_iff_not, Bool.not_eq_true', Bool.not_eq_false', Bool.not_true, Bool.not_false]; first | assumption | omega))))))
        exact ⟨_, _, _, by omega, (Or.inl ⟨rfl, (by repeat (first | exact trivial | (refine And.intro rfl ?_)))⟩), k + 1, rfl, by omega, rfl, fun y hy => by
          rcases Nat.lt_succ_iff_lt_or_eq.1 hy with h | rfl
          · exact hr y h
          · exact rowB_yes h5 hc, rfl⟩
    · (repeat (first | (with_reducible refine AWo.cons ?_) | ((with_reducible refine Step.id ?_); first | ((with_reducible apply Step.move); exact rfl; exact rfl) | ((with_reducible apply Step.assign); exact rfl; exact rfl) | ((with_reducible apply Step.load); exact rfl; (focus (decide +kernel)); exact rfl; (focus (exact Rd.old _ (by assumption)))) | ((with_reducible apply Step.ix1); exact rfl; (focus (assumption)); exact rfl; (focus (decide +kernel)); exact rfl; (focus (omega))) | ((with_reducible apply Step.ix1 (k := 0)); exact rfl; (focus (assumption)); exact rfl; (focus (decide +kernel)); exact rfl; (focus (omega))) | ((with_reducible apply Step.lenS); exact rfl; exact un9; exact rfl) | ((with_reducible apply Step.lss); exact rfl; exact rfl; exact rfl) | ((with_reducible apply Step.neq); exact rfl; exact rfl; exact rfl)) | (with_reducible refine AWo.nil ?_) | ((with_reducible apply AW.seq)) | ((with_reducible apply Then.n)) | ((with_reducible apply AW.regL)) | ((with_reducible apply AW.block)) | ((with_reducible apply AW.skip)) | ((with_reducible apply AW.condT); exact rfl; (focus ((simp only [decide_eq_true_eq, decide_eq_false_iff_not, Bool.not_eq_true', Bool.not_eq_false', Bool.not_true, Bool.not_false]; first | assumption | omega))))))
      (refine AW.retD (l := [(2, _)]) (by repeat (first | exact trivial | (refine And.intro ⟨rfl, by (exact .bool _)⟩ ?_))) ?_; (repeat (first | refine Then.r ?_ | refine InBlk.r ?_)))
      exact ⟨_, rfl, by rw [hk, not_rows hlt (by simp [rowB, h5])], rfl⟩
  · obtain rfl : k = B.length := by omega
    (repeat (first | (with_reducible refine AWo.cons ?_) | ((with_reducible refine Step.id ?_); first | ((with_reducible apply Step.assign); exact rfl; exact rfl) | ((with_reducible apply Step.lss); exact rfl; exact rfl; exact rfl)) | (with_reducible refine AWo.nil ?_) | ((with_reducible apply AW.seq)) | ((with_reducible apply Then.n)) | ((with_reducible apply AW.regL)) | ((with_reducible apply AW.exit)) | ((with_reducible apply InBlk.hit)) | ((with_reducible apply Then.e)) | ((with_reducible apply AW.condF); exact rfl; (focus ((simp only [decide_eq_true_eq, decide_eq_false_iff_not, Bool.not_eq_true', Bool.not_eq_false', Bool.not_true, Bool.not_false]; first | assumption | omega))))))
    (refine AW.retD (l := [(2, _)]) (by repeat (first | exact trivial | (refine And.intro ⟨rfl, by (exact .bool _)⟩ ?_))) ?_; (repeat (first | refine Then.r ?_ | refine InBlk.r ?_)))
    exact ⟨_, rfl, by rw [hk, all_rows hr], rfl⟩
set_option maxRecDepth 100000 in
theorem RBoard_ok {m : AM} {sv : Value} {B : Brd} (hs : Strs m sv B) : ACall Tryd.prog 32 #[sv] m (Ret (.bool (boardB B)) m) := by
  have hV := fun T => RValid_ok (hs.old T)
  obtain ⟨A, O, sl, la, rd⟩ := hs
  refine ACall.start Tryd.func32 rfl rfl ?_
  cases hv : skinB B with
  | false =>
    rw [hv] at hV
    (repeat (first | (with_reducible refine AWo.cons ?_) | ((with_reducible refine Step.id ?_); first | ((with_reducible apply Step.gdF); exact rfl; exact rfl; (focus (rfl))) | ((with_reducible apply Step.move); exact rfl; exact rfl) | ((with_reducible apply Step.assign); exact rfl; exact rfl) | ((with_reducible apply Step.pickF); exact rfl; exact rfl; exact rfl; exact rfl; (focus (rfl))) | ((with_reducible apply Step.callR fit); exact rfl; exact Tryd.func9; exact rfl; exact rfl; exact (hV _))) | (with_reducible refine AWo.nil ?_) | ((with_reducible apply AW.seq)) | ((with_reducible apply Then.n)) | ((with_reducible apply AW.regL))))
    (refine AW.retD (l := [(2, _)]) (by repeat (first | exact trivial | (refine And.intro ⟨rfl, by (exact .bool _)⟩ ?_))) ?_; (repeat (first | refine Then.r ?_ | refine InBlk.r ?_)))
    exact ⟨_, rfl, by simp [boardB, hv], rfl⟩
  | true =>
    rw [hv] at hV
    have hvv := hv
    simp only [skinB, Bool.and_eq_true, decide_eq_true_eq] at hvv
    have r0 := rd 0 (by omega)
    by_cases h1 : B.length ≤ 16
    · (repeat (first | (with_reducible refine AWo.cons ?_) | ((with_reducible refine Step.id ?_); first | ((with_reducible apply Step.gdT); exact rfl; exact rfl; (focus (first | rfl | (simp only [decide_eq_true_eq, decide_eq_false_iff_not, Bool.not_eq_true', Bool.not_eq_false', Bool.not_true, Bool.not_false]; first | assumption | omega)))) | ((with_reducible apply Step.move); exact rfl; exact rfl) | ((with_reducible apply Step.assign); exact rfl; exact rfl) | ((with_reducible apply Step.load); exact rfl; (focus (decide +kernel)); exact rfl; (focus (exact Rd.old _ (by assumption)))) | ((with_reducible apply Step.ix1 (k := 0)); exact rfl; (focus (assumption)); exact rfl; (focus (decide +kernel)); exact rfl; (focus (omega))) | ((with_reducible apply Step.lenS); exact rfl; exact un9; exact rfl) | ((with_reducible apply Step.leq); exact rfl; exact rfl; exact rfl) | ((with_reducible apply Step.len); exact rfl; (focus (assumption)); (focus (decide +kernel)); exact rfl) | ((with_reducible apply Step.pickT); exact rfl; exact rfl; exact rfl; exact rfl; (focus (first | rfl | (simp only [decide_eq_true_eq, decide_eq_false_iff_not, Bool.not_eq_true', Bool.not_eq_false', Bool.not_true, Bool.not_false]; first | assumption | omega)))) | ((with_reducible apply Step.callR fit); exact rfl; exact Tryd.func9; exact rfl; exact rfl; exact (hV _))) | (with_reducible refine AWo.nil ?_) | ((with_reducible apply AW.seq)) | ((with_reducible apply Then.n)) | ((with_reducible apply AW.regL))))
      (refine AW.retD (l := [(2, _)]) (by repeat (first | exact trivial | (refine And.intro ⟨rfl, by (exact .bool _)⟩ ?_))) ?_; (repeat (first | refine Then.r ?_ | refine InBlk.r ?_)))
      exact ⟨_, rfl, by simp [boardB, hv, h1]; congr 1; constructor <;> intro h <;> omega, rfl⟩
    · (repeat (first | (with_reducible refine AWo.cons ?_) | ((with_reducible refine Step.id ?_); first | ((with_reducible apply Step.gdT); exact rfl; exact rfl; (focus (rfl))) | ((with_reducible apply Step.gdF); exact rfl; exact rfl; (focus ((simp only [decide_eq_true_eq, decide_eq_false_iff_not, Bool.not_eq_true', Bool.not_eq_false', Bool.not_true, Bool.not_false]; first | assumption | omega)))) | ((with_reducible apply Step.move); exact rfl; exact rfl) | ((with_reducible apply Step.assign); exact rfl; exact rfl) | ((with_reducible apply Step.leq); exact rfl; exact rfl; exact rfl) | ((with_reducible apply Step.len); exact rfl; (focus (assumption)); (focus (decide +kernel)); exact rfl) | ((with_reducible apply Step.pickT); exact rfl; exact rfl; exact rfl; exact rfl; (focus (rfl))) | ((with_reducible apply Step.pickF); exact rfl; exact rfl; exact rfl; exact rfl; (focus ((simp only [decide_eq_true_eq, decide_eq_false_iff_not, Bool.not_eq_true', Bool.not_eq_false', Bool.not_true, Bool.not_false]; first | assumption | omega)))) | ((with_reducible apply Step.callR fit); exact rfl; exact Tryd.func9; exact rfl; exact rfl; exact (hV _))) | (with_reducible refine AWo.nil ?_) | ((with_reducible apply AW.seq)) | ((with_reducible apply Then.n)) | ((with_reducible apply AW.regL))))
      (refine AW.retD (l := [(2, _)]) (by repeat (first | exact trivial | (refine And.intro ⟨rfl, by (exact .bool _)⟩ ?_))) ?_; (repeat (first | refine Then.r ?_ | refine InBlk.r ?_)))
      exact ⟨_, rfl, by simp [boardB, hv, h1], rfl⟩
theorem ze33 : zeroB Tryd.prog 32 = some #[.int .i64 0, .int .i64 0, .int .i64 0, .int .i64 0, .bool false] := by kernel_rfl
set_option maxHeartbeats 4000000 in
set_option maxRecDepth 100000 in
theorem RKinds_ok {m : AM} {kv : Value} {K : List Kd} (hk : Kds m kv K) : ACall Tryd.prog 33 #[kv] m (Ret (.bool (kindsB K)) m) := by
  obtain ⟨A, O, sl, la, rd⟩ := hk
  obtain ⟨q, c, rfl⟩ := sl.shape
  have wl : Low m.length (.slice q K.length c) := Low.of_sl sl la
  refine ACall.start Tryd.func33 rfl rfl ?_
  by_cases h1 : 12 < K.length
  · (repeat (first | (with_reducible refine AWo.cons ?_) | ((with_reducible refine Step.id ?_); first | ((with_reducible apply Step.move); exact rfl; exact rfl) | ((with_reducible apply Step.assign); exact rfl; exact rfl) | ((with_reducible apply Step.gtr); exact rfl; exact rfl; exact rfl) | ((with_reducible apply Step.len); exact rfl; (focus (assumption)); (focus (decide +kernel)); exact rfl)) | (with_reducible refine AWo.nil ?_) | ((with_reducible apply AW.seq)) | ((with_reducible apply Then.n)) | ((with_reducible apply AW.regL)) | ((with_reducible apply AW.condT); exact rfl; (focus ((simp only [decide_eq_true_eq, decide_eq_false_iff_not, Bool.not_eq_true', Bool.not_eq_false', Bool.not_true, Bool.not_false]; first | assumption | omega))))))
    (refine AW.retD (l := [(2, _)]) (by repeat (first | exact trivial | (refine And.intro ⟨rfl, by (exact .bool _)⟩ ?_))) ?_; (repeat (first | refine Then.r ?_ | refine InBlk.r ?_)))
    exact ⟨_, rfl, by simp [kindsB]; omega, rfl⟩
  (repeat (first | (with_reducible refine AWo.cons ?_) | ((with_reducible refine Step.id ?_); first | ((with_reducible apply Step.move); exact rfl; exact rfl) | ((with_reducible apply Step.assign); exact rfl; exact rfl) | ((with_reducible apply Step.gtr); exact rfl; exact rfl; exact rfl) | ((with_reducible apply Step.len); exact rfl; (focus (assumption)); (focus (decide +kernel)); exact rfl)) | (with_reducible refine AWo.nil ?_) | ((with_reducible apply AW.seq)) | ((with_reducible apply Then.n)) | ((with_reducible apply AW.regL)) | ((with_reducible apply AW.block)) | ((with_reducible apply AW.skip)) | ((with_reducible apply AW.condF); exact rfl; (focus ((simp only [decide_eq_true_eq, decide_eq_false_iff_not, Bool.not_eq_true', Bool.not_eq_false', Bool.not_true, Bool.not_false]; first | assumption | omega))))))
  refine AW.loopT (fun n t L => ∃ i : Nat, n = K.length - i ∧ i ≤ K.length ∧ L = [] ∧ (∀ j, j < i → kdB (K.getD j default) = true) ∧
    t = [(0, .slice q K.length c), (8, .slice q K.length c), (9, .int .i64 (K.length : Nat)), (10, .int .i64 (i : Nat))])
    ⟨_, _, _, (Or.inl ⟨rfl, (by repeat (first | exact trivial | (refine And.intro rfl ?_)))⟩), 0, rfl, Nat.zero_le _, rfl, fun j hj => by omega, rfl⟩ ?_
  rintro n t L ⟨i, rfl, hi, rfl, hd, rfl⟩
  rcases Nat.lt_or_ge i K.length with hlt | hge
  · have rk := rd i hlt
    cases hkd : kdB (K.getD i default) with
    | false =>
      have e := kinds_no hlt hkd
      generalize K.getD i default = k at rk hkd
      obtain ⟨kw, kh, kg, ko, kt⟩ := k
      simp only [kdB, decide_eq_false_iff_not] at hkd
      simp only [Kd.cells] at rk
      by_cases h2 : kw < 1
      · (repeat (first | (with_reducible refine AWo.cons ?_) | ((with_reducible refine Step.id ?_); first | ((with_reducible apply Step.gdF); exact rfl; exact rfl; (focus (first | rfl | (simp only [decide_eq_true_eq, decide_eq_false_iff_not, Bool.not_eq_true', Bool.not_eq_false', Bool.not_true, Bool.not_false]; first | assumption | omega)))) | ((with_reducible apply Step.move); exact rfl; exact rfl) | ((with_reducible apply Step.assign); exact rfl; exact rfl) | ((with_reducible apply Step.load); exact rfl; (focus (decide +kernel)); exact rfl; (focus (exact Rd.new rfl rfl))) | ((with_reducible apply Step.loadL (n := 5)); exact rfl; (focus (decide +kernel)); (focus (decide +kernel)); exact rfl; (focus (exact RdL.old _ (by assumption))); exact rfl; exact rfl) | ((with_reducible apply Step.ix (s := 5)); exact rfl; (focus (assumption)); exact rfl; (focus (decide +kernel)); exact rfl; (focus (omega))) | ((with_reducible apply Step.field0); exact rfl; (focus (decide +kernel)); exact rfl) | ((with_reducible apply Step.lss); exact rfl; exact rfl; exact rfl) | ((with_reducible apply Step.pickT); exact rfl; exact rfl; exact rfl; exact rfl; (focus (first | rfl | (simp only [decide_eq_true_eq, decide_eq_false_iff_not, Bool.not_eq_true', Bool.not_eq_false', Bool.not_true, Bool.not_false]; first | assumption | omega)))) | ((with_reducible apply Step.alloc 0); exact rfl; exact ze33; exact rfl; (focus (first | (simp only [List.nil_append, List.cons_append, List.set_cons_zero, List.set_cons_succ, iv_set, bv_set, iv_rep, bv_rep]; done) | (simp only [List.nil_append, List.cons_append, List.set_cons_zero, List.set_cons_succ, iv_set, bv_set, iv_rep, bv_rep]; rfl) | rfl))) | ((with_reducible apply Step.storeA (k := 0) (n := 5)); exact rfl; exact rfl; exact rfl; exact rfl; (focus (decide +kernel)); exact rfl; (focus (kernel_rfl)); exact rfl; (focus (first | (simp only [List.nil_append, List.cons_append, List.set_cons_zero, List.set_cons_succ, iv_set, bv_set, iv_rep, bv_rep]; done) | (simp only [List.nil_append, List.cons_append, List.set_cons_zero, List.set_cons_succ, iv_set, bv_set, iv_rep, bv_rep]; rfl) | rfl)))) | (with_reducible refine AWo.nil ?_) | ((with_reducible apply AW.seq)) | ((with_reducible apply Then.n)) | ((with_reducible apply AW.regL)) | ((with_reducible apply AW.block)) | ((with_reducible apply AW.skip)) | ((with_reducible apply AW.condT); exact rfl; (focus (first | rfl | (simp only [decide_eq_true_eq, decide_eq_false_iff_not, Bool.not_eq_true', Bool.not_eq_false', Bool.not_true, Bool.not_false]; first | assumption | omega))))))
        (refine AW.retD (l := [(2, _)]) (by repeat (first | exact trivial | (refine And.intro ⟨rfl, by (exact .bool _)⟩ ?_))) ?_; (repeat (first | refine Then.r ?_ | refine InBlk.r ?_)))
        exact ⟨_, rfl, by rw [e], rfl⟩
      by_cases h3 : 16 < kw
      · (repeat (first | (with_reducible refine AWo.cons ?_) | ((with_reducible refine Step.id ?_); first | ((with_reducible apply Step.gdT); exact rfl; exact rfl; (focus ((simp only [decide_eq_true_eq, decide_eq_false_iff_not, Bool.not_eq_true', Bool.not_eq_false', Bool.not_true, Bool.not_false]; first | assumption | omega)))) | ((with_reducible apply Step.gdF); exact rfl; exact rfl; (focus (first | rfl | (simp only [decide_eq_true_eq, decide_eq_false_iff_not, Bool.not_eq_true', Bool.not_eq_false', Bool.not_true, Bool.not_false]; first | assumption | omega)))) | ((with_reducible apply Step.move); exact rfl; exact rfl) | ((with_reducible apply Step.assign); exact rfl; exact rfl) | ((with_reducible apply Step.load); exact rfl; (focus (decide +kernel)); exact rfl; (focus (exact Rd.new rfl rfl))) | ((with_reducible apply Step.loadL (n := 5)); exact rfl; (focus (decide +kernel)); (focus (decide +kernel)); exact rfl; (focus (exact RdL.old _ (by assumption))); exact rfl; exact rfl) | ((with_reducible apply Step.ix (s := 5)); exact rfl; (focus (assumption)); exact rfl; (focus (decide +kernel)); exact rfl; (focus (omega))) | ((with_reducible apply Step.field0); exact rfl; (focus (decide +kernel)); exact rfl) | ((with_reducible apply Step.lss); exact rfl; exact rfl; exact rfl) | ((with_reducible apply Step.gtr); exact rfl; exact rfl; exact rfl) | ((with_reducible apply Step.pickT); exact rfl; exact rfl; exact rfl; exact rfl; (focus (first | rfl | (simp only [decide_eq_true_eq, decide_eq_false_iff_not, Bool.not_eq_true', Bool.not_eq_false', Bool.not_true, Bool.not_false]; first | assumption | omega)))) | ((with_reducible apply Step.pickF); exact rfl; exact rfl; exact rfl; exact rfl; (focus ((simp only [decide_eq_true_eq, decide_eq_false_iff_not, Bool.not_eq_true', Bool.not_eq_false', Bool.not_true, Bool.not_false]; first | assumption | omega)))) | ((with_reducible apply Step.alloc 0); exact rfl; exact ze33; exact rfl; (focus (first | (simp only [List.nil_append, List.cons_append, List.set_cons_zero, List.set_cons_succ, iv_set, bv_set, iv_rep, bv_rep]; done) | (simp only [List.nil_append, List.cons_append, List.set_cons_zero, List.set_cons_succ, iv_set, bv_set, iv_rep, bv_rep]; rfl) | rfl))) | ((with_reducible apply Step.storeA (k := 0) (n := 5)); exact rfl; exact rfl; exact rfl; exact rfl; (focus (decide +kernel)); exact rfl; (focus (kernel_rfl)); exact rfl; (focus (first | (simp only [List.nil_append, List.cons_append, List.set_cons_zero, List.set_cons_succ, iv_set, bv_set, iv_rep, bv_rep]; done) | (simp only [List.nil_append, List.cons_append, List.set_cons_zero, List.set_cons_succ, iv_set, bv_set, iv_rep, bv_rep]; rfl) | rfl)))) | (with_reducible refine AWo.nil ?_) | ((with_reducible apply AW.seq)) | ((with_reducible apply Then.n)) | ((with_reducible apply AW.regL)) | ((with_reducible apply AW.block)) | ((with_reducible apply AW.skip)) | ((with_reducible apply AW.condT); exact rfl; (focus (first | rfl | (simp only [decide_eq_true_eq, decide_eq_false_iff_not, Bool.not_eq_true', Bool.not_eq_false', Bool.not_true, Bool.not_false]; first | assumption | omega))))))
        (refine AW.retD (l := [(2, _)]) (by repeat (first | exact trivial | (refine And.intro ⟨rfl, by (exact .bool _)⟩ ?_))) ?_; (repeat (first | refine Then.r ?_ | refine InBlk.r ?_)))
        exact ⟨_, rfl, by rw [e], rfl⟩
      by_cases h4 : kh < 1
      · (repeat (first | (with_reducible refine AWo.cons ?_) | ((with_reducible refine Step.id ?_); first | ((with_reducible apply Step.gdT); exact rfl; exact rfl; (focus ((simp only [decide_eq_true_eq, decide_eq_false_iff_not, Bool.not_eq_true', Bool.not_eq_false', Bool.not_true, Bool.not_false]; first | assumption | omega)))) | ((with_reducible apply Step.gdF); exact rfl; exact rfl; (focus (first | rfl | (simp only [decide_eq_true_eq, decide_eq_false_iff_not, Bool.not_eq_true', Bool.not_eq_false', Bool.not_true, Bool.not_false]; first | assumption | omega)))) | ((with_reducible apply Step.move); exact rfl; exact rfl) | ((with_reducible apply Step.assign); exact rfl; exact rfl) | ((with_reducible apply Step.load); exact rfl; (focus (decide +kernel)); exact rfl; (focus (exact Rd.new rfl rfl))) | ((with_reducible apply Step.loadL (n := 5)); exact rfl; (focus (decide +kernel)); (focus (decide +kernel)); exact rfl; (focus (exact RdL.old _ (by assumption))); exact rfl; exact rfl) | ((with_reducible apply Step.ix (s := 5)); exact rfl; (focus (assumption)); exact rfl; (focus (decide +kernel)); exact rfl; (focus (omega))) | ((with_reducible apply Step.field0); exact rfl; (focus (decide +kernel)); exact rfl) | ((with_reducible apply Step.field (k := 1)); exact rfl; (focus (decide +kernel)); exact rfl) | ((with_reducible apply Step.lss); exact rfl; exact rfl; exact rfl) | ((with_reducible apply Step.gtr); exact rfl; exact rfl; exact rfl) | ((with_reducible apply Step.pickT); exact rfl; exact rfl; exact rfl; exact rfl; (focus (first | rfl | (simp only [decide_eq_true_eq, decide_eq_false_iff_not, Bool.not_eq_true', Bool.not_eq_false', Bool.not_true, Bool.not_false]; first | assumption | omega)))) | ((with_reducible apply Step.pickF); exact rfl; exact rfl; exact rfl; exact rfl; (focus ((simp only [decide_eq_true_eq, decide_eq_false_iff_not, Bool.not_eq_true', Bool.not_eq_false', Bool.not_true, Bool.not_false]; first | assumption | omega)))) | ((with_reducible apply Step.alloc 0); exact rfl; exact ze33; exact rfl; (focus (first | (simp only [List.nil_append, List.cons_append, List.set_cons_zero, List.set_cons_succ, iv_set, bv_set, iv_rep, bv_rep]; done) | (simp only [List.nil_append, List.cons_append, List.set_cons_zero, List.set_cons_succ, iv_set, bv_set, iv_rep, bv_rep]; rfl) | rfl))) | ((with_reducible apply Step.storeA (k := 0) (n := 5)); exact rfl; exact rfl; exact rfl; exact rfl; (focus (decide +kernel)); exact rfl; (focus (kernel_rfl)); exact rfl; (focus (first | (simp only [List.nil_append, List.cons_append, List.set_cons_zero, List.set_cons_succ, iv_set, bv_set, iv_rep, bv_rep]; done) | (simp only [List.nil_append, List.cons_append, List.set_cons_zero, List.set_cons_succ, iv_set, bv_set, iv_rep, bv_rep]; rfl) | rfl)))) | (with_reducible refine AWo.nil ?_) | ((with_reducible apply AW.seq)) | ((with_reducible apply Then.n)) | ((with_reducible apply AW.regL)) | ((with_reducible apply AW.block)) | ((with_reducible apply AW.skip)) | ((with_reducible apply AW.condT); exact rfl; (focus (first | rfl | (simp only [decide_eq_true_eq, decide_eq_false_iff_not, Bool.not_eq_true', Bool.not_eq_false', Bool.not_true, Bool.not_false]; first | assumption | omega))))))
        (refine AW.retD (l := [(2, _)]) (by repeat (first | exact trivial | (refine And.intro ⟨rfl, by (exact .bool _)⟩ ?_))) ?_; (repeat (first | refine Then.r ?_ | refine InBlk.r ?_)))
        exact ⟨_, rfl, by rw [e], rfl⟩
      by_cases h5 : 16 < kh
      · (repeat (first | (with_reducible refine AWo.cons ?_) | ((with_reducible refine Step.id ?_); first | ((with_reducible apply Step.gdT); exact rfl; exact rfl; (focus ((simp only [decide_eq_true_eq, decide_eq_false_iff_not, Bool.not_eq_true', Bool.not_eq_false', Bool.not_true, Bool.not_false]; first | assumption | omega)))) | ((with_reducible apply Step.gdF); exact rfl; exact rfl; (focus (first | rfl | (simp only [decide_eq_true_eq, decide_eq_false_iff_not, Bool.not_eq_true', Bool.not_eq_false', Bool.not_true, Bool.not_false]; first | assumption | omega)))) | ((with_reducible apply Step.move); exact rfl; exact rfl) | ((with_reducible apply Step.assign); exact rfl; exact rfl) | ((with_reducible apply Step.load); exact rfl; (focus (decide +kernel)); exact rfl; (focus (exact Rd.new rfl rfl))) | ((with_reducible apply Step.loadL (n := 5)); exact rfl; (focus (decide +kernel)); (focus (decide +kernel)); exact rfl; (focus (exact RdL.old _ (by assumption))); exact rfl; exact rfl) | ((with_reducible apply Step.ix (s := 5)); exact rfl; (focus (assumption)); exact rfl; (focus (decide +kernel)); exact rfl; (focus (omega))) | ((with_reducible apply Step.field0); exact rfl; (focus (decide +kernel)); exact rfl) | ((with_reducible apply Step.field (k := 1)); exact rfl; (focus (decide +kernel)); exact rfl) | ((with_reducible apply Step.lss); exact rfl; exact rfl; exact rfl) | ((with_reducible apply Step.gtr); exact rfl; exact rfl; exact rfl) | ((with_reducible apply Step.pickT); exact rfl; exact rfl; exact rfl; exact rfl; (focus (first | rfl | (simp only [decide_eq_true_eq, decide_eq_false_iff_not, Bool.not_eq_true', Bool.not_eq_false', Bool.not_true, Bool.not_false]; first | assumption | omega)))) | ((with_reducible apply Step.pickF); exact rfl; exact rfl; exact rfl; exact rfl; (focus ((simp only [decide_eq_true_eq, decide_eq_false_iff_not, Bool.not_eq_true', Bool.not_eq_false', Bool.not_true, Bool.not_false]; first | assumption | omega)))) | ((with_reducible apply Step.alloc 0); exact rfl; exact ze33; exact rfl; (focus (first | (simp only [List.nil_append, List.cons_append, List.set_cons_zero, List.set_cons_succ, iv_set, bv_set, iv_rep, bv_rep]; done) | (simp only [List.nil_append, List.cons_append, List.set_cons_zero, List.set_cons_succ, iv_set, bv_set, iv_rep, bv_rep]; rfl) | rfl))) | ((with_reducible apply Step.storeA (k := 0) (n := 5)); exact rfl; exact rfl; exact rfl; exact rfl; (focus (decide +kernel)); exact rfl; (focus (kernel_rfl)); exact rfl; (focus (first | (simp only [List.nil_append, List.cons_append, List.set_cons_zero, List.set_cons_succ, iv_set, bv_set, iv_rep, bv_rep]; done) | (simp only [List.nil_append, List.cons_append, List.set_cons_zero, List.set_cons_succ, iv_set, bv_set, iv_rep, bv_rep]; rfl) | rfl)))) | (with_reducible refine AWo.nil ?_) | ((with_reducible apply AW.seq)) | ((with_reducible apply Then.n)) | ((with_reducible apply AW.regL)) | ((with_reducible apply AW.block)) | ((with_reducible apply AW.skip)) | ((with_reducible apply AW.condT); exact rfl; (focus (first | rfl | (simp only [decide_eq_true_eq, decide_eq_false_iff_not, Bool.not_eq_true', Bool.not_eq_false', Bool.not_true, Bool.not_false]; first | assumption | omega))))))
        (refine AW.retD (l := [(2, _)]) (by repeat (first | exact trivial | (refine And.intro ⟨rfl, by (exact .bool _)⟩ ?_))) ?_; (repeat (first | refine Then.r ?_ | refine InBlk.r ?_)))
        exact ⟨_, rfl, by rw [e], rfl⟩
      by_cases h6 : kg < 1
      · (repeat (first | (with_reducible refine AWo.cons ?_) | ((with_reducible refine Step.id ?_); first | ((with_reducible apply Step.gdT); exact rfl; exact rfl; (focus ((simp only [decide_eq_true_eq, decide_eq_false_iff_not, Bool.not_eq_true', Bool.not_eq_false', Bool.not_true, Bool.not_false]; first | assumption | omega)))) | ((with_reducible apply Step.gdF); exact rfl; exact rfl; (focus (first | rfl | (simp only [decide_eq_true_eq, decide_eq_false_iff_not, Bool.not_eq_true', Bool.not_eq_false', Bool.not_true, Bool.not_false]; first | assumption | omega)))) | ((with_reducible apply Step.move); exact rfl; exact rfl) | ((with_reducible apply Step.assign); exact rfl; exact rfl) | ((with_reducible apply Step.load); exact rfl; (focus (decide +kernel)); exact rfl; (focus (exact Rd.new rfl rfl))) | ((with_reducible apply Step.loadL (n := 5)); exact rfl; (focus (decide +kernel)); (focus (decide +kernel)); exact rfl; (focus (exact RdL.old _ (by assumption))); exact rfl; exact rfl) | ((with_reducible apply Step.ix (s := 5)); exact rfl; (focus (assumption)); exact rfl; (focus (decide +kernel)); exact rfl; (focus (omega))) | ((with_reducible apply Step.field0); exact rfl; (focus (decide +kernel)); exact rfl) | ((with_reducible apply Step.field (k := 1)); exact rfl; (focus (decide +kernel)); exact rfl) | ((with_reducible apply Step.field (k := 2)); exact rfl; (focus (decide +kernel)); exact rfl) | ((with_reducible apply Step.lss); exact rfl; exact rfl; exact rfl) | ((with_reducible apply Step.gtr); exact rfl; exact rfl; exact rfl) | ((with_reducible apply Step.pickT); exact rfl; exact rfl; exact rfl; exact rfl; (focus (first | rfl | (simp only [decide_eq_true_eq, decide_eq_false_iff_not, Bool.not_eq_true', Bool.not_eq_false', Bool.not_true, Bool.not_false]; first | assumption | omega)))) | ((with_reducible apply Step.pickF); exact rfl; exact rfl; exact rfl; exact rfl; (focus ((simp only [decide_eq_true_eq, decide_eq_false_iff_not, Bool.not_eq_true', Bool.not_eq_false', Bool.not_true, Bool.not_false]; first | assumption | omega)))) | ((with_reducible apply Step.alloc 0); exact rfl; exact ze33; exact rfl; (focus (first | (simp only [List.nil_append, List.cons_append, List.set_cons_zero, List.set_cons_succ, iv_set, bv_set, iv_rep, bv_rep]; done) | (simp only [List.nil_append, List.cons_append, List.set_cons_zero, List.set_cons_succ, iv_set, bv_set, iv_rep, bv_rep]; rfl) | rfl))) | ((with_reducible apply Step.storeA (k := 0) (n := 5)); exact rfl; exact rfl; exact rfl; exact rfl; (focus (decide +kernel)); exact rfl; (focus (kernel_rfl)); exact rfl; (focus (first | (simp only [List.nil_append, List.cons_append, List.set_cons_zero, List.set_cons_succ, iv_set, bv_set, iv_rep, bv_rep]; done) | (simp only [List.nil_append, List.cons_append, List.set_cons_zero, List.set_cons_succ, iv_set, bv_set, iv_rep, bv_rep]; rfl) | rfl)))) | (with_reducible refine AWo.nil ?_) | ((with_reducible apply AW.seq)) | ((with_reducible apply Then.n)) | ((with_reducible apply AW.regL)) | ((with_reducible apply AW.block)) | ((with_reducible apply AW.skip)) | ((with_reducible apply AW.condT); exact rfl; (focus (first | rfl | (simp only [decide_eq_true_eq, decide_eq_false_iff_not, Bool.not_eq_true', Bool.not_eq_false', Bool.not_true, Bool.not_false]; first | assumption | omega))))))
        (refine AW.retD (l := [(2, _)]) (by repeat (first | exact trivial | (refine And.intro ⟨rfl, by (exact .bool _)⟩ ?_))) ?_; (repeat (first | refine Then.r ?_ | refine InBlk.r ?_)))
        exact ⟨_, rfl, by rw [e], rfl⟩
      by_cases h7 : 9 < kg
      · (repeat (first | (with_reducible refine AWo.cons ?_) | ((with_reducible refine Step.id ?_); first | ((with_reducible apply Step.gdT); exact rfl; exact rfl; (focus ((simp only [decide_eq_true_eq, decide_eq_false_iff_not, Bool.not_eq_true', Bool.not_eq_false', Bool.not_true, Bool.not_false]; first | assumption | omega)))) | ((with_reducible apply Step.gdF); exact rfl; exact rfl; (focus (first | rfl | (simp only [decide_eq_true_eq, decide_eq_false_iff_not, Bool.not_eq_true', Bool.not_eq_false', Bool.not_true, Bool.not_false]; first | assumption | omega)))) | ((with_reducible apply Step.move); exact rfl; exact rfl) | ((with_reducible apply Step.assign); exact rfl; exact rfl) | ((with_reducible apply Step.load); exact rfl; (focus (decide +kernel)); exact rfl; (focus (exact Rd.new rfl rfl))) | ((with_reducible apply Step.loadL (n := 5)); exact rfl; (focus (decide +kernel)); (focus (decide +kernel)); exact rfl; (focus (exact RdL.old _ (by assumption))); exact rfl; exact rfl) | ((with_reducible apply Step.ix (s := 5)); exact rfl; (focus (assumption)); exact rfl; (focus (decide +kernel)); exact rfl; (focus (omega))) | ((with_reducible apply Step.field0); exact rfl; (focus (decide +kernel)); exact rfl) | ((with_reducible apply Step.field (k := 1)); exact rfl; (focus (decide +kernel)); exact rfl) | ((with_reducible apply Step.field (k := 2)); exact rfl; (focus (decide +kernel)); exact rfl) | ((with_reducible apply Step.lss); exact rfl; exact rfl; exact rfl) | ((with_reducible apply Step.gtr); exact rfl; exact rfl; exact rfl) | ((with_reducible apply Step.pickT); exact rfl; exact rfl; exact rfl; exact rfl; (focus (first | rfl | (simp only [decide_eq_true_eq, decide_eq_false_iff_not, Bool.not_eq_true', Bool.not_eq_false', Bool.not_true, Bool.not_false]; first | assumption | omega)))) | ((with_reducible apply Step.pickF); exact rfl; exact rfl; exact rfl; exact rfl; (focus ((simp only [decide_eq_true_eq, decide_eq_false_iff_not, Bool.not_eq_true', Bool.not_eq_false', Bool.not_true, Bool.not_false]; first | assumption | omega)))) | ((with_reducible apply Step.alloc 0); exact rfl; exact ze33; exact rfl; (focus (first | (simp only [List.nil_append, List.cons_append, List.set_cons_zero, List.set_cons_succ, iv_set, bv_set, iv_rep, bv_rep]; done) | (simp only [List.nil_append, List.cons_append, List.set_cons_zero, List.set_cons_succ, iv_set, bv_set, iv_rep, bv_rep]; rfl) | rfl))) | ((with_reducible apply Step.storeA (k := 0) (n := 5)); exact rfl; exact rfl; exact rfl; exact rfl; (focus (decide +kernel)); exact rfl; (focus (kernel_rfl)); exact rfl; (focus (first | (simp only [List.nil_append, List.cons_append, List.set_cons_zero, List.set_cons_succ, iv_set, bv_set, iv_rep, bv_rep]; done) | (simp only [List.nil_append, List.cons_append, List.set_cons_zero, List.set_cons_succ, iv_set, bv_set, iv_rep, bv_rep]; rfl) | rfl)))) | (with_reducible refine AWo.nil ?_) | ((with_reducible apply AW.seq)) | ((with_reducible apply Then.n)) | ((with_reducible apply AW.regL)) | ((with_reducible apply AW.block)) | ((with_reducible apply AW.skip)) | ((with_reducible apply AW.condT); exact rfl; (focus (first | rfl | (simp only [decide_eq_true_eq, decide_eq_false_iff_not, Bool.not_eq_true', Bool.not_eq_false', Bool.not_true, Bool.not_false]; first | assumption | omega))))))
        (refine AW.retD (l := [(2, _)]) (by repeat (first | exact trivial | (refine And.intro ⟨rfl, by (exact .bool _)⟩ ?_))) ?_; (repeat (first | refine Then.r ?_ | refine InBlk.r ?_)))
        exact ⟨_, rfl, by rw [e], rfl⟩
      by_cases h8 : ko < 1
      · (repeat (first | (with_reducible refine AWo.cons ?_) | ((with_reducible refine Step.id ?_); first | ((with_reducible apply Step.gdT); exact rfl; exact rfl; (focus ((simp only [decide_eq_true_eq, decide_eq_false_iff_not, Bool.not_eq_true', Bool.not_eq_false', Bool.not_true, Bool.not_false]; first | assumption | omega)))) | ((with_reducible apply Step.gdF); exact rfl; exact rfl; (focus ((simp only [decide_eq_true_eq, decide_eq_false_iff_not, Bool.not_eq_true', Bool.not_eq_false', Bool.not_true, Bool.not_false]; first | assumption | omega)))) | ((with_reducible apply Step.move); exact rfl; exact rfl) | ((with_reducible apply Step.assign); exact rfl; exact rfl) | ((with_reducible apply Step.load); exact rfl; (focus (decide +kernel)); exact rfl; (focus (exact Rd.new rfl rfl))) | ((with_reducible apply Step.loadL (n := 5)); exact rfl; (focus (decide +kernel)); (focus (decide +kernel)); exact rfl; (focus (exact RdL.old _ (by assumption))); exact rfl; exact rfl) | ((with_reducible apply Step.ix (s := 5)); exact rfl; (focus (assumption)); exact rfl; (focus (decide +kernel)); exact rfl; (focus (omega))) | ((with_reducible apply Step.field0); exact rfl; (focus (decide +kernel)); exact rfl) | ((with_reducible apply Step.field (k := 1)); exact rfl; (focus (decide +kernel)); exact rfl) | ((with_reducible apply Step.field (k := 2)); exact rfl; (focus (decide +kernel)); exact rfl) | ((with_reducible apply Step.field (k := 3)); exact rfl; (focus (decide +kernel)); exact rfl) | ((with_reducible apply Step.lss); exact rfl; exact rfl; exact rfl) | ((with_reducible apply Step.gtr); exact rfl; exact rfl; exact rfl) | ((with_reducible apply Step.pickT); exact rfl; exact rfl; exact rfl; exact rfl; (focus ((simp only [decide_eq_true_eq, decide_eq_false_iff_not, Bool.not_eq_true', Bool.not_eq_false', Bool.not_true, Bool.not_false]; first | assumption | omega)))) | ((with_reducible apply Step.pickF); exact rfl; exact rfl; exact rfl; exact rfl; (focus ((simp only [decide_eq_true_eq, decide_eq_false_iff_not, Bool.not_eq_true', Bool.not_eq_false', Bool.not_true, Bool.not_false]; first | assumption | omega)))) | ((with_reducible apply Step.alloc 0); exact rfl; exact ze33; exact rfl; (focus (first | (simp only [List.nil_append, List.cons_append, List.set_cons_zero, List.set_cons_succ, iv_set, bv_set, iv_rep, bv_rep]; done) | (simp only [List.nil_append, List.cons_append, List.set_cons_zero, List.set_cons_succ, iv_set, bv_set, iv_rep, bv_rep]; rfl) | rfl))) | ((with_reducible apply Step.storeA (k := 0) (n := 5)); exact rfl; exact rfl; exact rfl; exact rfl; (focus (decide +kernel)); exact rfl; (focus (kernel_rfl)); exact rfl; (focus (first | (simp only [List.nil_append, List.cons_append, List.set_cons_zero, List.set_cons_succ, iv_set, bv_set, iv_rep, bv_rep]; done) | (simp only [List.nil_append, List.cons_append, List.set_cons_zero, List.set_cons_succ, iv_set, bv_set, iv_rep, bv_rep]; rfl) | rfl)))) | (with_reducible refine AWo.nil ?_) | ((with_reducible apply AW.seq)) | ((with_reducible apply Then.n)) | ((with_reducible apply AW.regL)) | ((with_reducible apply AW.block)) | ((with_reducible apply AW.skip)) | ((with_reducible apply AW.condT); exact rfl; (focus (first | rfl | (simp only [decide_eq_true_eq, decide_eq_false_iff_not, Bool.not_eq_true', Bool.not_eq_false', Bool.not_true, Bool.not_false]; first | assumption | omega))))))
        (refine AW.retD (l := [(2, _)]) (by repeat (first | exact trivial | (refine And.intro ⟨rfl, by (exact .bool _)⟩ ?_))) ?_; (repeat (first | refine Then.r ?_ | refine InBlk.r ?_)))
        exact ⟨_, rfl, by rw [e], rfl⟩
      have h9 : 1000000 < ko := by omega
      (repeat (first | (with_reducible refine AWo.cons ?_) | ((with_reducible refine Step.id ?_); first | ((with_reducible apply Step.gdT); exact rfl; exact rfl; (focus ((simp only [decide_eq_true_eq, decide_eq_false_iff_not, Bool.not_eq_true', Bool.not_eq_false', Bool.not_true, Bool.not_false]; first | assumption | omega)))) | ((with_reducible apply Step.move); exact rfl; exact rfl) | ((with_reducible apply Step.assign); exact rfl; exact rfl) | ((with_reducible apply Step.load); exact rfl; (focus (decide +kernel)); exact rfl; (focus (exact Rd.new rfl rfl))) | ((with_reducible apply Step.loadL (n := 5)); exact rfl; (focus (decide +kernel)); (focus (decide +kernel)); exact rfl; (focus (exact RdL.old _ (by assumption))); exact rfl; exact rfl) | ((with_reducible apply Step.ix (s := 5)); exact rfl; (focus (assumption)); exact rfl; (focus (decide +kernel)); exact rfl; (focus (omega))) | ((with_reducible apply Step.field0); exact rfl; (focus (decide +kernel)); exact rfl) | ((with_reducible apply Step.field (k := 1)); exact rfl; (focus (decide +kernel)); exact rfl) | ((with_reducible apply Step.field (k := 2)); exact rfl; (focus (decide +kernel)); exact rfl) | ((with_reducible apply Step.field (k := 3)); exact rfl; (focus (decide +kernel)); exact rfl) | ((with_reducible apply Step.lss); exact rfl; exact rfl; exact rfl) | ((with_reducible apply Step.gtr); exact rfl; exact rfl; exact rfl) | ((with_reducible apply Step.pickF); exact rfl; exact rfl; exact rfl; exact rfl; (focus ((simp only [decide_eq_true_eq, decide_eq_false_iff_not, Bool.not_eq_true', Bool.not_eq_false', Bool.not_true, Bool.not_false]; first | assumption | omega)))) | ((with_reducible apply Step.alloc 0); exact rfl; exact ze33; exact rfl; (focus (first | (simp only [List.nil_append, List.cons_append, List.set_cons_zero, List.set_cons_succ, iv_set, bv_set, iv_rep, bv_rep]; done) | (simp only [List.nil_append, List.cons_append, List.set_cons_zero, List.set_cons_succ, iv_set, bv_set, iv_rep, bv_rep]; rfl) | rfl))) | ((with_reducible apply Step.storeA (k := 0) (n := 5)); exact rfl; exact rfl; exact rfl; exact rfl; (focus (decide +kernel)); exact rfl; (focus (kernel_rfl)); exact rfl; (focus (first | (simp only [List.nil_append, List.cons_append, List.set_cons_zero, List.set_cons_succ, iv_set, bv_set, iv_rep, bv_rep]; done) | (simp only [List.nil_append, List.cons_append, List.set_cons_zero, List.set_cons_succ, iv_set, bv_set, iv_rep, bv_rep]; rfl) | rfl)))) | (with_reducible refine AWo.nil ?_) | ((with_reducible apply AW.seq)) | ((with_reducible apply Then.n)) | ((with_reducible apply AW.regL)) | ((with_reducible apply AW.block)) | ((with_reducible apply AW.skip)) | ((with_reducible apply AW.condT); exact rfl; (focus ((simp only [decide_eq_true_eq, decide_eq_false_iff_not, Bool.not_eq_true', Bool.not_eq_false', Bool.not_true, Bool.not_false]; first | assumption | omega))))))
      (refine AW.retD (l := [(2, _)]) (by repeat (first | exact trivial | (refine And.intro ⟨rfl, by (exact .bool _)⟩ ?_))) ?_; (repeat (first | refine Then.r ?_ | refine InBlk.r ?_)))
      exact ⟨_, rfl, by rw [e], rfl⟩
    | true =>
      have hkk := kdB_in hkd
      have hd' : ∀ j, j < i + 1 → kdB (K.getD j default) = true := fun j hj => by
        rcases Nat.lt_succ_iff_lt_or_eq.1 hj with h | rfl
        · exact hd j h
        · exact hkd
      generalize K.getD i default = k at rk hkk
      obtain ⟨kw, kh, kg, ko, kt⟩ := k
      simp only at hkk
      simp only [Kd.cells] at rk
      (repeat (first | (with_reducible refine AWo.cons ?_) | ((with_reducible refine Step.id ?_); first | ((with_reducible apply Step.gdT); exact rfl; exact rfl; (focus ((simp only [decide_eq_true_eq, decide_eq_false_iff_not, Bool.not_eq_true', Bool.not_eq_false', Bool.not_true, Bool.not_false]; first | assumption | omega)))) | ((with_reducible apply Step.move); exact rfl; exact rfl) | ((with_reducible apply Step.load); exact rfl; (focus (decide +kernel)); exact rfl; (focus (exact Rd.new rfl rfl))) | ((with_reducible apply Step.loadL (n := 5)); exact rfl; (focus (decide +kernel)); (focus (decide +kernel)); exact rfl; (focus (exact RdL.old _ (by assumption))); exact rfl; exact rfl) | ((with_reducible apply Step.ix (s := 5)); exact rfl; (focus (assumption)); exact rfl; (focus (decide +kernel)); exact rfl; (focus (omega))) | ((with_reducible apply Step.field0); exact rfl; (focus (decide +kernel)); exact rfl) | ((with_reducible apply Step.field (k := 1)); exact rfl; (focus (decide +kernel)); exact rfl) | ((with_reducible apply Step.field (k := 2)); exact rfl; (focus (decide +kernel)); exact rfl) | ((with_reducible apply Step.field (k := 3)); exact rfl; (focus (decide +kernel)); exact rfl) | ((with_reducible apply Step.add); exact rfl; exact rfl; (focus (omega)); exact rfl) | ((with_reducible apply Step.lss); exact rfl; exact rfl; exact rfl) | ((with_reducible apply Step.gtr); exact rfl; exact rfl; exact rfl) | ((with_reducible apply Step.pickF); exact rfl; exact rfl; exact rfl; exact rfl; (focus ((simp only [decide_eq_true_eq, decide_eq_false_iff_not, Bool.not_eq_true', Bool.not_eq_false', Bool.not_true, Bool.not_false]; first | assumption | omega)))) | ((with_reducible apply Step.alloc 0); exact rfl; exact ze33; exact rfl; (focus (first | (simp only [List.nil_append, List.cons_append, List.set_cons_zero, List.set_cons_succ, iv_set, bv_set, iv_rep, bv_rep]; done) | (simp only [List.nil_append, List.cons_append, List.set_cons_zero, List.set_cons_succ, iv_set, bv_set, iv_rep, bv_rep]; rfl) | rfl))) | ((with_reducible apply Step.storeA (k := 0) (n := 5)); exact rfl; exact rfl; exact rfl; exact rfl; (focus (decide +kernel)); exact rfl; (focus (kernel_rfl)); exact rfl; (focus (first | (simp only [List.nil_append, List.cons_append, List.set_cons_zero, List.set_cons_succ, iv_set, bv_set, iv_rep, bv_rep]; done) | (simp only [List.nil_append, List.cons_append, List.set_cons_zero, List.set_cons_succ, iv_set, bv_set, iv_rep, bv_rep]; rfl) | rfl)))) | (with_reducible refine AWo.nil ?_) | ((with_reducible apply AW.seq)) | ((with_reducible apply Then.n)) | ((with_reducible apply AW.regL)) | ((with_reducible apply AW.block)) | ((with_reducible apply InBlk.n)) | ((with_reducible apply AW.skip)) | ((with_reducible apply AW.condT); exact rfl; (focus ((simp only [decide_eq_true_eq, decide_eq_false_iff_not, Bool.not_eq_true', Bool.not_eq_false', Bool.not_true, Bool.not_false]; first | assumption | omega)))) | ((with_reducible apply AW.condF); exact rfl; (focus ((simp only [decide_eq_true_eq, decide_eq_false_iff_not, Bool.not_eq_true', Bool.not_eq_false', Bool.not_true, Bool.not_false]; first | assumption | omega))))))
      exact ⟨_, _, [], by omega, (Back.trim rfl rfl (by repeat (exact CellsOk.nil)) (by repeat (first | exact trivial | (refine And.intro ⟨rfl, by (first | exact Low.rid (by assumption) (by simp) | exact .int _ _)⟩ ?_)))), i + 1, rfl, by omega, rfl, hd', rfl⟩
  · obtain rfl : i = K.length := by omega
    (repeat (first | (with_reducible refine AWo.cons ?_) | ((with_reducible refine Step.id ?_); first | ((with_reducible apply Step.assign); exact rfl; exact rfl) | ((with_reducible apply Step.lss); exact rfl; exact rfl; exact rfl)) | (with_reducible refine AWo.nil ?_) | ((with_reducible apply AW.seq)) | ((with_reducible apply Then.n)) | ((with_reducible apply AW.regL)) | ((with_reducible apply AW.exit)) | ((with_reducible apply InBlk.hit)) | ((with_reducible apply Then.e)) | ((with_reducible apply AW.condF); exact rfl; (focus ((simp only [decide_eq_true_eq, decide_eq_false_iff_not, Bool.not_eq_true', Bool.not_eq_false', Bool.not_true, Bool.not_false]; first | assumption | omega))))))
    (refine AW.retD (l := [(2, _)]) (by repeat (first | exact trivial | (refine And.intro ⟨rfl, by (exact .bool _)⟩ ?_))) ?_; (repeat (first | refine Then.r ?_ | refine InBlk.r ?_)))
    exact ⟨_, rfl, by rw [kinds_all (by omega) hd], rfl⟩
set_option maxRecDepth 100000 in
theorem RGood_ok {m : AM} {sv kv : Value} {B : Brd} {K : List Kd} (hs : Strs m sv B) (hk : Kds m kv K) : ACall Tryd.prog 8 #[sv, kv] m (Ret (.bool (goodB B K)) m) := by
  have h1 := fun T => RBoard_ok (hs.old T)
  have h2 := fun T => RKinds_ok (hk.old T)
  refine ACall.start Tryd.func8 rfl rfl ?_
  cases hb : boardB B with
  | false =>
    rw [hb] at h1
    (repeat (first | (with_reducible refine AWo.cons ?_) | ((with_reducible refine Step.id ?_); first | ((with_reducible apply Step.gdF); exact rfl; exact rfl; (focus (rfl))) | ((with_reducible apply Step.move); exact rfl; exact rfl) | ((with_reducible apply Step.assign); exact rfl; exact rfl) | ((with_reducible apply Step.pickF); exact rfl; exact rfl; exact rfl; exact rfl; (focus (rfl))) | ((with_reducible apply Step.callR fit); exact rfl; exact Tryd.func32; exact rfl; exact rfl; exact (h1 _))) | (with_reducible refine AWo.nil ?_) | ((with_reducible apply AW.seq)) | ((with_reducible apply Then.n)) | ((with_reducible apply AW.regL))))
    (refine AW.retD (l := [(4, _)]) (by repeat (first | exact trivial | (refine And.intro ⟨rfl, by (exact .bool _)⟩ ?_))) ?_; (repeat (first | refine Then.r ?_ | refine InBlk.r ?_)))
    exact ⟨_, rfl, by simp [goodB, hb], rfl⟩
  | true =>
    rw [hb] at h1
    (repeat (first | (with_reducible refine AWo.cons ?_) | ((with_reducible refine Step.id ?_); first | ((with_reducible apply Step.gdT); exact rfl; exact rfl; (focus (rfl))) | ((with_reducible apply Step.move); exact rfl; exact rfl) | ((with_reducible apply Step.assign); exact rfl; exact rfl) | ((with_reducible apply Step.pickT); exact rfl; exact rfl; exact rfl; exact rfl; (focus (rfl))) | ((with_reducible apply Step.callR fit); exact rfl; exact Tryd.func32; exact rfl; exact rfl; exact (h1 _)) | ((with_reducible apply Step.callR fit); exact rfl; exact Tryd.func33; exact rfl; exact rfl; exact (h2 _))) | (with_reducible refine AWo.nil ?_) | ((with_reducible apply AW.seq)) | ((with_reducible apply Then.n)) | ((with_reducible apply AW.regL))))
    (refine AW.retD (l := [(4, _)]) (by repeat (first | exact trivial | (refine And.intro ⟨rfl, by (exact .bool _)⟩ ?_))) ?_; (repeat (first | refine Then.r ?_ | refine InBlk.r ?_)))
    exact ⟨_, rfl, by simp [goodB, hb], rfl⟩
end Go.Proofs.YtedbjmgchfgabaaDoor.Abs
namespace Go.Proofs.YtedbjmgchfgabaaDoor.Abs
set_option linter.unusedSimpArgs false
set_option linter.unusedVariables false
open Go.RowKit
open Go.Proofs.YtedbjmgchfgabaaDoor.Sim
open Go.Proofs
set_option maxHeartbeats 4000000 in
set_option maxRecDepth 100000 in
theorem newBoard_any {m : AM} {sv kv : Value} {B : Brd} {K : List Kd} (hs : Strs m sv B) (hk : Kds m kv K) :
    ACall Tryd.prog 34 #[sv, kv] m (More (fun m' v => (goodB B K = false ∧ v = .pointer none) ∨ (goodB B K = true ∧ ∃ p, m.length ≤ p ∧ v = .pointer (some ⟨p, 0, none⟩) ∧ BoardAt m' p B K)) m) := by
  have hV := fun T => Valid_ok (hs.old T)
  have hs' := hs
  have hk' := hk
  obtain ⟨A, O, sl, la, rd⟩ := hs'
  obtain ⟨A2, O2, sl2, la2, rd2⟩ := hk'
  obtain ⟨q1, c1, rfl⟩ := sl.shape
  obtain ⟨q2, c2, rfl⟩ := sl2.shape
  refine ACall.start Tryd.func34 rfl rfl ?_
  cases hv : skinB B with
  | false =>
    rw [hv] at hV
    have e : goodB B K = false := by simp [goodB, boardB, hv]
    (repeat (first | (with_reducible refine AWo.cons ?_) | ((with_reducible refine Step.id ?_); first | ((with_reducible apply Step.gdF); exact rfl; exact rfl; (focus (rfl))) | ((with_reducible apply Step.move); exact rfl; exact rfl) | ((with_reducible apply Step.assign); exact rfl; exact rfl) | ((with_reducible apply Step.not); exact rfl; exact rfl) | ((with_reducible apply Step.pickT); exact rfl; exact rfl; exact rfl; exact rfl; (focus (rfl))) | ((with_reducible apply Step.callR fit); exact rfl; exact Tryd.func28; exact rfl; exact rfl; exact (hV _))) | (with_reducible refine AWo.nil ?_) | ((with_reducible apply AW.seq)) | ((with_reducible apply Then.n)) | ((with_reducible apply AW.regL)) | ((with_reducible apply AW.condT); exact rfl; (focus (rfl)))))
    (refine AW.retD (l := [(4, _)]) (by repeat (first | exact trivial | (refine And.intro ⟨rfl, by (exact Ren.of_g0 rfl)⟩ ?_))) ?_; (repeat (first | refine Then.r ?_ | refine InBlk.r ?_)))
    exact ⟨_, rfl, [], (List.append_nil m).symm, .inl ⟨e, rfl⟩⟩
  | true =>
  rw [hv] at hV
  have hvv := hv
  simp only [skinB, Bool.and_eq_true, decide_eq_true_eq] at hvv
  have r0 := rd 0 (by omega)
  have hS := fun m => sides_ok (m := m) ((rowOf B 0).size : Nat) (B.length : Nat)
  by_cases hb : B.length ≤ 16 ∧ (rowOf B 0).size ≤ 16
  case neg =>
    have e : goodB B K = false := by simp [goodB, boardB]; omega
    have e2 : sidesB ((rowOf B 0).size : Nat) (B.length : Nat) = false := by simp [sidesB]; omega
    rw [e2] at hS
    (repeat (first | (with_reducible refine AWo.cons ?_) | ((with_reducible refine Step.id ?_); first | ((with_reducible apply Step.gdT); exact rfl; exact rfl; (focus (rfl))) | ((with_reducible apply Step.gdF); exact rfl; exact rfl; (focus (rfl))) | ((with_reducible apply Step.move); exact rfl; exact rfl) | ((with_reducible apply Step.assign); exact rfl; exact rfl) | ((with_reducible apply Step.load); exact rfl; (focus (decide +kernel)); exact rfl; (focus (exact Rd.old _ (by assumption)))) | ((with_reducible apply Step.ix1 (k := 0)); exact rfl; (focus (assumption)); exact rfl; (focus (decide +kernel)); exact rfl; (focus (omega))) | ((with_reducible apply Step.lenS); exact rfl; exact un9; exact rfl) | ((with_reducible apply Step.len); exact rfl; (focus (assumption)); (focus (decide +kernel)); exact rfl) | ((with_reducible apply Step.not); exact rfl; exact rfl) | ((with_reducible apply Step.pickT); exact rfl; exact rfl; exact rfl; exact rfl; (focus (rfl))) | ((with_reducible apply Step.pickF); exact rfl; exact rfl; exact rfl; exact rfl; (focus (rfl))) | ((with_reducible apply Step.callR fit); exact rfl; exact Tryd.func28; exact rfl; exact rfl; exact (hV _)) | ((with_reducible apply Step.callR fit); exact rfl; exact Tryd.func62; exact rfl; exact rfl; exact (hS _))) | (with_reducible refine AWo.nil ?_) | ((with_reducible apply AW.seq)) | ((with_reducible apply Then.n)) | ((with_reducible apply AW.regL)) | ((with_reducible apply AW.condT); exact rfl; (focus (rfl)))))
    (refine AW.retD (l := [(4, _)]) (by repeat (first | exact trivial | (refine And.intro ⟨rfl, by (exact Ren.of_g0 rfl)⟩ ?_))) ?_; (repeat (first | refine Then.r ?_ | refine InBlk.r ?_)))
    exact ⟨_, rfl, [], (List.append_nil m).symm, .inl ⟨e, rfl⟩⟩
  have e2 : sidesB ((rowOf B 0).size : Nat) (B.length : Nat) = true := by simp [sidesB]; omega
  rw [e2] at hS
  by_cases hl : 12 < K.length
  · have e : goodB B K = false := by simp [goodB, kindsB]; omega
    (repeat (first | (with_reducible refine AWo.cons ?_) | ((with_reducible refine Step.id ?_); first | ((with_reducible apply Step.gdT); exact rfl; exact rfl; (focus (rfl))) | ((with_reducible apply Step.move); exact rfl; exact rfl) | ((with_reducible apply Step.assign); exact rfl; exact rfl) | ((with_reducible apply Step.load); exact rfl; (focus (decide +kernel)); exact rfl; (focus (exact Rd.old _ (by assumption)))) | ((with_reducible apply Step.ix1 (k := 0)); exact rfl; (focus (assumption)); exact rfl; (focus (decide +kernel)); exact rfl; (focus (omega))) | ((with_reducible apply Step.lenS); exact rfl; exact un9; exact rfl) | ((with_reducible apply Step.gtr); exact rfl; exact rfl; exact rfl) | ((with_reducible apply Step.len); exact rfl; (focus (assumption)); (focus (decide +kernel)); exact rfl) | ((with_reducible apply Step.not); exact rfl; exact rfl) | ((with_reducible apply Step.pickF); exact rfl; exact rfl; exact rfl; exact rfl; (focus (rfl))) | ((with_reducible apply Step.callR fit); exact rfl; exact Tryd.func28; exact rfl; exact rfl; exact (hV _)) | ((with_reducible apply Step.callR fit); exact rfl; exact Tryd.func62; exact rfl; exact rfl; exact (hS _))) | (with_reducible refine AWo.nil ?_) | ((with_reducible apply AW.seq)) | ((with_reducible apply Then.n)) | ((with_reducible apply AW.regL)) | ((with_reducible apply AW.condT); exact rfl; (focus ((simp only [decide_eq_true_eq, decide_eq_false_iff_not, Bool.not_eq_true', Bool.not_eq_false', Bool.not_true, Bool.not_false]; first | assumption | omega))))))
    (refine AW.retD (l := [(4, _)]) (by repeat (first | exact trivial | (refine And.intro ⟨rfl, by (exact Ren.of_g0 rfl)⟩ ?_))) ?_; (repeat (first | refine Then.r ?_ | refine InBlk.r ?_)))
    exact ⟨_, rfl, [], (List.append_nil m).symm, .inl ⟨e, rfl⟩⟩
  (repeat (first | (with_reducible refine AWo.cons ?_) | ((with_reducible refine Step.id ?_); first | ((with_reducible apply Step.gdT); exact rfl; exact rfl; (focus (rfl))) | ((with_reducible apply Step.move); exact rfl; exact rfl) | ((with_reducible apply Step.assign); exact rfl; exact rfl) | ((with_reducible apply Step.load); exact rfl; (focus (decide +kernel)); exact rfl; (focus (exact Rd.old _ (by assumption)))) | ((with_reducible apply Step.ix1 (k := 0)); exact rfl; (focus (assumption)); exact rfl; (focus (decide +kernel)); exact rfl; (focus (omega))) | ((with_reducible apply Step.lenS); exact rfl; exact un9; exact rfl) | ((with_reducible apply Step.gtr); exact rfl; exact rfl; exact rfl) | ((with_reducible apply Step.len); exact rfl; (focus (assumption)); (focus (decide +kernel)); exact rfl) | ((with_reducible apply Step.not); exact rfl; exact rfl) | ((with_reducible apply Step.pickF); exact rfl; exact rfl; exact rfl; exact rfl; (focus (rfl))) | ((with_reducible apply Step.callR fit); exact rfl; exact Tryd.func28; exact rfl; exact rfl; exact (hV _)) | ((with_reducible apply Step.callR fit); exact rfl; exact Tryd.func62; exact rfl; exact rfl; exact (hS _))) | (with_reducible refine AWo.nil ?_) | ((with_reducible apply AW.seq)) | ((with_reducible apply Then.n)) | ((with_reducible apply AW.regL)) | ((with_reducible apply AW.skip)) | ((with_reducible apply AW.condF); exact rfl; (focus ((simp only [decide_eq_true_eq, decide_eq_false_iff_not, Bool.not_eq_true', Bool.not_eq_false', Bool.not_true, Bool.not_false]; first | assumption | omega))))))
  rw [List.append_nil]
  ((with_reducible apply Step.mkMap); exact rfl)
  (repeat (first | (with_reducible refine AWo.cons ?_) | ((with_reducible refine Step.id ?_); first | ((with_reducible apply Step.move); exact rfl; exact rfl) | ((with_reducible apply Step.assign); exact rfl; exact rfl) | ((with_reducible apply Step.len); exact rfl; (focus (assumption)); (focus (decide +kernel)); exact rfl) | ((with_reducible apply Step.box 1); exact rfl; exact rfl; (focus (kernel_rfl)); exact rfl; (focus (first | (simp only [List.nil_append, List.cons_append, List.set_cons_zero, List.set_cons_succ, iv_set, bv_set, iv_rep, bv_rep]; done) | (simp only [List.nil_append, List.cons_append, List.set_cons_zero, List.set_cons_succ, iv_set, bv_set, iv_rep, bv_rep]; rfl) | rfl))) | ((with_reducible apply Step.build); exact rfl; exact bl105; exact rfl)) | (with_reducible refine AWo.nil ?_) | ((with_reducible apply AW.seq)) | ((with_reducible apply Then.n)) | ((with_reducible apply AW.regL)) | ((with_reducible apply AW.block))))
  have hP : BrdP m (m ++ [some { cells := [], kind := .map }, some { cells := [.slice q1 B.length c1, .slice q2 K.length c2, .int .i64 ((rowOf B 0).size : Nat), .int .i64 (B.length : Nat), .map (some m.length)] }]) (m.length + 1) m.length (.slice q1 B.length c1) (.slice q2 K.length c2) B K 0 :=
    ⟨⟨_, rfl⟩, Nat.le_refl _, by rw [get_app]; rfl, [], (by rw [List.getElem?_append_right (Nat.le_refl _), Nat.sub_self]; rfl), fun g v hv => (by cases hv), fun j hj => (by omega)⟩
  have hpq : m.length + 1 ≠ m.length := by omega
  have hpm : m.length ≤ m.length + 1 := by omega
  generalize m.length + 1 = p at hP hpq hpm ⊢
  generalize hqm : m.length = q at hP hpq
  clear r0
  refine AW.loopW (fun n t M' => ∃ (i : Nat), n = K.length - i ∧ i ≤ K.length ∧ (∀ j, j < i → kdB (K.getD j default) = true) ∧ BrdP m M' p q (.slice q1 B.length c1) (.slice q2 K.length c2) B K i ∧
      t = fr [(0, .slice q1 B.length c1), (5, .pointer (some ⟨p, 0, none⟩)), (37, .slice q2 K.length c2), (38, .int .i64 (K.length : Nat)), (39, .int .i64 (i : Nat))])
    ⟨_, _, (by repeat (first | exact trivial | (refine And.intro rfl ?_))), 0, rfl, Nat.zero_le _, fun j hj => by omega, by exact hP, rfl⟩ ?_
  clear hP
  rintro n t M' ⟨i, rfl, hi, hd, hP, rfl⟩
  obtain ⟨N, hN⟩ := hP.low
  rcases Nat.lt_or_ge i K.length with hlt | hge
  · obtain ⟨l, hq, hl1, hl2⟩ := hP.qb
    have hkm : Kds M' (.slice q2 K.length c2) K := by rw [hN]; exact hk.old N
    have hsm : Strs M' (.slice q1 B.length c1) B := by rw [hN]; exact hs.old N
    have rk := (rd2 i hlt).old N
    rw [← hN] at rk
    refine AW.rebase ?_
    cases hkd : kdB (K.getD i default) with
    | false =>
      have e : goodB B K = false := by simp [goodB, kinds_no hlt hkd]
      generalize K.getD i default = k at rk hkd
      obtain ⟨kw, kh, kg, ko, kt⟩ := k
      simp only [kdB, decide_eq_false_iff_not] at hkd
      simp only [Kd.cells] at rk
      have hS := fun m => sides_ok (m := m) kw kh
      by_cases h1 : 1 ≤ kw ∧ 1 ≤ kh ∧ kw ≤ 16 ∧ kh ≤ 16
      · have e3 : sidesB kw kh = true := decide_eq_true h1
        rw [e3] at hS
        by_cases h2 : kg < 1
        · (repeat (first | (with_reducible refine AWo.cons ?_) | ((with_reducible refine Step.id ?_); first | ((with_reducible apply Step.gdT); exact rfl; exact rfl; (focus (rfl))) | ((with_reducible apply Step.gdF); exact rfl; exact rfl; (focus (first | rfl | (simp only [decide_eq_true_eq, decide_eq_false_iff_not, Bool.not_eq_true', Bool.not_eq_false', Bool.not_true, Bool.not_false]; first | assumption | omega)))) | ((with_reducible apply Step.move); exact rfl; exact rfl) | ((with_reducible apply Step.assign); exact rfl; exact rfl) | ((with_reducible apply Step.load); exact rfl; (focus (decide +kernel)); exact rfl; (focus (exact Rd.new rfl rfl))) | ((with_reducible apply Step.loadL (n := 5)); exact rfl; (focus (decide +kernel)); (focus (decide +kernel)); exact rfl; (focus (exact RdL.old _ (by assumption))); exact rfl; exact rfl) | ((with_reducible apply Step.ix (s := 5)); exact rfl; (focus (assumption)); exact rfl; (focus (decide +kernel)); exact rfl; (focus (omega))) | ((with_reducible apply Step.field0); exact rfl; (focus (decide +kernel)); exact rfl) | ((with_reducible apply Step.field (k := 1)); exact rfl; (focus (decide +kernel)); exact rfl) | ((with_reducible apply Step.field (k := 2)); exact rfl; (focus (decide +kernel)); exact rfl) | ((with_reducible apply Step.lss); exact rfl; exact rfl; exact rfl) | ((with_reducible apply Step.not); exact rfl; exact rfl) | ((with_reducible apply Step.pickT); exact rfl; exact rfl; exact rfl; exact rfl; (focus (first | rfl | (simp only [decide_eq_true_eq, decide_eq_false_iff_not, Bool.not_eq_true', Bool.not_eq_false', Bool.not_true, Bool.not_false]; first | assumption | omega)))) | ((with_reducible apply Step.pickF); exact rfl; exact rfl; exact rfl; exact rfl; (focus (rfl))) | ((with_reducible apply Step.callR fit); exact rfl; exact Tryd.func62; exact rfl; exact rfl; exact (hS _)) | ((with_reducible apply Step.alloc 0); exact rfl; exact ze99; exact rfl; (focus (first | (simp only [List.nil_append, List.cons_append, List.set_cons_zero, List.set_cons_succ, iv_set, bv_set, iv_rep, bv_rep]; done) | (simp only [List.nil_append, List.cons_append, List.set_cons_zero, List.set_cons_succ, iv_set, bv_set, iv_rep, bv_rep]; rfl) | rfl))) | ((with_reducible apply Step.storeA (k := 0) (n := 5)); exact rfl; exact rfl; exact rfl; exact rfl; (focus (decide +kernel)); exact rfl; (focus (kernel_rfl)); exact rfl; (focus (first | (simp only [List.nil_append, List.cons_append, List.set_cons_zero, List.set_cons_succ, iv_set, bv_set, iv_rep, bv_rep]; done) | (simp only [List.nil_append, List.cons_append, List.set_cons_zero, List.set_cons_succ, iv_set, bv_set, iv_rep, bv_rep]; rfl) | rfl)))) | (with_reducible refine AWo.nil ?_) | ((with_reducible apply AW.seq)) | ((with_reducible apply Then.n)) | ((with_reducible apply AW.regL)) | ((with_reducible apply AW.block)) | ((with_reducible apply AW.skip)) | ((with_reducible apply AW.condT); exact rfl; (focus (first | rfl | (simp only [decide_eq_true_eq, decide_eq_false_iff_not, Bool.not_eq_true', Bool.not_eq_false', Bool.not_true, Bool.not_false]; first | assumption | omega))))))
          (refine AW.ret ?_; (repeat (first | refine Then.r ?_ | refine InBlk.r ?_)))
          exact ⟨_, rfl, _, by rw [hN, List.append_assoc], .inl ⟨e, rfl⟩⟩
        by_cases h3 : 9 < kg
        · (repeat (first | (with_reducible refine AWo.cons ?_) | ((with_reducible refine Step.id ?_); first | ((with_reducible apply Step.gdT); exact rfl; exact rfl; (focus (first | rfl | (simp only [decide_eq_true_eq, decide_eq_false_iff_not, Bool.not_eq_true', Bool.not_eq_false', Bool.not_true, Bool.not_false]; first | assumption | omega)))) | ((with_reducible apply Step.gdF); exact rfl; exact rfl; (focus (first | rfl | (simp only [decide_eq_true_eq, decide_eq_false_iff_not, Bool.not_eq_true', Bool.not_eq_false', Bool.not_true, Bool.not_false]; first | assumption | omega)))) | ((with_reducible apply Step.move); exact rfl; exact rfl) | ((with_reducible apply Step.assign); exact rfl; exact rfl) | ((with_reducible apply Step.load); exact rfl; (focus (decide +kernel)); exact rfl; (focus (exact Rd.new rfl rfl))) | ((with_reducible apply Step.loadL (n := 5)); exact rfl; (focus (decide +kernel)); (focus (decide +kernel)); exact rfl; (focus (exact RdL.old _ (by assumption))); exact rfl; exact rfl) | ((with_reducible apply Step.ix (s := 5)); exact rfl; (focus (assumption)); exact rfl; (focus (decide +kernel)); exact rfl; (focus (omega))) | ((with_reducible apply Step.field0); exact rfl; (focus (decide +kernel)); exact rfl) | ((with_reducible apply Step.field (k := 1)); exact rfl; (focus (decide +kernel)); exact rfl) | ((with_reducible apply Step.field (k := 2)); exact rfl; (focus (decide +kernel)); exact rfl) | ((with_reducible apply Step.lss); exact rfl; exact rfl; exact rfl) | ((with_reducible apply Step.gtr); exact rfl; exact rfl; exact rfl) | ((with_reducible apply Step.not); exact rfl; exact rfl) | ((with_reducible apply Step.pickT); exact rfl; exact rfl; exact rfl; exact rfl; (focus (first | rfl | (simp only [decide_eq_true_eq, decide_eq_false_iff_not, Bool.not_eq_true', Bool.not_eq_false', Bool.not_true, Bool.not_false]; first | assumption | omega)))) | ((with_reducible apply Step.pickF); exact rfl; exact rfl; exact rfl; exact rfl; (focus (first | rfl | (simp only [decide_eq_true_eq, decide_eq_false_iff_not, Bool.not_eq_true', Bool.not_eq_false', Bool.not_true, Bool.not_false]; first | assumption | omega)))) | ((with_reducible apply Step.callR fit); exact rfl; exact Tryd.func62; exact rfl; exact rfl; exact (hS _)) | ((with_reducible apply Step.alloc 0); exact rfl; exact ze99; exact rfl; (focus (first | (simp only [List.nil_append, List.cons_append, List.set_cons_zero, List.set_cons_succ, iv_set, bv_set, iv_rep, bv_rep]; done) | (simp only [List.nil_append, List.cons_append, List.set_cons_zero, List.set_cons_succ, iv_set, bv_set, iv_rep, bv_rep]; rfl) | rfl))) | ((with_reducible apply Step.storeA (k := 0) (n := 5)); exact rfl; exact rfl; exact rfl; exact rfl; (focus (decide +kernel)); exact rfl; (focus (kernel_rfl)); exact rfl; (focus (first | (simp only [List.nil_append, List.cons_append, List.set_cons_zero, List.set_cons_succ, iv_set, bv_set, iv_rep, bv_rep]; done) | (simp only [List.nil_append, List.cons_append, List.set_cons_zero, List.set_cons_succ, iv_set, bv_set, iv_rep, bv_rep]; rfl) | rfl)))) | (with_reducible refine AWo.nil ?_) | ((with_reducible apply AW.seq)) | ((with_reducible apply Then.n)) | ((with_reducible apply AW.regL)) | ((with_reducible apply AW.block)) | ((with_reducible apply AW.skip)) | ((with_reducible apply AW.condT); exact rfl; (focus (first | rfl | (simp only [decide_eq_true_eq, decide_eq_false_iff_not, Bool.not_eq_true', Bool.not_eq_false', Bool.not_true, Bool.not_false]; first | assumption | omega))))))
          (refine AW.ret ?_; (repeat (first | refine Then.r ?_ | refine InBlk.r ?_)))
          exact ⟨_, rfl, _, by rw [hN, List.append_assoc], .inl ⟨e, rfl⟩⟩
        by_cases h4 : ko < 1
        · (repeat (first | (with_reducible refine AWo.cons ?_) | ((with_reducible refine Step.id ?_); first | ((with_reducible apply Step.gdT); exact rfl; exact rfl; (focus (first | rfl | (simp only [decide_eq_true_eq, decide_eq_false_iff_not, Bool.not_eq_true', Bool.not_eq_false', Bool.not_true, Bool.not_false]; first | assumption | omega)))) | ((with_reducible apply Step.gdF); exact rfl; exact rfl; (focus ((simp only [decide_eq_true_eq, decide_eq_false_iff_not, Bool.not_eq_true', Bool.not_eq_false', Bool.not_true, Bool.not_false]; first | assumption | omega)))) | ((with_reducible apply Step.move); exact rfl; exact rfl) | ((with_reducible apply Step.assign); exact rfl; exact rfl) | ((with_reducible apply Step.load); exact rfl; (focus (decide +kernel)); exact rfl; (focus (exact Rd.new rfl rfl))) | ((with_reducible apply Step.loadL (n := 5)); exact rfl; (focus (decide +kernel)); (focus (decide +kernel)); exact rfl; (focus (exact RdL.old _ (by assumption))); exact rfl; exact rfl) | ((with_reducible apply Step.ix (s := 5)); exact rfl; (focus (assumption)); exact rfl; (focus (decide +kernel)); exact rfl; (focus (omega))) | ((with_reducible apply Step.field0); exact rfl; (focus (decide +kernel)); exact rfl) | ((with_reducible apply Step.field (k := 1)); exact rfl; (focus (decide +kernel)); exact rfl) | ((with_reducible apply Step.field (k := 2)); exact rfl; (focus (decide +kernel)); exact rfl) | ((with_reducible apply Step.field (k := 3)); exact rfl; (focus (decide +kernel)); exact rfl) | ((with_reducible apply Step.lss); exact rfl; exact rfl; exact rfl) | ((with_reducible apply Step.gtr); exact rfl; exact rfl; exact rfl) | ((with_reducible apply Step.not); exact rfl; exact rfl) | ((with_reducible apply Step.pickT); exact rfl; exact rfl; exact rfl; exact rfl; (focus ((simp only [decide_eq_true_eq, decide_eq_false_iff_not, Bool.not_eq_true', Bool.not_eq_false', Bool.not_true, Bool.not_false]; first | assumption | omega)))) | ((with_reducible apply Step.pickF); exact rfl; exact rfl; exact rfl; exact rfl; (focus (first | rfl | (simp only [decide_eq_true_eq, decide_eq_false_iff_not, Bool.not_eq_true', Bool.not_eq_false', Bool.not_true, Bool.not_false]; first | assumption | omega)))) | ((with_reducible apply Step.callR fit); exact rfl; exact Tryd.func62; exact rfl; exact rfl; exact (hS _)) | ((with_reducible apply Step.alloc 0); exact rfl; exact ze99; exact rfl; (focus (first | (simp only [List.nil_append, List.cons_append, List.set_cons_zero, List.set_cons_succ, iv_set, bv_set, iv_rep, bv_rep]; done) | (simp only [List.nil_append, List.cons_append, List.set_cons_zero, List.set_cons_succ, iv_set, bv_set, iv_rep, bv_rep]; rfl) | rfl))) | ((with_reducible apply Step.storeA (k := 0) (n := 5)); exact rfl; exact rfl; exact rfl; exact rfl; (focus (decide +kernel)); exact rfl; (focus (kernel_rfl)); exact rfl; (focus (first | (simp only [List.nil_append, List.cons_append, List.set_cons_zero, List.set_cons_succ, iv_set, bv_set, iv_rep, bv_rep]; done) | (simp only [List.nil_append, List.cons_append, List.set_cons_zero, List.set_cons_succ, iv_set, bv_set, iv_rep, bv_rep]; rfl) | rfl)))) | (with_reducible refine AWo.nil ?_) | ((with_reducible apply AW.seq)) | ((with_reducible apply Then.n)) | ((with_reducible apply AW.regL)) | ((with_reducible apply AW.block)) | ((with_reducible apply AW.skip)) | ((with_reducible apply AW.condT); exact rfl; (focus (first | rfl | (simp only [decide_eq_true_eq, decide_eq_false_iff_not, Bool.not_eq_true', Bool.not_eq_false', Bool.not_true, Bool.not_false]; first | assumption | omega))))))
          (refine AW.ret ?_; (repeat (first | refine Then.r ?_ | refine InBlk.r ?_)))
          exact ⟨_, rfl, _, by rw [hN, List.append_assoc], .inl ⟨e, rfl⟩⟩
        have h5 : 1000000 < ko := by omega
        (repeat (first | (with_reducible refine AWo.cons ?_) | ((with_reducible refine Step.id ?_); first | ((with_reducible apply Step.gdT); exact rfl; exact rfl; (focus (first | rfl | (simp only [decide_eq_true_eq, decide_eq_false_iff_not, Bool.not_eq_true', Bool.not_eq_false', Bool.not_true, Bool.not_false]; first | assumption | omega)))) | ((with_reducible apply Step.move); exact rfl; exact rfl) | ((with_reducible apply Step.assign); exact rfl; exact rfl) | ((with_reducible apply Step.load); exact rfl; (focus (decide +kernel)); exact rfl; (focus (exact Rd.new rfl rfl))) | ((with_reducible apply Step.loadL (n := 5)); exact rfl; (focus (decide +kernel)); (focus (decide +kernel)); exact rfl; (focus (exact RdL.old _ (by assumption))); exact rfl; exact rfl) | ((with_reducible apply Step.ix (s := 5)); exact rfl; (focus (assumption)); exact rfl; (focus (decide +kernel)); exact rfl; (focus (omega))) | ((with_reducible apply Step.field0); exact rfl; (focus (decide +kernel)); exact rfl) | ((with_reducible apply Step.field (k := 1)); exact rfl; (focus (decide +kernel)); exact rfl) | ((with_reducible apply Step.field (k := 2)); exact rfl; (focus (decide +kernel)); exact rfl) | ((with_reducible apply Step.field (k := 3)); exact rfl; (focus (decide +kernel)); exact rfl) | ((with_reducible apply Step.lss); exact rfl; exact rfl; exact rfl) | ((with_reducible apply Step.gtr); exact rfl; exact rfl; exact rfl) | ((with_reducible apply Step.not); exact rfl; exact rfl) | ((with_reducible apply Step.pickF); exact rfl; exact rfl; exact rfl; exact rfl; (focus (first | rfl | (simp only [decide_eq_true_eq, decide_eq_false_iff_not, Bool.not_eq_true', Bool.not_eq_false', Bool.not_true, Bool.not_false]; first | assumption | omega)))) | ((with_reducible apply Step.callR fit); exact rfl; exact Tryd.func62; exact rfl; exact rfl; exact (hS _)) | ((with_reducible apply Step.alloc 0); exact rfl; exact ze99; exact rfl; (focus (first | (simp only [List.nil_append, List.cons_append, List.set_cons_zero, List.set_cons_succ, iv_set, bv_set, iv_rep, bv_rep]; done) | (simp only [List.nil_append, List.cons_append, List.set_cons_zero, List.set_cons_succ, iv_set, bv_set, iv_rep, bv_rep]; rfl) | rfl))) | ((with_reducible apply Step.storeA (k := 0) (n := 5)); exact rfl; exact rfl; exact rfl; exact rfl; (focus (decide +kernel)); exact rfl; (focus (kernel_rfl)); exact rfl; (focus (first | (simp only [List.nil_append, List.cons_append, List.set_cons_zero, List.set_cons_succ, iv_set, bv_set, iv_rep, bv_rep]; done) | (simp only [List.nil_append, List.cons_append, List.set_cons_zero, List.set_cons_succ, iv_set, bv_set, iv_rep, bv_rep]; rfl) | rfl)))) | (with_reducible refine AWo.nil ?_) | ((with_reducible apply AW.seq)) | ((with_reducible apply Then.n)) | ((with_reducible apply AW.regL)) | ((with_reducible apply AW.block)) | ((with_reducible apply AW.skip)) | ((with_reducible apply AW.condT); exact rfl; (focus ((simp only [decide_eq_true_eq, decide_eq_false_iff_not, Bool.not_eq_true', Bool.not_eq_false', Bool.not_true, Bool.not_false]; first | assumption | omega))))))
        (refine AW.ret ?_; (repeat (first | refine Then.r ?_ | refine InBlk.r ?_)))
        exact ⟨_, rfl, _, by rw [hN, List.append_assoc], .inl ⟨e, rfl⟩⟩
      · have e3 : sidesB kw kh = false := decide_eq_false h1
        rw [e3] at hS
        (repeat (first | (with_reducible refine AWo.cons ?_) | ((with_reducible refine Step.id ?_); first | ((with_reducible apply Step.gdF); exact rfl; exact rfl; (focus (rfl))) | ((with_reducible apply Step.move); exact rfl; exact rfl) | ((with_reducible apply Step.assign); exact rfl; exact rfl) | ((with_reducible apply Step.load); exact rfl; (focus (decide +kernel)); exact rfl; (focus (exact Rd.new rfl rfl))) | ((with_reducible apply Step.loadL (n := 5)); exact rfl; (focus (decide +kernel)); (focus (decide +kernel)); exact rfl; (focus (exact RdL.old _ (by assumption))); exact rfl; exact rfl) | ((with_reducible apply Step.ix (s := 5)); exact rfl; (focus (assumption)); exact rfl; (focus (decide +kernel)); exact rfl; (focus (omega))) | ((with_reducible apply Step.field0); exact rfl; (focus (decide +kernel)); exact rfl) | ((with_reducible apply Step.field (k := 1)); exact rfl; (focus (decide +kernel)); exact rfl) | ((with_reducible apply Step.lss); exact rfl; exact rfl; exact rfl) | ((with_reducible apply Step.not); exact rfl; exact rfl) | ((with_reducible apply Step.pickT); exact rfl; exact rfl; exact rfl; exact rfl; (focus (rfl))) | ((with_reducible apply Step.callR fit); exact rfl; exact Tryd.func62; exact rfl; exact rfl; exact (hS _)) | ((with_reducible apply Step.alloc 0); exact rfl; exact ze99; exact rfl; (focus (first | (simp only [List.nil_append, List.cons_append, List.set_cons_zero, List.set_cons_succ, iv_set, bv_set, iv_rep, bv_rep]; done) | (simp only [List.nil_append, List.cons_append, List.set_cons_zero, List.set_cons_succ, iv_set, bv_set, iv_rep, bv_rep]; rfl) | rfl))) | ((with_reducible apply Step.storeA (k := 0) (n := 5)); exact rfl; exact rfl; exact rfl; exact rfl; (focus (decide +kernel)); exact rfl; (focus (kernel_rfl)); exact rfl; (focus (first | (simp only [List.nil_append, List.cons_append, List.set_cons_zero, List.set_cons_succ, iv_set, bv_set, iv_rep, bv_rep]; done) | (simp only [List.nil_append, List.cons_append, List.set_cons_zero, List.set_cons_succ, iv_set, bv_set, iv_rep, bv_rep]; rfl) | rfl)))) | (with_reducible refine AWo.nil ?_) | ((with_reducible apply AW.seq)) | ((with_reducible apply Then.n)) | ((with_reducible apply AW.regL)) | ((with_reducible apply AW.block)) | ((with_reducible apply AW.skip)) | ((with_reducible apply AW.condT); exact rfl; (focus (first | rfl | (simp only [decide_eq_true_eq, decide_eq_false_iff_not, Bool.not_eq_true', Bool.not_eq_false', Bool.not_true, Bool.not_false]; first | assumption | omega))))))
        (refine AW.ret ?_; (repeat (first | refine Then.r ?_ | refine InBlk.r ?_)))
        exact ⟨_, rfl, _, by rw [hN, List.append_assoc], .inl ⟨e, rfl⟩⟩
    | true =>
      have hkk := kdB_in hkd
      have hT : ∀ T, Strs (M' ++ T) (.slice q1 B.length c1) B := fun T => hsm.old T
      have hd' : ∀ j, j < i + 1 → kdB (K.getD j default) = true := fun j hj => by
        rcases Nat.lt_succ_iff_lt_or_eq.1 hj with h | rfl
        · exact hd j h
        · exact hkd
      have hmore := fun tp m1 => hP.more (tp := tp) (m1 := m1) (l := l) hpq
      have hsame := fun L => hP.same (l := l) L
      have hpb : Rd M' p 4 (.map (some q)) := ⟨_, hP.pb, rfl⟩
      generalize K.getD i default = k at rk hkk hmore hsame
      obtain ⟨kw, kh, kg, ko, kt⟩ := k
      simp only [Kd.cells] at rk
      simp only at hkk hmore hsame
      have hS := fun m => sides_ok (m := m) kw kh
      have e3 : sidesB kw kh = true := decide_eq_true (by omega)
      rw [e3] at hS
      (repeat (first | (with_reducible refine AWo.cons ?_) | ((with_reducible refine Step.id ?_); first | ((with_reducible apply Step.gdT); exact rfl; exact rfl; (focus (first | rfl | (simp only [decide_eq_true_eq, decide_eq_false_iff_not, Bool.not_eq_true', Bool.not_eq_false', Bool.not_true, Bool.not_false]; first | assumption | omega)))) | ((with_reducible apply Step.move); exact rfl; exact rfl) | ((with_reducible apply Step.load); exact rfl; (focus (decide +kernel)); exact rfl; (focus (first | exact Rd.new rfl rfl | exact Rd.old _ (by assumption)))) | ((with_reducible apply Step.loadL (n := 5)); exact rfl; (focus (decide +kernel)); (focus (decide +kernel)); exact rfl; (focus (exact RdL.old _ (by assumption))); exact rfl; exact rfl) | ((with_reducible apply Step.ix (s := 5)); exact rfl; (focus (assumption)); exact rfl; (focus (decide +kernel)); exact rfl; (focus (omega))) | ((with_reducible apply Step.field0); exact rfl; (focus (decide +kernel)); exact rfl) | ((with_reducible apply Step.field (k := 1)); exact rfl; (focus (decide +kernel)); exact rfl) | ((with_reducible apply Step.field (k := 2)); exact rfl; (focus (decide +kernel)); exact rfl) | ((with_reducible apply Step.field (k := 3)); exact rfl; (focus (decide +kernel)); exact rfl) | ((with_reducible apply Step.field (k := 4)); exact rfl; (focus (decide +kernel)); exact rfl) | ((with_reducible apply Step.lss); exact rfl; exact rfl; exact rfl) | ((with_reducible apply Step.gtr); exact rfl; exact rfl; exact rfl) | ((with_reducible apply Step.not); exact rfl; exact rfl) | ((with_reducible apply Step.nilp); exact rfl; exact rfl) | ((with_reducible apply Step.pickF); exact rfl; exact rfl; exact rfl; exact rfl; (focus (first | rfl | (simp only [decide_eq_true_eq, decide_eq_false_iff_not, Bool.not_eq_true', Bool.not_eq_false', Bool.not_true, Bool.not_false]; first | assumption | omega)))) | ((with_reducible apply Step.callR fit); exact rfl; exact Tryd.func62; exact rfl; exact rfl; exact (hS _)) | ((with_reducible apply Step.alloc 0); exact rfl; exact ze99; exact rfl; (focus (first | (simp only [List.nil_append, List.cons_append, List.set_cons_zero, List.set_cons_succ, iv_set, bv_set, iv_rep, bv_rep]; done) | (simp only [List.nil_append, List.cons_append, List.set_cons_zero, List.set_cons_succ, iv_set, bv_set, iv_rep, bv_rep]; rfl) | rfl))) | ((with_reducible apply Step.storeA (k := 0) (n := 5)); exact rfl; exact rfl; exact rfl; exact rfl; (focus (decide +kernel)); exact rfl; (focus (kernel_rfl)); exact rfl; (focus (first | (simp only [List.nil_append, List.cons_append, List.set_cons_zero, List.set_cons_succ, iv_set, bv_set, iv_rep, bv_rep]; done) | (simp only [List.nil_append, List.cons_append, List.set_cons_zero, List.set_cons_succ, iv_set, bv_set, iv_rep, bv_rep]; rfl) | rfl)))) | (with_reducible refine AWo.nil ?_) | ((with_reducible apply AW.seq)) | ((with_reducible apply Then.n)) | ((with_reducible apply AW.regL)) | ((with_reducible apply AW.block)) | ((with_reducible apply AW.drawL fit); (focus (decide +kernel))) | ((with_reducible apply AW.skip)) | ((with_reducible apply AW.condT); exact rfl; (focus ((simp only [decide_eq_true_eq, decide_eq_false_iff_not, Bool.not_eq_true', Bool.not_eq_false', Bool.not_true, Bool.not_false]; first | assumption | omega)))) | ((with_reducible apply AW.condF); exact rfl; (focus ((simp only [decide_eq_true_eq, decide_eq_false_iff_not, Bool.not_eq_true', Bool.not_eq_false', Bool.not_true, Bool.not_false]; first | assumption | omega))))))
      ((with_reducible apply Step.mapGet); exact rfl; exact rfl; exact (get_old _ hq); exact rfl; exact rfl; exact un103; exact un3; exact zr141; exact rfl)
      cases hlk : mlook l kg with
      | some v =>
        obtain ⟨tp, rfl, _⟩ := hl1 _ _ hlk
        simp only [Option.getD_some]
        (repeat (first | (with_reducible refine AWo.cons ?_) | ((with_reducible refine Step.id ?_); first | ((with_reducible apply Step.move); exact rfl; exact rfl) | ((with_reducible apply Step.ptrNot); exact rfl; exact rfl; exact un141; exact rfl) | ((with_reducible apply Step.add); exact rfl; exact rfl; (focus (omega)); exact rfl)) | (with_reducible refine AWo.nil ?_) | ((with_reducible apply Then.n)) | ((with_reducible apply AW.regL)) | ((with_reducible apply InBlk.n)) | ((with_reducible apply AW.skip)) | ((with_reducible apply AW.condF); exact rfl; (focus (rfl)))))
        exact ⟨_, _, by omega, (by repeat (first | exact trivial | (refine And.intro rfl ?_))), i + 1, rfl, hlt, hd', hsame _ hq hl1 hl2 (by rw [hlk]; rfl), rfl⟩
      | none =>
        simp only [Option.getD_none]
        (repeat (first | (with_reducible refine AWo.cons ?_) | ((with_reducible refine Step.id ?_); first | ((with_reducible apply Step.move); exact rfl; exact rfl) | ((with_reducible apply Step.load); exact rfl; (focus (decide +kernel)); exact rfl; (focus (exact Rd.new rfl rfl))) | ((with_reducible apply Step.field (k := 2)); exact rfl; (focus (decide +kernel)); exact rfl) | ((with_reducible apply Step.field (k := 4)); exact rfl; (focus (decide +kernel)); exact rfl) | ((with_reducible apply Step.ptrNil); exact rfl; exact rfl; exact un141; exact rfl) | ((with_reducible apply Step.nilp); exact rfl; exact rfl)) | (with_reducible refine AWo.nil ?_) | ((with_reducible apply Then.n)) | ((with_reducible apply AW.drawT fit (T := (.step 0 (.step 1 (.step 2 (.step 4 (.step 6 (.step 7 (.step 8 (.both (.step 3 (.both (.step 5 (.step 9 (.step 10 (.step 11 (.step 12 (.step 13 .done)))))) (.step 9 (.step 5 (.step 10 (.step 11 (.step 12 (.step 13 .done)))))))) (.both (.step 5 (.both (.step 3 (.step 9 (.step 10 (.step 11 (.step 12 (.step 13 .done)))))) (.step 9 (.step 3 (.step 10 (.step 11 (.step 12 (.step 13 .done)))))))) (.step 9 (.step 3 (.step 5 (.step 10 (.step 11 (.step 12 (.step 13 .done)))))))))))))))))); (focus (decide +kernel))) | ((with_reducible apply AWt.step); exact rfl) | ((with_reducible apply AW.condT); exact rfl; (focus (rfl)))))
        (repeat' (first | ((with_reducible refine Step.id ?_); ((with_reducible apply Step.load); exact rfl; (focus (decide +kernel)); exact rfl; (focus (first | exact Rd.new rfl rfl | exact Rd.old _ (by assumption))))) | ((with_reducible apply AWt.step); exact rfl) | refine AWt.both ?_ ?_))
        all_goals
          ((with_reducible apply Step.callX fit); exact rfl; exact Tryd.func63; exact rfl; exact rfl; exact (NewTable_ok (hT _) hv (by omega)))
          rintro v m1 ⟨L1, hL1⟩ ⟨tp, htl, rfl, hTab⟩
          have z1 : Rd m1 (M'.length + 0) 2 (.int .i64 kg) := by rw [hL1]; exact Rd.old _ (Rd.new rfl rfl)
          have z2 : Rd m1 p 4 (.map (some q)) := by rw [hL1, List.append_assoc]; exact hpb.old _
          have z3 : m1[q]? = some (some { cells := [], kind := .map, ents := mks l }) := by rw [hL1, List.append_assoc]; exact get_old _ hq
          have z4 := hmore tp m1 ⟨_, by rw [hL1, List.append_assoc]⟩ hq hTab hl1 hl2
          clear hL1 hTab
          rw [List.append_nil]
          (repeat' (first | ((with_reducible refine Step.id ?_); first | ((with_reducible apply Step.move); exact rfl; exact rfl) | ((with_reducible apply Step.load); exact rfl; (focus (decide +kernel)); exact rfl; (focus (assumption))) | ((with_reducible apply Step.extract); exact rfl; exact rfl; exact rfl)) | ((with_reducible apply AWt.step); exact rfl)))
          all_goals
            ((with_reducible apply Step.mapAdd); exact rfl; exact rfl; exact rfl; exact z3; exact hlk; exact un103; exact un3)
            (repeat' (first | (with_reducible refine AWo.cons ?_) | ((with_reducible refine Step.id ?_); first | ((with_reducible apply Step.move); exact rfl; exact rfl) | ((with_reducible apply Step.add); exact rfl; exact rfl; (focus (omega)); exact rfl)) | (with_reducible refine AWo.nil ?_) | ((with_reducible apply Then.n)) | ((with_reducible apply AW.regL)) | ((with_reducible apply AWt.done)) | ((with_reducible apply InBlk.n))))
            all_goals exact ⟨_, _, by omega, (by repeat (first | exact trivial | (refine And.intro rfl ?_))), i + 1, rfl, hlt, hd', z4, rfl⟩
  · obtain rfl : i = K.length := by omega
    (repeat (first | (with_reducible refine AWo.cons ?_) | ((with_reducible refine Step.id ?_); first | ((with_reducible apply Step.move); exact rfl; exact rfl) | ((with_reducible apply Step.assign); exact rfl; exact rfl) | ((with_reducible apply Step.lss); exact rfl; exact rfl; exact rfl)) | (with_reducible refine AWo.nil ?_) | ((with_reducible apply AW.seq)) | ((with_reducible apply Then.n)) | ((with_reducible apply AW.regL)) | ((with_reducible apply AW.exit)) | ((with_reducible apply InBlk.hit)) | ((with_reducible apply Then.e)) | ((with_reducible apply AW.condF); exact rfl; (focus ((simp only [decide_eq_true_eq, decide_eq_false_iff_not, Bool.not_eq_true', Bool.not_eq_false', Bool.not_true, Bool.not_false]; first | assumption | omega))))))
    (refine AW.ret ?_; (repeat (first | refine Then.r ?_ | refine InBlk.r ?_)))
    have hg : goodB B K = true := by simp [goodB, boardB, hv, hb, kinds_all (by omega) hd]
    exact ⟨_, rfl, N, hN, .inr ⟨hg, p, by omega, rfl, hP.done hs hk⟩⟩
end Go.Proofs.YtedbjmgchfgabaaDoor.Abs
namespace Go.Proofs.YtedbjmgchfgabaaDoor.Abs
set_option linter.unusedSimpArgs false
set_option linter.unusedVariables false
open Go.RowKit
open Go.Proofs.YtedbjmgchfgabaaDoor.Sim
open Go.Proofs
theorem newBoard_ok {m : AM} {sv kv : Value} {B : Brd} {K : List Kd} (hs : Strs m sv B) (hk : Kds m kv K) (hg : goodB B K = true) :
    ACall Tryd.prog 34 #[sv, kv] m (More (fun m' v => ∃ p, m.length ≤ p ∧ v = .pointer (some ⟨p, 0, none⟩) ∧ BoardAt m' p B K) m) :=
  (newBoard_any hs hk).mono fun v m' ⟨N, hN, h⟩ => ⟨N, hN, by
    rcases h with ⟨h1, _⟩ | ⟨_, h⟩
    · rw [hg] at h1; cases h1
    · exact h⟩
theorem newBoard_no {m : AM} {sv kv : Value} {B : Brd} {K : List Kd} (hs : Strs m sv B) (hk : Kds m kv K) (hg : goodB B K = false) : ACall Tryd.prog 34 #[sv, kv] m (Ret (.pointer none) m) :=
  ACall.drop (Ren.of_g0 rfl) ((newBoard_any hs hk).mono fun v m' ⟨N, hN, h⟩ => by
    rcases h with ⟨_, h⟩ | ⟨h1, _⟩
    · exact ⟨h, N, hN⟩
    · rw [hg] at h1; cases h1)
def upB (k : Kd) (r : R4) : Bool := decide (k.w = r.a ∧ k.h = r.b)
def tnB (k : Kd) (r : R4) : Bool := k.turn && decide (k.w = r.b ∧ k.h = r.a)
def turnedB (k : Kd) (r : R4) : Bool := !upB k r && tnB k r
def okB (B : Brd) (k : Kd) (r : R4) : Bool := (upB k r || tnB k r) && decide (cnt B k.g r.x r.y r.a r.b = r.a * r.b)
theorem fits_aux (A C D : Prop) [Decidable A] [Decidable C] [Decidable D] (t : Bool) :
    (if A then (if D then some false else none) else if t = true ∧ C then (if D then some true else none) else none) = if ((decide A || (t && decide C)) && decide D) = true then some (!decide A && (t && decide C)) else none := by
  by_cases A <;> by_cases C <;> by_cases D <;> cases t <;> simp [*]
theorem fitsM_eq (B : Brd) (k : Kd) (r : R4) : fitsM B k r = if okB B k r = true then some (turnedB k r) else none :=
  fits_aux (k.w = r.a ∧ k.h = r.b) (k.w = r.b ∧ k.h = r.a) (cnt B k.g r.x r.y r.a r.b = r.a * r.b) k.turn
theorem fitsM_some (B : Brd) (k : Kd) (r : R4) : (fitsM B k r).isSome = okB B k r := by
  rw [fitsM_eq]; cases okB B k r <;> rfl
theorem area_le {w h : Nat} {r : R4} (hw : w ≤ 16) (hh : h ≤ 16) (hr : r.ok w h) : r.a * r.b ≤ 256 := by
  unfold R4.ok at hr
  exact Nat.le_trans (Nat.mul_le_mul (show r.a ≤ 16 by omega) (show r.b ≤ 16 by omega)) (by omega)
set_option maxHeartbeats 4000000 in
set_option maxRecDepth 100000 in
theorem fits_ok {m : AM} {p : Nat} {B : Brd} {K : List Kd} (hB : BoardAt m p B K) (hg : goodB B K = true) {k : Nat} (hk : k < K.length) {r : R4} (hr : r.ok (bw B) (bh B)) :
    ACall Tryd.prog 78 #[.pointer (some ⟨p, 0, none⟩), .int .i64 (k : Nat), r.rc.v] m (Ret (.tuple #[.bool (turnedB (K.getD k default) r), .bool (okB B (K.getD k default) r)]) m) := by
  have hgb : boardB B = true := by simp only [goodB, Bool.and_eq_true] at hg; exact hg.1
  have hin := good_in hgb
  have hab := area_le hin.2.2.2 hin.2.1 hr
  obtain ⟨_, ⟨kv, k1, A, O, sl, la, rd⟩, _, _, q, l, b, h7, h8, h9, h10, h11⟩ := hB
  obtain ⟨tp, h12, h13⟩ := h11 k hk
  have rk := rd k hk
  generalize K.getD k default = kd at *
  obtain ⟨kw, kh, kg, ko, kt⟩ := kd
  simp only [Kd.cells] at rk h12 h13
  obtain ⟨q', c', rfl⟩ := sl.shape
  have hC := fun T => Count_ok (h13.old T) (by omega) (by omega) hr
  obtain ⟨x, y, a, bb⟩ := r
  simp only at hab hC
  have e1 : (a : Int) * (bb : Int) = ((a * bb : Nat) : Int) := by simp
  have e2 : ((cnt B kg x y a bb : Nat) : Int) = ((a * bb : Nat) : Int) ↔ cnt B kg x y a bb = a * bb := by omega
  change ACall Tryd.prog 78 #[.pointer (some ⟨p, 0, none⟩), .int .i64 (k : Nat), .agg #[.int .i64 (x : Nat), .int .i64 (y : Nat), .int .i64 (a : Nat), .int .i64 (bb : Nat)]] m (Ret (.tuple #[.bool (turnedB ⟨kw, kh, kg, ko, kt⟩ ⟨x, y, a, bb⟩), .bool (okB B ⟨kw, kh, kg, ko, kt⟩ ⟨x, y, a, bb⟩)]) m)
  refine ACall.start Tryd.func78 rfl rfl ?_
  have fin : ∀ (T : AM) (tn : Bool), tn = turnedB ⟨kw, kh, kg, ko, kt⟩ ⟨x, y, a, bb⟩ → (upB ⟨kw, kh, kg, ko, kt⟩ ⟨x, y, a, bb⟩ || tnB ⟨kw, kh, kg, ko, kt⟩ ⟨x, y, a, bb⟩) = true →
      Ret (.tuple #[.bool (turnedB ⟨kw, kh, kg, ko, kt⟩ ⟨x, y, a, bb⟩), .bool (okB B ⟨kw, kh, kg, ko, kt⟩ ⟨x, y, a, bb⟩)]) m (.tuple #[.bool tn, .bool (decide (((cnt B kg x y a bb : Nat) : Int) = ((a * bb : Nat) : Int)))]) m := fun T tn h1 h2 => by
    refine ⟨?_, rfl⟩
    have e3 : decide (((cnt B kg x y a bb : Nat) : Int) = ((a * bb : Nat) : Int)) = decide (cnt B kg x y a bb = a * bb) := decide_eq_decide.2 e2
    unfold okB
    rw [h1, h2, Bool.true_and, e3]
  have no : (upB ⟨kw, kh, kg, ko, kt⟩ ⟨x, y, a, bb⟩ || tnB ⟨kw, kh, kg, ko, kt⟩ ⟨x, y, a, bb⟩) = false →
      Ret (.tuple #[.bool (turnedB ⟨kw, kh, kg, ko, kt⟩ ⟨x, y, a, bb⟩), .bool (okB B ⟨kw, kh, kg, ko, kt⟩ ⟨x, y, a, bb⟩)]) m (.tuple #[.bool false, .bool false]) m := fun h2 => by
    refine ⟨?_, rfl⟩
    have h3 : tnB ⟨kw, kh, kg, ko, kt⟩ ⟨x, y, a, bb⟩ = false := (Bool.or_eq_false_iff.1 h2).2
    unfold okB turnedB
    rw [h2, h3, Bool.false_and, Bool.and_false]
  by_cases u : kw = (a : Int) ∧ kh = (bb : Int)
  · obtain ⟨u1, u2⟩ := u
    (repeat' (first | (with_reducible refine AWo.cons ?_) | ((with_reducible refine Step.id ?_); first | ((with_reducible apply Step.gdT); exact rfl; exact rfl; (focus ((simp only [decide_eq_true_eq, decide_eq_false_iff_not, Bool.not_eq_true', Bool.not_eq_false', Bool.not_true, Bool.not_false]; first | assumption | omega)))) | ((with_reducible apply Step.move); exact rfl; exact rfl) | ((with_reducible apply Step.assign); exact rfl; exact rfl) | ((with_reducible apply Step.load); exact rfl; (focus (decide +kernel)); exact rfl; (focus (first | exact Rd.new rfl rfl | exact Rd.old _ (by assumption)))) | ((with_reducible apply Step.loadL (n := 5)); exact rfl; (focus (decide +kernel)); (focus (decide +kernel)); exact rfl; (focus (exact RdL.old _ (by assumption))); exact rfl; exact rfl) | ((with_reducible apply Step.ix (s := 5)); exact rfl; (focus (assumption)); exact rfl; (focus (decide +kernel)); exact rfl; (focus (omega))) | ((with_reducible apply Step.field0); exact rfl; (focus (decide +kernel)); exact rfl) | ((with_reducible apply Step.field (k := 1)); exact rfl; (focus (decide +kernel)); exact rfl) | ((with_reducible apply Step.field (k := 2)); exact rfl; (focus (decide +kernel)); exact rfl) | ((with_reducible apply Step.field (k := 3)); exact rfl; (focus (decide +kernel)); exact rfl) | ((with_reducible apply Step.field (k := 4)); exact rfl; (focus (decide +kernel)); exact rfl) | ((with_reducible apply Step.eql); exact rfl; exact rfl; exact rfl) | ((with_reducible apply Step.nilp); exact rfl; exact rfl) | ((with_reducible apply Step.pickT); exact rfl; exact rfl; exact rfl; exact rfl; (focus ((simp only [decide_eq_true_eq, decide_eq_false_iff_not, Bool.not_eq_true', Bool.not_eq_false', Bool.not_true, Bool.not_false]; first | assumption | omega)))) | ((with_reducible apply Step.box 0); exact rfl; exact rfl; (focus (kernel_rfl)); exact rfl; (focus (first | (simp only [List.nil_append, List.cons_append, List.set_cons_zero, List.set_cons_succ, iv_set, bv_set, iv_rep, bv_rep]; done) | (simp only [List.nil_append, List.cons_append, List.set_cons_zero, List.set_cons_succ, iv_set, bv_set, iv_rep, bv_rep]; rfl) | rfl))) | ((with_reducible apply Step.alloc 1); exact rfl; exact ze99; exact rfl; (focus (first | (simp only [List.nil_append, List.cons_append, List.set_cons_zero, List.set_cons_succ, iv_set, bv_set, iv_rep, bv_rep]; done) | (simp only [List.nil_append, List.cons_append, List.set_cons_zero, List.set_cons_succ, iv_set, bv_set, iv_rep, bv_rep]; rfl) | rfl))) | ((with_reducible apply Step.storeA (k := 1) (n := 5)); exact rfl; exact rfl; exact rfl; exact rfl; (focus (decide +kernel)); exact rfl; (focus (kernel_rfl)); exact rfl; (focus (first | (simp only [List.nil_append, List.cons_append, List.set_cons_zero, List.set_cons_succ, iv_set, bv_set, iv_rep, bv_rep]; done) | (simp only [List.nil_append, List.cons_append, List.set_cons_zero, List.set_cons_succ, iv_set, bv_set, iv_rep, bv_rep]; rfl) | rfl)))) | (with_reducible refine AWo.nil ?_) | ((with_reducible apply AW.seq)) | ((with_reducible apply Then.n)) | ((with_reducible apply AW.regL)) | ((with_reducible apply AW.block)) | ((with_reducible apply AW.drawL fit); (focus (decide +kernel))) | ((with_reducible apply InBlk.n)) | ((with_reducible apply AW.skip)) | ((with_reducible apply AW.condT); exact rfl; (focus ((simp only [decide_eq_true_eq, decide_eq_false_iff_not, Bool.not_eq_true', Bool.not_eq_false', Bool.not_true, Bool.not_false]; first | assumption | omega))))))
    all_goals
      ((with_reducible apply Step.mapGet); exact rfl; exact rfl; exact (get_old _ h8); exact h9; exact h10; exact un103; exact un3; exact zr141; exact rfl)
      rw [h12]
      simp only [Option.getD_some]
      (repeat' (first | (with_reducible refine AWo.cons ?_) | ((with_reducible refine Step.id ?_); first | ((with_reducible apply Step.move); exact rfl; exact rfl) | ((with_reducible apply Step.assign); exact rfl; exact rfl) | ((with_reducible apply Step.load); exact rfl; (focus (decide +kernel)); exact rfl; (focus (exact Rd.new rfl rfl))) | ((with_reducible apply Step.loadL (n := 4)); exact rfl; (focus (decide +kernel)); (focus (decide +kernel)); exact rfl; (focus (exact RdL.new rfl rfl)); exact rfl; exact rfl) | ((with_reducible apply Step.field (k := 2)); exact rfl; (focus (decide +kernel)); exact rfl) | ((with_reducible apply Step.field (k := 3)); exact rfl; (focus (decide +kernel)); exact rfl) | ((with_reducible apply Step.mulE); exact rfl; exact rfl; (focus (assumption)); (focus (omega)); exact rfl) | ((with_reducible apply Step.eql); exact rfl; exact rfl; exact rfl) | ((with_reducible apply Step.extract); exact rfl; exact rfl; exact rfl) | ((with_reducible apply Step.callR fit); exact rfl; exact Tryd.func102; exact rfl; exact rfl; exact (hC _))) | (with_reducible refine AWo.nil ?_) | ((with_reducible apply AW.seq)) | ((with_reducible apply Then.n)) | ((with_reducible apply AW.drawL fit); (focus (decide +kernel)))))
      all_goals
        (refine AW.retD (l := [(6, _), (7, _)]) (by repeat (first | exact trivial | (refine And.intro ⟨rfl, by (exact .bool _)⟩ ?_))) ?_; (repeat (first | refine Then.r ?_ | refine InBlk.r ?_)))
        exact ⟨_, rfl, fin [] _ (by simp [turnedB, upB, u1, u2]) (by simp [upB, u1, u2])⟩
  have hup : upB ⟨kw, kh, kg, ko, kt⟩ ⟨x, y, a, bb⟩ = false := decide_eq_false u
  by_cases v : kt = true ∧ kw = (bb : Int) ∧ kh = (a : Int)
  · obtain ⟨v0, v1, v2⟩ := v
    subst v0
    have htn : tnB ⟨kw, kh, kg, ko, true⟩ ⟨x, y, a, bb⟩ = true := decide_eq_true (p := kw = (bb : Int) ∧ kh = (a : Int)) ⟨v1, v2⟩
    by_cases u1 : kw = (a : Int)
    · exact absurd ⟨u1, by omega⟩ u
    · (repeat' (first | (with_reducible refine AWo.cons ?_) | ((with_reducible refine Step.id ?_); first | ((with_reducible apply Step.gdT); exact rfl; exact rfl; (focus (first | rfl | (simp only [decide_eq_true_eq, decide_eq_false_iff_not, Bool.not_eq_true', Bool.not_eq_false', Bool.not_true, Bool.not_false]; first | assumption | omega)))) | ((with_reducible apply Step.gdF); exact rfl; exact rfl; (focus ((simp only [decide_eq_true_eq, decide_eq_false_iff_not, Bool.not_eq_true', Bool.not_eq_false', Bool.not_true, Bool.not_false]; first | assumption | omega)))) | ((with_reducible apply Step.move); exact rfl; exact rfl) | ((with_reducible apply Step.assign); exact rfl; exact rfl) | ((with_reducible apply Step.load); exact rfl; (focus (decide +kernel)); exact rfl; (focus (first | exact Rd.new rfl rfl | exact Rd.old _ (by assumption)))) | ((with_reducible apply Step.loadL (n := 5)); exact rfl; (focus (decide +kernel)); (focus (decide +kernel)); exact rfl; (focus (exact RdL.old _ (by assumption))); exact rfl; exact rfl) | ((with_reducible apply Step.ix (s := 5)); exact rfl; (focus (assumption)); exact rfl; (focus (decide +kernel)); exact rfl; (focus (omega))) | ((with_reducible apply Step.field0); exact rfl; (focus (decide +kernel)); exact rfl) | ((with_reducible apply Step.field (k := 1)); exact rfl; (focus (decide +kernel)); exact rfl) | ((with_reducible apply Step.field (k := 2)); exact rfl; (focus (decide +kernel)); exact rfl) | ((with_reducible apply Step.field (k := 3)); exact rfl; (focus (decide +kernel)); exact rfl) | ((with_reducible apply Step.field (k := 4)); exact rfl; (focus (decide +kernel)); exact rfl) | ((with_reducible apply Step.eql); exact rfl; exact rfl; exact rfl) | ((with_reducible apply Step.nilp); exact rfl; exact rfl) | ((with_reducible apply Step.pickT); exact rfl; exact rfl; exact rfl; exact rfl; (focus (first | rfl | (simp only [decide_eq_true_eq, decide_eq_false_iff_not, Bool.not_eq_true', Bool.not_eq_false', Bool.not_true, Bool.not_false]; first | assumption | omega)))) | ((with_reducible apply Step.pickF); exact rfl; exact rfl; exact rfl; exact rfl; (focus ((simp only [decide_eq_true_eq, decide_eq_false_iff_not, Bool.not_eq_true', Bool.not_eq_false', Bool.not_true, Bool.not_false]; first | assumption | omega)))) | ((with_reducible apply Step.box 0); exact rfl; exact rfl; (focus (kernel_rfl)); exact rfl; (focus (first | (simp only [List.nil_append, List.cons_append, List.set_cons_zero, List.set_cons_succ, iv_set, bv_set, iv_rep, bv_rep]; done) | (simp only [List.nil_append, List.cons_append, List.set_cons_zero, List.set_cons_succ, iv_set, bv_set, iv_rep, bv_rep]; rfl) | rfl))) | ((with_reducible apply Step.alloc 1); exact rfl; exact ze99; exact rfl; (focus (first | (simp only [List.nil_append, List.cons_append, List.set_cons_zero, List.set_cons_succ, iv_set, bv_set, iv_rep, bv_rep]; done) | (simp only [List.nil_append, List.cons_append, List.set_cons_zero, List.set_cons_succ, iv_set, bv_set, iv_rep, bv_rep]; rfl) | rfl))) | ((with_reducible apply Step.storeA (k := 1) (n := 5)); exact rfl; exact rfl; exact rfl; exact rfl; (focus (decide +kernel)); exact rfl; (focus (kernel_rfl)); exact rfl; (focus (first | (simp only [List.nil_append, List.cons_append, List.set_cons_zero, List.set_cons_succ, iv_set, bv_set, iv_rep, bv_rep]; done) | (simp only [List.nil_append, List.cons_append, List.set_cons_zero, List.set_cons_succ, iv_set, bv_set, iv_rep, bv_rep]; rfl) | rfl)))) | (with_reducible refine AWo.nil ?_) | ((with_reducible apply AW.seq)) | ((with_reducible apply Then.n)) | ((with_reducible apply AW.regL)) | ((with_reducible apply AW.block)) | ((with_reducible apply AW.drawL fit); (focus (decide +kernel))) | ((with_reducible apply InBlk.n)) | ((with_reducible apply AW.condT); exact rfl; (focus ((simp only [decide_eq_true_eq, decide_eq_false_iff_not, Bool.not_eq_true', Bool.not_eq_false', Bool.not_true, Bool.not_false]; first | assumption | omega)))) | ((with_reducible apply AW.condF); exact rfl; (focus (rfl)))))
      all_goals
        ((with_reducible apply Step.mapGet); exact rfl; exact rfl; exact (get_old _ h8); exact h9; exact h10; exact un103; exact un3; exact zr141; exact rfl)
        rw [h12]
        simp only [Option.getD_some]
        (repeat' (first | (with_reducible refine AWo.cons ?_) | ((with_reducible refine Step.id ?_); first | ((with_reducible apply Step.move); exact rfl; exact rfl) | ((with_reducible apply Step.assign); exact rfl; exact rfl) | ((with_reducible apply Step.load); exact rfl; (focus (decide +kernel)); exact rfl; (focus (exact Rd.new rfl rfl))) | ((with_reducible apply Step.loadL (n := 4)); exact rfl; (focus (decide +kernel)); (focus (decide +kernel)); exact rfl; (focus (exact RdL.new rfl rfl)); exact rfl; exact rfl) | ((with_reducible apply Step.field (k := 2)); exact rfl; (focus (decide +kernel)); exact rfl) | ((with_reducible apply Step.field (k := 3)); exact rfl; (focus (decide +kernel)); exact rfl) | ((with_reducible apply Step.mulE); exact rfl; exact rfl; (focus (assumption)); (focus (omega)); exact rfl) | ((with_reducible apply Step.eql); exact rfl; exact rfl; exact rfl) | ((with_reducible apply Step.extract); exact rfl; exact rfl; exact rfl) | ((with_reducible apply Step.callR fit); exact rfl; exact Tryd.func102; exact rfl; exact rfl; exact (hC _))) | (with_reducible refine AWo.nil ?_) | ((with_reducible apply AW.seq)) | ((with_reducible apply Then.n)) | ((with_reducible apply AW.drawL fit); (focus (decide +kernel)))))
        all_goals
          (refine AW.retD (l := [(6, _), (7, _)]) (by repeat (first | exact trivial | (refine And.intro ⟨rfl, by (exact .bool _)⟩ ?_))) ?_; (repeat (first | refine Then.r ?_ | refine InBlk.r ?_)))
          exact ⟨_, rfl, fin [] _ (by unfold turnedB; rw [hup, htn]; rfl) (by rw [htn, Bool.or_true])⟩
  · have htn : tnB ⟨kw, kh, kg, ko, kt⟩ ⟨x, y, a, bb⟩ = false := by
      unfold tnB
      cases kt with
      | false => rfl
      | true => exact decide_eq_false fun h => v ⟨rfl, h⟩
    have hn : (upB ⟨kw, kh, kg, ko, kt⟩ ⟨x, y, a, bb⟩ || tnB ⟨kw, kh, kg, ko, kt⟩ ⟨x, y, a, bb⟩) = false := by rw [hup, htn]; rfl
    cases kt with
    | false =>
      by_cases u1 : kw = (a : Int)
      · have u2 : ¬ kh = (bb : Int) := fun h => u ⟨u1, h⟩
        (repeat (first | (with_reducible refine AWo.cons ?_) | ((with_reducible refine Step.id ?_); first | ((with_reducible apply Step.gdT); exact rfl; exact rfl; (focus ((simp only [decide_eq_true_eq, decide_eq_false_iff_not, Bool.not_eq_true', Bool.not_eq_false', Bool.not_true, Bool.not_false]; first | assumption | omega)))) | ((with_reducible apply Step.gdF); exact rfl; exact rfl; (focus (rfl))) | ((with_reducible apply Step.move); exact rfl; exact rfl) | ((with_reducible apply Step.assign); exact rfl; exact rfl) | ((with_reducible apply Step.load); exact rfl; (focus (decide +kernel)); exact rfl; (focus (first | exact Rd.new rfl rfl | exact Rd.old _ (by assumption)))) | ((with_reducible apply Step.loadL (n := 5)); exact rfl; (focus (decide +kernel)); (focus (decide +kernel)); exact rfl; (focus (exact RdL.old _ (by assumption))); exact rfl; exact rfl) | ((with_reducible apply Step.ix (s := 5)); exact rfl; (focus (assumption)); exact rfl; (focus (decide +kernel)); exact rfl; (focus (omega))) | ((with_reducible apply Step.field0); exact rfl; (focus (decide +kernel)); exact rfl) | ((with_reducible apply Step.field (k := 1)); exact rfl; (focus (decide +kernel)); exact rfl) | ((with_reducible apply Step.field (k := 2)); exact rfl; (focus (decide +kernel)); exact rfl) | ((with_reducible apply Step.field (k := 3)); exact rfl; (focus (decide +kernel)); exact rfl) | ((with_reducible apply Step.field (k := 4)); exact rfl; (focus (decide +kernel)); exact rfl) | ((with_reducible apply Step.eql); exact rfl; exact rfl; exact rfl) | ((with_reducible apply Step.nilp); exact rfl; exact rfl) | ((with_reducible apply Step.pickT); exact rfl; exact rfl; exact rfl; exact rfl; (focus ((simp only [decide_eq_true_eq, decide_eq_false_iff_not, Bool.not_eq_true', Bool.not_eq_false', Bool.not_true, Bool.not_false]; first | assumption | omega)))) | ((with_reducible apply Step.pickF); exact rfl; exact rfl; exact rfl; exact rfl; (focus (rfl))) | ((with_reducible apply Step.box 0); exact rfl; exact rfl; (focus (kernel_rfl)); exact rfl; (focus (first | (simp only [List.nil_append, List.cons_append, List.set_cons_zero, List.set_cons_succ, iv_set, bv_set, iv_rep, bv_rep]; done) | (simp only [List.nil_append, List.cons_append, List.set_cons_zero, List.set_cons_succ, iv_set, bv_set, iv_rep, bv_rep]; rfl) | rfl))) | ((with_reducible apply Step.alloc 1); exact rfl; exact ze99; exact rfl; (focus (first | (simp only [List.nil_append, List.cons_append, List.set_cons_zero, List.set_cons_succ, iv_set, bv_set, iv_rep, bv_rep]; done) | (simp only [List.nil_append, List.cons_append, List.set_cons_zero, List.set_cons_succ, iv_set, bv_set, iv_rep, bv_rep]; rfl) | rfl))) | ((with_reducible apply Step.storeA (k := 1) (n := 5)); exact rfl; exact rfl; exact rfl; exact rfl; (focus (decide +kernel)); exact rfl; (focus (kernel_rfl)); exact rfl; (focus (first | (simp only [List.nil_append, List.cons_append, List.set_cons_zero, List.set_cons_succ, iv_set, bv_set, iv_rep, bv_rep]; done) | (simp only [List.nil_append, List.cons_append, List.set_cons_zero, List.set_cons_succ, iv_set, bv_set, iv_rep, bv_rep]; rfl) | rfl)))) | (with_reducible refine AWo.nil ?_) | ((with_reducible apply AW.seq)) | ((with_reducible apply Then.n)) | ((with_reducible apply AW.regL)) | ((with_reducible apply AW.block)) | ((with_reducible apply AW.condF); exact rfl; (focus (first | rfl | (simp only [decide_eq_true_eq, decide_eq_false_iff_not, Bool.not_eq_true', Bool.not_eq_false', Bool.not_true, Bool.not_false]; first | assumption | omega))))))
        (refine AW.retD (l := [(6, _), (7, _)]) (by repeat (first | exact trivial | (refine And.intro ⟨rfl, by (exact .bool _)⟩ ?_))) ?_; (repeat (first | refine Then.r ?_ | refine InBlk.r ?_)))
        exact ⟨_, rfl, no hn⟩
      · (repeat (first | (with_reducible refine AWo.cons ?_) | ((with_reducible refine Step.id ?_); first | ((with_reducible apply Step.gdF); exact rfl; exact rfl; (focus (first | rfl | (simp only [decide_eq_true_eq, decide_eq_false_iff_not, Bool.not_eq_true', Bool.not_eq_false', Bool.not_true, Bool.not_false]; first | assumption | omega)))) | ((with_reducible apply Step.move); exact rfl; exact rfl) | ((with_reducible apply Step.assign); exact rfl; exact rfl) | ((with_reducible apply Step.load); exact rfl; (focus (decide +kernel)); exact rfl; (focus (first | exact Rd.new rfl rfl | exact Rd.old _ (by assumption)))) | ((with_reducible apply Step.loadL (n := 5)); exact rfl; (focus (decide +kernel)); (focus (decide +kernel)); exact rfl; (focus (exact RdL.old _ (by assumption))); exact rfl; exact rfl) | ((with_reducible apply Step.ix (s := 5)); exact rfl; (focus (assumption)); exact rfl; (focus (decide +kernel)); exact rfl; (focus (omega))) | ((with_reducible apply Step.field0); exact rfl; (focus (decide +kernel)); exact rfl) | ((with_reducible apply Step.field (k := 1)); exact rfl; (focus (decide +kernel)); exact rfl) | ((with_reducible apply Step.field (k := 2)); exact rfl; (focus (decide +kernel)); exact rfl) | ((with_reducible apply Step.field (k := 4)); exact rfl; (focus (decide +kernel)); exact rfl) | ((with_reducible apply Step.eql); exact rfl; exact rfl; exact rfl) | ((with_reducible apply Step.nilp); exact rfl; exact rfl) | ((with_reducible apply Step.pickF); exact rfl; exact rfl; exact rfl; exact rfl; (focus (first | rfl | (simp only [decide_eq_true_eq, decide_eq_false_iff_not, Bool.not_eq_true', Bool.not_eq_false', Bool.not_true, Bool.not_false]; first | assumption | omega)))) | ((with_reducible apply Step.box 0); exact rfl; exact rfl; (focus (kernel_rfl)); exact rfl; (focus (first | (simp only [List.nil_append, List.cons_append, List.set_cons_zero, List.set_cons_succ, iv_set, bv_set, iv_rep, bv_rep]; done) | (simp only [List.nil_append, List.cons_append, List.set_cons_zero, List.set_cons_succ, iv_set, bv_set, iv_rep, bv_rep]; rfl) | rfl))) | ((with_reducible apply Step.alloc 1); exact rfl; exact ze99; exact rfl; (focus (first | (simp only [List.nil_append, List.cons_append, List.set_cons_zero, List.set_cons_succ, iv_set, bv_set, iv_rep, bv_rep]; done) | (simp only [List.nil_append, List.cons_append, List.set_cons_zero, List.set_cons_succ, iv_set, bv_set, iv_rep, bv_rep]; rfl) | rfl))) | ((with_reducible apply Step.storeA (k := 1) (n := 5)); exact rfl; exact rfl; exact rfl; exact rfl; (focus (decide +kernel)); exact rfl; (focus (kernel_rfl)); exact rfl; (focus (first | (simp only [List.nil_append, List.cons_append, List.set_cons_zero, List.set_cons_succ, iv_set, bv_set, iv_rep, bv_rep]; done) | (simp only [List.nil_append, List.cons_append, List.set_cons_zero, List.set_cons_succ, iv_set, bv_set, iv_rep, bv_rep]; rfl) | rfl)))) | (with_reducible refine AWo.nil ?_) | ((with_reducible apply AW.seq)) | ((with_reducible apply Then.n)) | ((with_reducible apply AW.regL)) | ((with_reducible apply AW.block)) | ((with_reducible apply AW.condF); exact rfl; (focus (rfl)))))
        (refine AW.retD (l := [(6, _), (7, _)]) (by repeat (first | exact trivial | (refine And.intro ⟨rfl, by (exact .bool _)⟩ ?_))) ?_; (repeat (first | refine Then.r ?_ | refine InBlk.r ?_)))
        exact ⟨_, rfl, no hn⟩
    | true =>
      by_cases u1 : kw = (a : Int)
      · have u2 : ¬ kh = (bb : Int) := fun h => u ⟨u1, h⟩
        by_cases v1 : kw = (bb : Int)
        · have v2 : ¬ kh = (a : Int) := fun h => v ⟨rfl, v1, h⟩
          (repeat (first | (with_reducible refine AWo.cons ?_) | ((with_reducible refine Step.id ?_); first | ((with_reducible apply Step.gdT); exact rfl; exact rfl; (focus (first | rfl | (simp only [decide_eq_true_eq, decide_eq_false_iff_not, Bool.not_eq_true', Bool.not_eq_false', Bool.not_true, Bool.not_false]; first | assumption | omega)))) | ((with_reducible apply Step.move); exact rfl; exact rfl) | ((with_reducible apply Step.assign); exact rfl; exact rfl) | ((with_reducible apply Step.load); exact rfl; (focus (decide +kernel)); exact rfl; (focus (first | exact Rd.new rfl rfl | exact Rd.old _ (by assumption)))) | ((with_reducible apply Step.loadL (n := 5)); exact rfl; (focus (decide +kernel)); (focus (decide +kernel)); exact rfl; (focus (exact RdL.old _ (by assumption))); exact rfl; exact rfl) | ((with_reducible apply Step.ix (s := 5)); exact rfl; (focus (assumption)); exact rfl; (focus (decide +kernel)); exact rfl; (focus (omega))) | ((with_reducible apply Step.field0); exact rfl; (focus (decide +kernel)); exact rfl) | ((with_reducible apply Step.field (k := 1)); exact rfl; (focus (decide +kernel)); exact rfl) | ((with_reducible apply Step.field (k := 2)); exact rfl; (focus (decide +kernel)); exact rfl) | ((with_reducible apply Step.field (k := 3)); exact rfl; (focus (decide +kernel)); exact rfl) | ((with_reducible apply Step.field (k := 4)); exact rfl; (focus (decide +kernel)); exact rfl) | ((with_reducible apply Step.eql); exact rfl; exact rfl; exact rfl) | ((with_reducible apply Step.nilp); exact rfl; exact rfl) | ((with_reducible apply Step.pickT); exact rfl; exact rfl; exact rfl; exact rfl; (focus (first | rfl | (simp only [decide_eq_true_eq, decide_eq_false_iff_not, Bool.not_eq_true', Bool.not_eq_false', Bool.not_true, Bool.not_false]; first | assumption | omega)))) | ((with_reducible apply Step.box 0); exact rfl; exact rfl; (focus (kernel_rfl)); exact rfl; (focus (first | (simp only [List.nil_append, List.cons_append, List.set_cons_zero, List.set_cons_succ, iv_set, bv_set, iv_rep, bv_rep]; done) | (simp only [List.nil_append, List.cons_append, List.set_cons_zero, List.set_cons_succ, iv_set, bv_set, iv_rep, bv_rep]; rfl) | rfl))) | ((with_reducible apply Step.alloc 1); exact rfl; exact ze99; exact rfl; (focus (first | (simp only [List.nil_append, List.cons_append, List.set_cons_zero, List.set_cons_succ, iv_set, bv_set, iv_rep, bv_rep]; done) | (simp only [List.nil_append, List.cons_append, List.set_cons_zero, List.set_cons_succ, iv_set, bv_set, iv_rep, bv_rep]; rfl) | rfl))) | ((with_reducible apply Step.storeA (k := 1) (n := 5)); exact rfl; exact rfl; exact rfl; exact rfl; (focus (decide +kernel)); exact rfl; (focus (kernel_rfl)); exact rfl; (focus (first | (simp only [List.nil_append, List.cons_append, List.set_cons_zero, List.set_cons_succ, iv_set, bv_set, iv_rep, bv_rep]; done) | (simp only [List.nil_append, List.cons_append, List.set_cons_zero, List.set_cons_succ, iv_set, bv_set, iv_rep, bv_rep]; rfl) | rfl)))) | (with_reducible refine AWo.nil ?_) | ((with_reducible apply AW.seq)) | ((with_reducible apply Then.n)) | ((with_reducible apply AW.regL)) | ((with_reducible apply AW.block)) | ((with_reducible apply AW.condF); exact rfl; (focus ((simp only [decide_eq_true_eq, decide_eq_false_iff_not, Bool.not_eq_true', Bool.not_eq_false', Bool.not_true, Bool.not_false]; first | assumption | omega))))))
          (refine AW.retD (l := [(6, _), (7, _)]) (by repeat (first | exact trivial | (refine And.intro ⟨rfl, by (exact .bool _)⟩ ?_))) ?_; (repeat (first | refine Then.r ?_ | refine InBlk.r ?_)))
          exact ⟨_, rfl, no hn⟩
        · (repeat (first | (with_reducible refine AWo.cons ?_) | ((with_reducible refine Step.id ?_); first | ((with_reducible apply Step.gdT); exact rfl; exact rfl; (focus (first | rfl | (simp only [decide_eq_true_eq, decide_eq_false_iff_not, Bool.not_eq_true', Bool.not_eq_false', Bool.not_true, Bool.not_false]; first | assumption | omega)))) | ((with_reducible apply Step.gdF); exact rfl; exact rfl; (focus ((simp only [decide_eq_true_eq, decide_eq_false_iff_not, Bool.not_eq_true', Bool.not_eq_false', Bool.not_true, Bool.not_false]; first | assumption | omega)))) | ((with_reducible apply Step.move); exact rfl; exact rfl) | ((with_reducible apply Step.assign); exact rfl; exact rfl) | ((with_reducible apply Step.load); exact rfl; (focus (decide +kernel)); exact rfl; (focus (first | exact Rd.new rfl rfl | exact Rd.old _ (by assumption)))) | ((with_reducible apply Step.loadL (n := 5)); exact rfl; (focus (decide +kernel)); (focus (decide +kernel)); exact rfl; (focus (exact RdL.old _ (by assumption))); exact rfl; exact rfl) | ((with_reducible apply Step.ix (s := 5)); exact rfl; (focus (assumption)); exact rfl; (focus (decide +kernel)); exact rfl; (focus (omega))) | ((with_reducible apply Step.field0); exact rfl; (focus (decide +kernel)); exact rfl) | ((with_reducible apply Step.field (k := 1)); exact rfl; (focus (decide +kernel)); exact rfl) | ((with_reducible apply Step.field (k := 2)); exact rfl; (focus (decide +kernel)); exact rfl) | ((with_reducible apply Step.field (k := 3)); exact rfl; (focus (decide +kernel)); exact rfl) | ((with_reducible apply Step.field (k := 4)); exact rfl; (focus (decide +kernel)); exact rfl) | ((with_reducible apply Step.eql); exact rfl; exact rfl; exact rfl) | ((with_reducible apply Step.nilp); exact rfl; exact rfl) | ((with_reducible apply Step.pickT); exact rfl; exact rfl; exact rfl; exact rfl; (focus (first | rfl | (simp only [decide_eq_true_eq, decide_eq_false_iff_not, Bool.not_eq_true', Bool.not_eq_false', Bool.not_true, Bool.not_false]; first | assumption | omega)))) | ((with_reducible apply Step.pickF); exact rfl; exact rfl; exact rfl; exact rfl; (focus ((simp only [decide_eq_true_eq, decide_eq_false_iff_not, Bool.not_eq_true', Bool.not_eq_false', Bool.not_true, Bool.not_false]; first | assumption | omega)))) | ((with_reducible apply Step.box 0); exact rfl; exact rfl; (focus (kernel_rfl)); exact rfl; (focus (first | (simp only [List.nil_append, List.cons_append, List.set_cons_zero, List.set_cons_succ, iv_set, bv_set, iv_rep, bv_rep]; done) | (simp only [List.nil_append, List.cons_append, List.set_cons_zero, List.set_cons_succ, iv_set, bv_set, iv_rep, bv_rep]; rfl) | rfl))) | ((with_reducible apply Step.alloc 1); exact rfl; exact ze99; exact rfl; (focus (first | (simp only [List.nil_append, List.cons_append, List.set_cons_zero, List.set_cons_succ, iv_set, bv_set, iv_rep, bv_rep]; done) | (simp only [List.nil_append, List.cons_append, List.set_cons_zero, List.set_cons_succ, iv_set, bv_set, iv_rep, bv_rep]; rfl) | rfl))) | ((with_reducible apply Step.storeA (k := 1) (n := 5)); exact rfl; exact rfl; exact rfl; exact rfl; (focus (decide +kernel)); exact rfl; (focus (kernel_rfl)); exact rfl; (focus (first | (simp only [List.nil_append, List.cons_append, List.set_cons_zero, List.set_cons_succ, iv_set, bv_set, iv_rep, bv_rep]; done) | (simp only [List.nil_append, List.cons_append, List.set_cons_zero, List.set_cons_succ, iv_set, bv_set, iv_rep, bv_rep]; rfl) | rfl)))) | (with_reducible refine AWo.nil ?_) | ((with_reducible apply AW.seq)) | ((with_reducible apply Then.n)) | ((with_reducible apply AW.regL)) | ((with_reducible apply AW.block)) | ((with_reducible apply AW.condF); exact rfl; (focus (first | rfl | (simp only [decide_eq_true_eq, decide_eq_false_iff_not, Bool.not_eq_true', Bool.not_eq_false', Bool.not_true, Bool.not_false]; first | assumption | omega))))))
          (refine AW.retD (l := [(6, _), (7, _)]) (by repeat (first | exact trivial | (refine And.intro ⟨rfl, by (exact .bool _)⟩ ?_))) ?_; (repeat (first | refine Then.r ?_ | refine InBlk.r ?_)))
          exact ⟨_, rfl, no hn⟩
      · by_cases v1 : kw = (bb : Int)
        · have v2 : ¬ kh = (a : Int) := fun h => v ⟨rfl, v1, h⟩
          (repeat (first | (with_reducible refine AWo.cons ?_) | ((with_reducible refine Step.id ?_); first | ((with_reducible apply Step.gdT); exact rfl; exact rfl; (focus (first | rfl | (simp only [decide_eq_true_eq, decide_eq_false_iff_not, Bool.not_eq_true', Bool.not_eq_false', Bool.not_true, Bool.not_false]; first | assumption | omega)))) | ((with_reducible apply Step.gdF); exact rfl; exact rfl; (focus ((simp only [decide_eq_true_eq, decide_eq_false_iff_not, Bool.not_eq_true', Bool.not_eq_false', Bool.not_true, Bool.not_false]; first | assumption | omega)))) | ((with_reducible apply Step.move); exact rfl; exact rfl) | ((with_reducible apply Step.assign); exact rfl; exact rfl) | ((with_reducible apply Step.load); exact rfl; (focus (decide +kernel)); exact rfl; (focus (first | exact Rd.new rfl rfl | exact Rd.old _ (by assumption)))) | ((with_reducible apply Step.loadL (n := 5)); exact rfl; (focus (decide +kernel)); (focus (decide +kernel)); exact rfl; (focus (exact RdL.old _ (by assumption))); exact rfl; exact rfl) | ((with_reducible apply Step.ix (s := 5)); exact rfl; (focus (assumption)); exact rfl; (focus (decide +kernel)); exact rfl; (focus (omega))) | ((with_reducible apply Step.field0); exact rfl; (focus (decide +kernel)); exact rfl) | ((with_reducible apply Step.field (k := 1)); exact rfl; (focus (decide +kernel)); exact rfl) | ((with_reducible apply Step.field (k := 2)); exact rfl; (focus (decide +kernel)); exact rfl) | ((with_reducible apply Step.field (k := 3)); exact rfl; (focus (decide +kernel)); exact rfl) | ((with_reducible apply Step.field (k := 4)); exact rfl; (focus (decide +kernel)); exact rfl) | ((with_reducible apply Step.eql); exact rfl; exact rfl; exact rfl) | ((with_reducible apply Step.nilp); exact rfl; exact rfl) | ((with_reducible apply Step.pickT); exact rfl; exact rfl; exact rfl; exact rfl; (focus (first | rfl | (simp only [decide_eq_true_eq, decide_eq_false_iff_not, Bool.not_eq_true', Bool.not_eq_false', Bool.not_true, Bool.not_false]; first | assumption | omega)))) | ((with_reducible apply Step.pickF); exact rfl; exact rfl; exact rfl; exact rfl; (focus ((simp only [decide_eq_true_eq, decide_eq_false_iff_not, Bool.not_eq_true', Bool.not_eq_false', Bool.not_true, Bool.not_false]; first | assumption | omega)))) | ((with_reducible apply Step.box 0); exact rfl; exact rfl; (focus (kernel_rfl)); exact rfl; (focus (first | (simp only [List.nil_append, List.cons_append, List.set_cons_zero, List.set_cons_succ, iv_set, bv_set, iv_rep, bv_rep]; done) | (simp only [List.nil_append, List.cons_append, List.set_cons_zero, List.set_cons_succ, iv_set, bv_set, iv_rep, bv_rep]; rfl) | rfl))) | ((with_reducible apply Step.alloc 1); exact rfl; exact ze99; exact rfl; (focus (first | (simp only [List.nil_append, List.cons_append, List.set_cons_zero, List.set_cons_succ, iv_set, bv_set, iv_rep, bv_rep]; done) | (simp only [List.nil_append, List.cons_append, List.set_cons_zero, List.set_cons_succ, iv_set, bv_set, iv_rep, bv_rep]; rfl) | rfl))) | ((with_reducible apply Step.storeA (k := 1) (n := 5)); exact rfl; exact rfl; exact rfl; exact rfl; (focus (decide +kernel)); exact rfl; (focus (kernel_rfl)); exact rfl; (focus (first | (simp only [List.nil_append, List.cons_append, List.set_cons_zero, List.set_cons_succ, iv_set, bv_set, iv_rep, bv_rep]; done) | (simp only [List.nil_append, List.cons_append, List.set_cons_zero, List.set_cons_succ, iv_set, bv_set, iv_rep, bv_rep]; rfl) | rfl)))) | (with_reducible refine AWo.nil ?_) | ((with_reducible apply AW.seq)) | ((with_reducible apply Then.n)) | ((with_reducible apply AW.regL)) | ((with_reducible apply AW.block)) | ((with_reducible apply AW.condF); exact rfl; (focus (first | rfl | (simp only [decide_eq_true_eq, decide_eq_false_iff_not, Bool.not_eq_true', Bool.not_eq_false', Bool.not_true, Bool.not_false]; first | assumption | omega))))))
          (refine AW.retD (l := [(6, _), (7, _)]) (by repeat (first | exact trivial | (refine And.intro ⟨rfl, by (exact .bool _)⟩ ?_))) ?_; (repeat (first | refine Then.r ?_ | refine InBlk.r ?_)))
          exact ⟨_, rfl, no hn⟩
        · (repeat (first | (with_reducible refine AWo.cons ?_) | ((with_reducible refine Step.id ?_); first | ((with_reducible apply Step.gdT); exact rfl; exact rfl; (focus (rfl))) | ((with_reducible apply Step.gdF); exact rfl; exact rfl; (focus ((simp only [decide_eq_true_eq, decide_eq_false_iff_not, Bool.not_eq_true', Bool.not_eq_false', Bool.not_true, Bool.not_false]; first | assumption | omega)))) | ((with_reducible apply Step.move); exact rfl; exact rfl) | ((with_reducible apply Step.assign); exact rfl; exact rfl) | ((with_reducible apply Step.load); exact rfl; (focus (decide +kernel)); exact rfl; (focus (first | exact Rd.new rfl rfl | exact Rd.old _ (by assumption)))) | ((with_reducible apply Step.loadL (n := 5)); exact rfl; (focus (decide +kernel)); (focus (decide +kernel)); exact rfl; (focus (exact RdL.old _ (by assumption))); exact rfl; exact rfl) | ((with_reducible apply Step.ix (s := 5)); exact rfl; (focus (assumption)); exact rfl; (focus (decide +kernel)); exact rfl; (focus (omega))) | ((with_reducible apply Step.field0); exact rfl; (focus (decide +kernel)); exact rfl) | ((with_reducible apply Step.field (k := 1)); exact rfl; (focus (decide +kernel)); exact rfl) | ((with_reducible apply Step.field (k := 2)); exact rfl; (focus (decide +kernel)); exact rfl) | ((with_reducible apply Step.field (k := 3)); exact rfl; (focus (decide +kernel)); exact rfl) | ((with_reducible apply Step.field (k := 4)); exact rfl; (focus (decide +kernel)); exact rfl) | ((with_reducible apply Step.eql); exact rfl; exact rfl; exact rfl) | ((with_reducible apply Step.nilp); exact rfl; exact rfl) | ((with_reducible apply Step.pickT); exact rfl; exact rfl; exact rfl; exact rfl; (focus (rfl))) | ((with_reducible apply Step.pickF); exact rfl; exact rfl; exact rfl; exact rfl; (focus ((simp only [decide_eq_true_eq, decide_eq_false_iff_not, Bool.not_eq_true', Bool.not_eq_false', Bool.not_true, Bool.not_false]; first | assumption | omega)))) | ((with_reducible apply Step.box 0); exact rfl; exact rfl; (focus (kernel_rfl)); exact rfl; (focus (first | (simp only [List.nil_append, List.cons_append, List.set_cons_zero, List.set_cons_succ, iv_set, bv_set, iv_rep, bv_rep]; done) | (simp only [List.nil_append, List.cons_append, List.set_cons_zero, List.set_cons_succ, iv_set, bv_set, iv_rep, bv_rep]; rfl) | rfl))) | ((with_reducible apply Step.alloc 1); exact rfl; exact ze99; exact rfl; (focus (first | (simp only [List.nil_append, List.cons_append, List.set_cons_zero, List.set_cons_succ, iv_set, bv_set, iv_rep, bv_rep]; done) | (simp only [List.nil_append, List.cons_append, List.set_cons_zero, List.set_cons_succ, iv_set, bv_set, iv_rep, bv_rep]; rfl) | rfl))) | ((with_reducible apply Step.storeA (k := 1) (n := 5)); exact rfl; exact rfl; exact rfl; exact rfl; (focus (decide +kernel)); exact rfl; (focus (kernel_rfl)); exact rfl; (focus (first | (simp only [List.nil_append, List.cons_append, List.set_cons_zero, List.set_cons_succ, iv_set, bv_set, iv_rep, bv_rep]; done) | (simp only [List.nil_append, List.cons_append, List.set_cons_zero, List.set_cons_succ, iv_set, bv_set, iv_rep, bv_rep]; rfl) | rfl)))) | (with_reducible refine AWo.nil ?_) | ((with_reducible apply AW.seq)) | ((with_reducible apply Then.n)) | ((with_reducible apply AW.regL)) | ((with_reducible apply AW.block)) | ((with_reducible apply AW.condF); exact rfl; (focus (rfl)))))
          (refine AW.retD (l := [(6, _), (7, _)]) (by repeat (first | exact trivial | (refine And.intro ⟨rfl, by (exact .bool _)⟩ ?_))) ?_; (repeat (first | refine Then.r ?_ | refine InBlk.r ?_)))
          exact ⟨_, rfl, no hn⟩
end Go.Proofs.YtedbjmgchfgabaaDoor.Abs
namespace Go.Proofs.YtedbjmgchfgabaaDoor.Abs
set_option linter.unusedSimpArgs false
set_option linter.unusedVariables false
open Go.RowKit
open Go.Proofs.YtedbjmgchfgabaaDoor.Sim
open Go.Proofs
theorem BoardAt.lt {m : AM} {p : Nat} {B : Brd} {K : List Kd} (h : BoardAt m p B K) : p < m.length := by
  obtain ⟨b, h1, _⟩ := h.w
  exact (List.getElem?_eq_some_iff.1 h1).1
set_option maxHeartbeats 4000000 in
set_option maxRecDepth 100000 in
theorem leaf_ok {m : AM} {p : Nat} {B : Brd} {K : List Kd} (hB : BoardAt m p B K) (hg : goodB B K = true) {r : R4} (hr : r.ok (bw B) (bh B)) :
    ACall Tryd.prog 52 #[.pointer (some ⟨p, 0, none⟩), r.rc.v] m (Ret (.int .i64 (leafM B K r)) m) := by
  have hp := hB.lt
  have hf := fun T k hk => fits_ok (hB.old T) hg (k := k) hk hr
  have hkl : K.length ≤ 12 := by simp only [goodB, kindsB, Bool.and_eq_true, decide_eq_true_eq] at hg; exact hg.2.1
  obtain ⟨_, ⟨kv, k1, A, O, sl, la, rd⟩, _, _, _⟩ := hB
  obtain ⟨q', c', rfl⟩ := sl.shape
  obtain ⟨x, y, a, b⟩ := r
  have r0 : ∀ T : AM, RdL (m ++ (some { cells := [.int .i64 (x : Nat), .int .i64 (y : Nat), .int .i64 (a : Nat), .int .i64 (b : Nat)] } :: T)) (m.length + 0) 0 [.int .i64 (x : Nat), .int .i64 (y : Nat), .int .i64 (a : Nat), .int .i64 (b : Nat)] := fun T => RdL.new rfl rfl
  change ACall Tryd.prog 52 #[.pointer (some ⟨p, 0, none⟩), .agg #[.int .i64 (x : Nat), .int .i64 (y : Nat), .int .i64 (a : Nat), .int .i64 (b : Nat)]] m _
  change ∀ T k, k < K.length → ACall Tryd.prog 78 #[.pointer (some ⟨p, 0, none⟩), .int .i64 (k : Nat), .agg #[.int .i64 (x : Nat), .int .i64 (y : Nat), .int .i64 (a : Nat), .int .i64 (b : Nat)]] (m ++ T) _ at hf
  generalize (⟨x, y, a, b⟩ : R4) = r at hf ⊢
  refine ACall.start Tryd.func52 rfl rfl ?_
  (repeat (first | (with_reducible refine AWo.cons ?_) | ((with_reducible refine Step.id ?_); first | ((with_reducible apply Step.move); exact rfl; exact rfl) | ((with_reducible apply Step.assign); exact rfl; exact rfl) | ((with_reducible apply Step.load); exact rfl; (focus (decide +kernel)); exact rfl; (focus (exact Rd.old _ (by assumption)))) | ((with_reducible apply Step.field (k := 1)); exact rfl; (focus (decide +kernel)); exact rfl) | ((with_reducible apply Step.len); exact rfl; (focus (assumption)); (focus (decide +kernel)); exact rfl) | ((with_reducible apply Step.nilp); exact rfl; exact rfl) | ((with_reducible apply Step.box 0); exact rfl; exact rfl; (focus (kernel_rfl)); exact rfl; (focus (first | (simp only [List.nil_append, List.cons_append, List.set_cons_zero, List.set_cons_succ, iv_set, bv_set, iv_rep, bv_rep]; done) | (simp only [List.nil_append, List.cons_append, List.set_cons_zero, List.set_cons_succ, iv_set, bv_set, iv_rep, bv_rep]; rfl) | rfl)))) | (with_reducible refine AWo.nil ?_) | ((with_reducible apply AW.seq)) | ((with_reducible apply Then.n)) | ((with_reducible apply AW.regL)) | ((with_reducible apply AW.block))))
  refine AW.loopT (fun n t L => ∃ i : Nat, n = K.length - i ∧ i ≤ K.length ∧ L = [some { cells := [.int .i64 (x : Nat), .int .i64 (y : Nat), .int .i64 (a : Nat), .int .i64 (b : Nat)] }] ∧
    t = [(0, .pointer (some ⟨p, 0, none⟩)), (3, .pointer (some ⟨m.length + 0, 0, none⟩)), (5, .int .i64 (leafN B K r i)), (13, .slice q' K.length c'), (14, .int .i64 (K.length : Nat)), (15, .int .i64 (i : Nat))])
    ⟨_, _, _, (Or.inl ⟨rfl, (by repeat (first | exact trivial | (refine And.intro rfl ?_)))⟩), 0, rfl, Nat.zero_le _, rfl, rfl⟩ ?_
  rintro n t L ⟨i, rfl, hi, rfl, rfl⟩
  rcases Nat.lt_or_ge i K.length with hlt | hge
  · have rk := rd i hlt
    have hfi := fun T => hf T i hlt
    have hst : leafN B K r (i + 1) = if okB B (K.getD i default) r = true ∧ leafN B K r i < (K.getD i default).worth then (K.getD i default).worth else leafN B K r i := by rw [← fitsM_some]; rfl
    generalize K.getD i default = kd at *
    obtain ⟨kw, kh, kg, ko, kt⟩ := kd
    simp only [Kd.cells] at rk
    simp only at hst
    have wl : Low m.length (.slice q' K.length c') := Low.of_sl sl la
    by_cases h1 : ko ≤ leafN B K r i
    · have e : leafN B K r (i + 1) = leafN B K r i := by rw [hst, if_neg (by omega)]
      (repeat (first | (with_reducible refine AWo.cons ?_) | ((with_reducible refine Step.id ?_); first | ((with_reducible apply Step.move); exact rfl; exact rfl) | ((with_reducible apply Step.assign); exact rfl; exact rfl) | ((with_reducible apply Step.load); exact rfl; (focus (decide +kernel)); exact rfl; (focus (exact Rd.new rfl rfl))) | ((with_reducible apply Step.loadL (n := 5)); exact rfl; (focus (decide +kernel)); (focus (decide +kernel)); exact rfl; (focus (exact RdL.old _ (by assumption))); exact rfl; exact rfl) | ((with_reducible apply Step.ix (s := 5)); exact rfl; (focus (assumption)); exact rfl; (focus (decide +kernel)); exact rfl; (focus (omega))) | ((with_reducible apply Step.field (k := 3)); exact rfl; (focus (decide +kernel)); exact rfl) | ((with_reducible apply Step.add); exact rfl; exact rfl; (focus (omega)); exact rfl) | ((with_reducible apply Step.lss); exact rfl; exact rfl; exact rfl) | ((with_reducible apply Step.leq); exact rfl; exact rfl; exact rfl) | ((with_reducible apply Step.alloc 1); exact rfl; exact ze99; exact rfl; (focus (first | (simp only [List.nil_append, List.cons_append, List.set_cons_zero, List.set_cons_succ, iv_set, bv_set, iv_rep, bv_rep]; done) | (simp only [List.nil_append, List.cons_append, List.set_cons_zero, List.set_cons_succ, iv_set, bv_set, iv_rep, bv_rep]; rfl) | rfl))) | ((with_reducible apply Step.storeA (k := 1) (n := 5)); exact rfl; exact rfl; exact rfl; exact rfl; (focus (decide +kernel)); exact rfl; (focus (kernel_rfl)); exact rfl; (focus (first | (simp only [List.nil_append, List.cons_append, List.set_cons_zero, List.set_cons_succ, iv_set, bv_set, iv_rep, bv_rep]; done) | (simp only [List.nil_append, List.cons_append, List.set_cons_zero, List.set_cons_succ, iv_set, bv_set, iv_rep, bv_rep]; rfl) | rfl)))) | (with_reducible refine AWo.nil ?_) | ((with_reducible apply AW.seq)) | ((with_reducible apply Then.n)) | ((with_reducible apply AW.regL)) | ((with_reducible apply AW.block)) | ((with_reducible apply AW.exit)) | ((with_reducible apply InBlk.hit)) | ((with_reducible apply Then.e)) | ((with_reducible apply AW.skip)) | ((with_reducible apply AW.condT); exact rfl; (focus ((simp only [decide_eq_true_eq, decide_eq_false_iff_not, Bool.not_eq_true', Bool.not_eq_false', Bool.not_true, Bool.not_false]; first | assumption | omega))))))
      exact ⟨_, [(0, .pointer (some ⟨p, 0, none⟩)), (3, .pointer (some ⟨m.length + 0, 0, none⟩)), (5, .int .i64 (leafN B K r i)), (13, .slice q' K.length c'), (14, .int .i64 (K.length : Nat)), (15, .int .i64 (i + 1 : Nat))], [some { cells := [.int .i64 (x : Nat), .int .i64 (y : Nat), .int .i64 (a : Nat), .int .i64 (b : Nat)] }], by omega, (Back.trim rfl rfl (by repeat (first | exact CellsOk.nil | refine CellsOk.cons (by (intro v hv; simp at hv; first | (subst hv; rfl) | (rcases hv with rfl | rfl <;> rfl) | (rcases hv with rfl | rfl | rfl <;> rfl) | (rcases hv with rfl | rfl | rfl | rfl <;> rfl))) ?_)) (by repeat (first | exact trivial | (refine And.intro ⟨rfl, by (first | exact Low.rid (by assumption) (by simp) | exact .int _ _ | exact .ptr _ _ (by first | (simp; done) | omega | (simp; omega)))⟩ ?_)))), i + 1, rfl, by omega, rfl, by rw [e]⟩
    · cases h2 : okB B ⟨kw, kh, kg, ko, kt⟩ r with
      | true =>
        have e : leafN B K r (i + 1) = ko := by rw [hst, if_pos ⟨h2, by omega⟩]
        rw [h2] at hfi
        (repeat (first | (with_reducible refine AWo.cons ?_) | ((with_reducible refine Step.id ?_); first | ((with_reducible apply Step.move); exact rfl; exact rfl) | ((with_reducible apply Step.assign); exact rfl; exact rfl) | ((with_reducible apply Step.load); exact rfl; (focus (decide +kernel)); exact rfl; (focus (exact Rd.new rfl rfl))) | ((with_reducible apply Step.loadL (n := 4)); exact rfl; (focus (decide +kernel)); (focus (decide +kernel)); exact rfl; (focus (exact RdL.new rfl rfl)); exact rfl; exact rfl) | ((with_reducible apply Step.loadL (n := 5)); exact rfl; (focus (decide +kernel)); (focus (decide +kernel)); exact rfl; (focus (exact RdL.old _ (by assumption))); exact rfl; exact rfl) | ((with_reducible apply Step.ix (s := 5)); exact rfl; (focus (assumption)); exact rfl; (focus (decide +kernel)); exact rfl; (focus (omega))) | ((with_reducible apply Step.field (k := 3)); exact rfl; (focus (decide +kernel)); exact rfl) | ((with_reducible apply Step.add); exact rfl; exact rfl; (focus (omega)); exact rfl) | ((with_reducible apply Step.lss); exact rfl; exact rfl; exact rfl) | ((with_reducible apply Step.leq); exact rfl; exact rfl; exact rfl) | ((with_reducible apply Step.extract); exact rfl; exact rfl; exact rfl) | ((with_reducible apply Step.callR fit); exact rfl; exact Tryd.func78; exact rfl; exact rfl; exact (hfi _)) | ((with_reducible apply Step.alloc 1); exact rfl; exact ze99; exact rfl; (focus (first | (simp only [List.nil_append, List.cons_append, List.set_cons_zero, List.set_cons_succ, iv_set, bv_set, iv_rep, bv_rep]; done) | (simp only [List.nil_append, List.cons_append, List.set_cons_zero, List.set_cons_succ, iv_set, bv_set, iv_rep, bv_rep]; rfl) | rfl))) | ((with_reducible apply Step.storeA (k := 1) (n := 5)); exact rfl; exact rfl; exact rfl; exact rfl; (focus (decide +kernel)); exact rfl; (focus (kernel_rfl)); exact rfl; (focus (first | (simp only [List.nil_append, List.cons_append, List.set_cons_zero, List.set_cons_succ, iv_set, bv_set, iv_rep, bv_rep]; done) | (simp only [List.nil_append, List.cons_append, List.set_cons_zero, List.set_cons_succ, iv_set, bv_set, iv_rep, bv_rep]; rfl) | rfl)))) | (with_reducible refine AWo.nil ?_) | ((with_reducible apply AW.seq)) | ((with_reducible apply Then.n)) | ((with_reducible apply AW.regL)) | ((with_reducible apply AW.block)) | ((with_reducible apply InBlk.n)) | ((with_reducible apply AW.skip)) | ((with_reducible apply AW.condT); exact rfl; (focus (first | rfl | (simp only [decide_eq_true_eq, decide_eq_false_iff_not, Bool.not_eq_true', Bool.not_eq_false', Bool.not_true, Bool.not_false]; first | assumption | omega)))) | ((with_reducible apply AW.condF); exact rfl; (focus ((simp only [decide_eq_true_eq, decide_eq_false_iff_not, Bool.not_eq_true', Bool.not_eq_false', Bool.not_true, Bool.not_false]; first | assumption | omega))))))
        exact ⟨_, [(0, .pointer (some ⟨p, 0, none⟩)), (3, .pointer (some ⟨m.length + 0, 0, none⟩)), (5, .int .i64 ko), (13, .slice q' K.length c'), (14, .int .i64 (K.length : Nat)), (15, .int .i64 (i + 1 : Nat))], [some { cells := [.int .i64 (x : Nat), .int .i64 (y : Nat), .int .i64 (a : Nat), .int .i64 (b : Nat)] }], by omega, (Back.trim rfl rfl (by repeat (first | exact CellsOk.nil | refine CellsOk.cons (by (intro v hv; simp at hv; first | (subst hv; rfl) | (rcases hv with rfl | rfl <;> rfl) | (rcases hv with rfl | rfl | rfl <;> rfl) | (rcases hv with rfl | rfl | rfl | rfl <;> rfl))) ?_)) (by repeat (first | exact trivial | (refine And.intro ⟨rfl, by (first | exact Low.rid (by assumption) (by simp) | exact .int _ _ | exact .ptr _ _ (by first | (simp; done) | omega | (simp; omega)))⟩ ?_)))), i + 1, rfl, by omega, rfl, by rw [e]⟩
      | false =>
        have e : leafN B K r (i + 1) = leafN B K r i := by rw [hst, if_neg (by simp [h2])]
        rw [h2] at hfi
        (repeat (first | (with_reducible refine AWo.cons ?_) | ((with_reducible refine Step.id ?_); first | ((with_reducible apply Step.move); exact rfl; exact rfl) | ((with_reducible apply Step.assign); exact rfl; exact rfl) | ((with_reducible apply Step.load); exact rfl; (focus (decide +kernel)); exact rfl; (focus (exact Rd.new rfl rfl))) | ((with_reducible apply Step.loadL (n := 4)); exact rfl; (focus (decide +kernel)); (focus (decide +kernel)); exact rfl; (focus (exact RdL.new rfl rfl)); exact rfl; exact rfl) | ((with_reducible apply Step.loadL (n := 5)); exact rfl; (focus (decide +kernel)); (focus (decide +kernel)); exact rfl; (focus (exact RdL.old _ (by assumption))); exact rfl; exact rfl) | ((with_reducible apply Step.ix (s := 5)); exact rfl; (focus (assumption)); exact rfl; (focus (decide +kernel)); exact rfl; (focus (omega))) | ((with_reducible apply Step.field (k := 3)); exact rfl; (focus (decide +kernel)); exact rfl) | ((with_reducible apply Step.add); exact rfl; exact rfl; (focus (omega)); exact rfl) | ((with_reducible apply Step.lss); exact rfl; exact rfl; exact rfl) | ((with_reducible apply Step.leq); exact rfl; exact rfl; exact rfl) | ((with_reducible apply Step.extract); exact rfl; exact rfl; exact rfl) | ((with_reducible apply Step.callR fit); exact rfl; exact Tryd.func78; exact rfl; exact rfl; exact (hfi _)) | ((with_reducible apply Step.alloc 1); exact rfl; exact ze99; exact rfl; (focus (first | (simp only [List.nil_append, List.cons_append, List.set_cons_zero, List.set_cons_succ, iv_set, bv_set, iv_rep, bv_rep]; done) | (simp only [List.nil_append, List.cons_append, List.set_cons_zero, List.set_cons_succ, iv_set, bv_set, iv_rep, bv_rep]; rfl) | rfl))) | ((with_reducible apply Step.storeA (k := 1) (n := 5)); exact rfl; exact rfl; exact rfl; exact rfl; (focus (decide +kernel)); exact rfl; (focus (kernel_rfl)); exact rfl; (focus (first | (simp only [List.nil_append, List.cons_append, List.set_cons_zero, List.set_cons_succ, iv_set, bv_set, iv_rep, bv_rep]; done) | (simp only [List.nil_append, List.cons_append, List.set_cons_zero, List.set_cons_succ, iv_set, bv_set, iv_rep, bv_rep]; rfl) | rfl)))) | (with_reducible refine AWo.nil ?_) | ((with_reducible apply AW.seq)) | ((with_reducible apply Then.n)) | ((with_reducible apply AW.regL)) | ((with_reducible apply AW.block)) | ((with_reducible apply InBlk.n)) | ((with_reducible apply AW.skip)) | ((with_reducible apply AW.condT); exact rfl; (focus ((simp only [decide_eq_true_eq, decide_eq_false_iff_not, Bool.not_eq_true', Bool.not_eq_false', Bool.not_true, Bool.not_false]; first | assumption | omega)))) | ((with_reducible apply AW.condF); exact rfl; (focus (first | rfl | (simp only [decide_eq_true_eq, decide_eq_false_iff_not, Bool.not_eq_true', Bool.not_eq_false', Bool.not_true, Bool.not_false]; first | assumption | omega))))))
        exact ⟨_, [(0, .pointer (some ⟨p, 0, none⟩)), (3, .pointer (some ⟨m.length + 0, 0, none⟩)), (5, .int .i64 (leafN B K r i)), (13, .slice q' K.length c'), (14, .int .i64 (K.length : Nat)), (15, .int .i64 (i + 1 : Nat))], [some { cells := [.int .i64 (x : Nat), .int .i64 (y : Nat), .int .i64 (a : Nat), .int .i64 (b : Nat)] }], by omega, (Back.trim rfl rfl (by repeat (first | exact CellsOk.nil | refine CellsOk.cons (by (intro v hv; simp at hv; first | (subst hv; rfl) | (rcases hv with rfl | rfl <;> rfl) | (rcases hv with rfl | rfl | rfl <;> rfl) | (rcases hv with rfl | rfl | rfl | rfl <;> rfl))) ?_)) (by repeat (first | exact trivial | (refine And.intro ⟨rfl, by (first | exact Low.rid (by assumption) (by simp) | exact .int _ _ | exact .ptr _ _ (by first | (simp; done) | omega | (simp; omega)))⟩ ?_)))), i + 1, rfl, by omega, rfl, by rw [e]⟩
  · obtain rfl : i = K.length := by omega
    (repeat (first | (with_reducible refine AWo.cons ?_) | ((with_reducible refine Step.id ?_); first | ((with_reducible apply Step.move); exact rfl; exact rfl) | ((with_reducible apply Step.assign); exact rfl; exact rfl) | ((with_reducible apply Step.lss); exact rfl; exact rfl; exact rfl)) | (with_reducible refine AWo.nil ?_) | ((with_reducible apply AW.seq)) | ((with_reducible apply Then.n)) | ((with_reducible apply AW.regL)) | ((with_reducible apply AW.exit)) | ((with_reducible apply InBlk.hit)) | ((with_reducible apply Then.e)) | ((with_reducible apply AW.condF); exact rfl; (focus ((simp only [decide_eq_true_eq, decide_eq_false_iff_not, Bool.not_eq_true', Bool.not_eq_false', Bool.not_true, Bool.not_false]; first | assumption | omega))))))
    (refine AW.retD (l := [(4, _)]) (by repeat (first | exact trivial | (refine And.intro ⟨rfl, by (exact .int _ _)⟩ ?_))) ?_; (repeat (first | refine Then.r ?_ | refine InBlk.r ?_)))
    exact ⟨_, rfl, rfl, rfl⟩
end Go.Proofs.YtedbjmgchfgabaaDoor.Abs
namespace Go.Proofs.YtedbjmgchfgabaaDoor.Abs
set_option linter.unusedSimpArgs false
set_option linter.unusedVariables false
open Go.RowKit
open Go.Proofs.YtedbjmgchfgabaaDoor.Sim
open Go.Proofs
theorem num_ok {m : AM} {w h : Nat} {r : R4} (hw : w ≤ 16) (hh : h ≤ 16) (hr : r.ok w h) : ACall Tryd.prog 36 #[.int .i64 (w : Nat), .int .i64 (h : Nat), r.rc.v] m (Ret (.int .i64 (r.at w h : Nat)) m) := by
  have := num_at hw hr
  rw [← this]
  exact number_ok hw hh hr.1 hr.2.2.1 hr.2.1 hr.2.2.2
def opI (d : Bool) : Int := if d then 2 else 3
set_option maxRecDepth 100000 in
theorem length_ok {m : AM} (r : R4) (d : Bool) : ACall Tryd.prog 53 #[r.rc.v, .int .i64 (opI d)] m (Ret (.int .i64 (r.len d : Nat)) m) := by
  obtain ⟨x, y, a, b⟩ := r
  change ACall Tryd.prog 53 #[.agg #[.int .i64 (x : Nat), .int .i64 (y : Nat), .int .i64 (a : Nat), .int .i64 (b : Nat)], _] m _
  cases d with
  | true =>
    change ACall Tryd.prog 53 #[_, .int .i64 2] m (Ret (.int .i64 (a : Nat)) m)
    refine ACall.start Tryd.func53 rfl rfl ?_
    (repeat (first | (with_reducible refine AWo.cons ?_) | ((with_reducible refine Step.id ?_); first | ((with_reducible apply Step.move); exact rfl; exact rfl) | ((with_reducible apply Step.assign); exact rfl; exact rfl) | ((with_reducible apply Step.load); exact rfl; (focus (decide +kernel)); exact rfl; (focus (exact Rd.new rfl rfl))) | ((with_reducible apply Step.field (k := 2)); exact rfl; (focus (decide +kernel)); exact rfl) | ((with_reducible apply Step.eql); exact rfl; exact rfl; exact rfl) | ((with_reducible apply Step.box 0); exact rfl; exact rfl; (focus (kernel_rfl)); exact rfl; (focus (first | (simp only [List.nil_append, List.cons_append, List.set_cons_zero, List.set_cons_succ, iv_set, bv_set, iv_rep, bv_rep]; done) | (simp only [List.nil_append, List.cons_append, List.set_cons_zero, List.set_cons_succ, iv_set, bv_set, iv_rep, bv_rep]; rfl) | rfl)))) | (with_reducible refine AWo.nil ?_) | ((with_reducible apply AW.seq)) | ((with_reducible apply Then.n)) | ((with_reducible apply AW.regL)) | ((with_reducible apply AW.condT); exact rfl; (focus (rfl)))))
    (refine AW.retD (l := [(4, _)]) (by repeat (first | exact trivial | (refine And.intro ⟨rfl, by (exact .int _ _)⟩ ?_))) ?_; (repeat (first | refine Then.r ?_ | refine InBlk.r ?_)))
    exact ⟨_, rfl, rfl, rfl⟩
  | false =>
    change ACall Tryd.prog 53 #[_, .int .i64 3] m (Ret (.int .i64 (b : Nat)) m)
    refine ACall.start Tryd.func53 rfl rfl ?_
    (repeat (first | (with_reducible refine AWo.cons ?_) | ((with_reducible refine Step.id ?_); first | ((with_reducible apply Step.move); exact rfl; exact rfl) | ((with_reducible apply Step.assign); exact rfl; exact rfl) | ((with_reducible apply Step.load); exact rfl; (focus (decide +kernel)); exact rfl; (focus (exact Rd.new rfl rfl))) | ((with_reducible apply Step.field (k := 3)); exact rfl; (focus (decide +kernel)); exact rfl) | ((with_reducible apply Step.eql); exact rfl; exact rfl; exact rfl) | ((with_reducible apply Step.box 0); exact rfl; exact rfl; (focus (kernel_rfl)); exact rfl; (focus (first | (simp only [List.nil_append, List.cons_append, List.set_cons_zero, List.set_cons_succ, iv_set, bv_set, iv_rep, bv_rep]; done) | (simp only [List.nil_append, List.cons_append, List.set_cons_zero, List.set_cons_succ, iv_set, bv_set, iv_rep, bv_rep]; rfl) | rfl)))) | (with_reducible refine AWo.nil ?_) | ((with_reducible apply AW.seq)) | ((with_reducible apply Then.n)) | ((with_reducible apply AW.regL)) | ((with_reducible apply AW.skip)) | ((with_reducible apply AW.condF); exact rfl; (focus (rfl)))))
    (refine AW.retD (l := [(4, _)]) (by repeat (first | exact trivial | (refine And.intro ⟨rfl, by (exact .int _ _)⟩ ?_))) ?_; (repeat (first | refine Then.r ?_ | refine InBlk.r ?_)))
    exact ⟨_, rfl, rfl, rfl⟩
theorem Ren.tup2 {ρ : Nat → Nat} {n : Nat} {a b : Value} (ha : Ren ρ n a a) (hb : Ren ρ n b b) : Ren ρ n (.tuple #[a, b]) (.tuple #[a, b]) := .tuple _ _ rfl fun i hi => by
  simp at hi
  rcases (show i = 0 ∨ i = 1 by omega) with rfl | rfl
  · exact ha
  · exact hb
set_option maxHeartbeats 8000000 in
set_option maxRecDepth 100000 in
theorem part_ok {m : AM} (r : R4) (d : Bool) {i : Nat} (h1 : 1 ≤ i) (h2 : i + 1 ≤ r.len d) (hx : r.x ≤ 16 ∧ r.y ≤ 16 ∧ r.a ≤ 16 ∧ r.b ≤ 16) :
    ACall Tryd.prog 54 #[r.rc.v, .int .i64 (opI d), .int .i64 (i : Nat)] m (Ret (.tuple #[(r.lo d i).rc.v, (r.hi d i).rc.v]) m) := by
  refine ACall.drop (Ren.tup2 (Ren.aggI [_, _, _, _]) (Ren.aggI [_, _, _, _])) ?_
  obtain ⟨x, y, a, b⟩ := r
  simp only at hx
  change ACall Tryd.prog 54 #[.agg #[.int .i64 (x : Nat), .int .i64 (y : Nat), .int .i64 (a : Nat), .int .i64 (b : Nat)], _, _] m _
  refine ACall.start Tryd.func54 rfl rfl ?_
  (repeat (first | (with_reducible refine AWo.cons ?_) | ((with_reducible refine Step.id ?_); first | ((with_reducible apply Step.box 0); exact rfl; exact rfl; (focus (kernel_rfl)); exact rfl; (focus (first | (simp only [List.nil_append, List.cons_append, List.set_cons_zero, List.set_cons_succ, iv_set, bv_set, iv_rep, bv_rep]; done) | (simp only [List.nil_append, List.cons_append, List.set_cons_zero, List.set_cons_succ, iv_set, bv_set, iv_rep, bv_rep]; rfl) | rfl))) | ((with_reducible apply Step.alloc 1); exact rfl; exact ze23; exact rfl; (focus (first | (simp only [List.nil_append, List.cons_append, List.set_cons_zero, List.set_cons_succ, iv_set, bv_set, iv_rep, bv_rep]; done) | (simp only [List.nil_append, List.cons_append, List.set_cons_zero, List.set_cons_succ, iv_set, bv_set, iv_rep, bv_rep]; rfl) | rfl))) | ((with_reducible apply Step.alloc 2); exact rfl; exact ze23; exact rfl; (focus (first | (simp only [List.nil_append, List.cons_append, List.set_cons_zero, List.set_cons_succ, iv_set, bv_set, iv_rep, bv_rep]; done) | (simp only [List.nil_append, List.cons_append, List.set_cons_zero, List.set_cons_succ, iv_set, bv_set, iv_rep, bv_rep]; rfl) | rfl)))) | (with_reducible refine AWo.nil ?_) | ((fail_if_success (with_reducible refine AW.atR (id := 1) ?_)); ((with_reducible apply AW.seq))) | ((with_reducible apply Then.n)) | ((with_reducible apply AW.regL))))
  refine AW.joinG (fr [(1, .int .i64 (opI d)), (2, .int .i64 (i : Nat)), (3, .pointer (some ⟨m.length + 0, 0, none⟩)), (6, .pointer (some ⟨m.length + 1, 0, none⟩)), (7, .pointer (some ⟨m.length + 2, 0, none⟩)), (8, .pointer (some ⟨m.length + 3, 0, none⟩)), (9, .pointer (some ⟨m.length + 4, 0, none⟩))])
    (m ++ [some { cells := [.int .i64 (x : Nat), .int .i64 (y : Nat), .int .i64 (a : Nat), .int .i64 (b : Nat)] }, some { cells := iv [0, 0, 0, 0] }, some { cells := iv [0, 0, 0, 0] }, some { cells := [.int .i64 (x : Nat), .int .i64 (y : Nat), .int .i64 (a : Nat), .int .i64 (b : Nat)] }, some { cells := [.int .i64 (x : Nat), .int .i64 (y : Nat), .int .i64 (a : Nat), .int .i64 (b : Nat)] }]) ?_ ?_
  · (repeat' (first | ((with_reducible refine Step.id ?_); first | ((with_reducible apply Step.loadL (n := 4)); exact rfl; (focus (decide +kernel)); (focus (decide +kernel)); exact rfl; (focus (exact RdL.new rfl rfl)); exact rfl; exact rfl) | ((with_reducible apply Step.alloc 3); exact rfl; exact ze23; exact rfl; (focus (first | (simp only [List.nil_append, List.cons_append, List.set_cons_zero, List.set_cons_succ, iv_set, bv_set, iv_rep, bv_rep]; done) | (simp only [List.nil_append, List.cons_append, List.set_cons_zero, List.set_cons_succ, iv_set, bv_set, iv_rep, bv_rep]; rfl) | rfl))) | ((with_reducible apply Step.storeA (k := 3) (n := 4)); exact rfl; exact rfl; exact rfl; exact rfl; (focus (decide +kernel)); exact rfl; (focus (kernel_rfl)); exact rfl; (focus (first | (simp only [List.nil_append, List.cons_append, List.set_cons_zero, List.set_cons_succ, iv_set, bv_set, iv_rep, bv_rep]; done) | (simp only [List.nil_append, List.cons_append, List.set_cons_zero, List.set_cons_succ, iv_set, bv_set, iv_rep, bv_rep]; rfl) | rfl))) | ((with_reducible apply Step.alloc 4); exact rfl; exact ze23; exact rfl; (focus (first | (simp only [List.nil_append, List.cons_append, List.set_cons_zero, List.set_cons_succ, iv_set, bv_set, iv_rep, bv_rep]; done) | (simp only [List.nil_append, List.cons_append, List.set_cons_zero, List.set_cons_succ, iv_set, bv_set, iv_rep, bv_rep]; rfl) | rfl))) | ((with_reducible apply Step.storeA (k := 4) (n := 4)); exact rfl; exact rfl; exact rfl; exact rfl; (focus (decide +kernel)); exact rfl; (focus (kernel_rfl)); exact rfl; (focus (first | (simp only [List.nil_append, List.cons_append, List.set_cons_zero, List.set_cons_succ, iv_set, bv_set, iv_rep, bv_rep]; done) | (simp only [List.nil_append, List.cons_append, List.set_cons_zero, List.set_cons_succ, iv_set, bv_set, iv_rep, bv_rep]; rfl) | rfl)))) | ((with_reducible apply Then.n)) | ((with_reducible apply AW.drawT fit (T := (.both (.step 0 (.both (.step 1 (.both (.step 2 (.step 3 (.step 4 (.step 5 .done)))) (.step 3 (.step 2 (.step 4 (.step 5 .done)))))) (.both (.step 2 (.both (.step 1 (.step 3 (.step 4 (.step 5 .done)))) (.step 3 (.both (.step 1 (.step 4 (.step 5 .done))) (.step 4 (.step 1 (.step 5 .done))))))) (.step 3 (.both (.step 1 (.step 2 (.step 4 (.step 5 .done)))) (.step 2 (.both (.step 1 (.step 4 (.step 5 .done))) (.step 4 (.step 1 (.step 5 .done)))))))))) (.both (.step 1 (.both (.step 0 (.both (.step 2 (.step 3 (.step 4 (.step 5 .done)))) (.step 3 (.step 2 (.step 4 (.step 5 .done)))))) (.both (.step 2 (.both (.step 0 (.step 3 (.step 4 (.step 5 .done)))) (.step 3 (.step 0 (.step 4 (.step 5 .done)))))) (.step 3 (.both (.step 0 (.step 2 (.step 4 (.step 5 .done)))) (.step 2 (.step 0 (.step 4 (.step 5 .done))))))))) (.both (.step 2 (.both (.step 0 (.both (.step 1 (.step 3 (.step 4 (.step 5 .done)))) (.step 3 (.both (.step 1 (.step 4 (.step 5 .done))) (.step 4 (.step 1 (.step 5 .done))))))) (.both (.step 1 (.both (.step 0 (.step 3 (.step 4 (.step 5 .done)))) (.step 3 (.step 0 (.step 4 (.step 5 .done)))))) (.step 3 (.step 0 (.both (.step 1 (.step 4 (.step 5 .done))) (.step 4 (.step 1 (.step 5 .done))))))))) (.step 3 (.both (.step 0 (.both (.step 1 (.step 2 (.step 4 (.step 5 .done)))) (.step 2 (.both (.step 1 (.step 4 (.step 5 .done))) (.step 4 (.step 1 (.step 5 .done))))))) (.both (.step 1 (.both (.step 0 (.step 2 (.step 4 (.step 5 .done)))) (.step 2 (.step 0 (.step 4 (.step 5 .done)))))) (.step 2 (.step 0 (.both (.step 1 (.step 4 (.step 5 .done))) (.step 4 (.step 1 (.step 5 .done)))))))))))))); (focus (decide +kernel))) | ((with_reducible apply AWt.step); exact rfl) | ((with_reducible apply AWt.done)) | refine AWt.both ?_ ?_))
    all_goals first | (refine Gc.perm [0,1,2,3,4] rfl (by decide) ?_ (CellsOk.ren ?_) ?_; (focus (intro p hp; rcases p with _ | _ | _ | _ | _ | p <;> first | rfl | exact absurd hp (lenB (n := 5) rfl))); (focus (repeat (first | exact CellsOk.nil | refine CellsOk.cons (by first | exact g0_iv _ | (intro v hv; simp at hv; first | (subst hv; rfl) | (rcases hv with rfl | rfl <;> rfl) | (rcases hv with rfl | rfl | rfl <;> rfl) | (rcases hv with rfl | rfl | rfl | rfl <;> rfl))) ?_))); (focus ((repeat (first | exact trivial | (refine And.intro ⟨_, rfl, ?_⟩ ?_; (focus (first | exact .int _ _ | (refine Ren.ptr_sg ?_; (focus (first | (simp; done) | omega | (simp; omega))))))))); done))) | (refine Gc.perm [0,1,2,4,3] rfl (by decide) ?_ (CellsOk.ren ?_) ?_; (focus (intro p hp; rcases p with _ | _ | _ | _ | _ | p <;> first | rfl | exact absurd hp (lenB (n := 5) rfl))); (focus (repeat (first | exact CellsOk.nil | refine CellsOk.cons (by first | exact g0_iv _ | (intro v hv; simp at hv; first | (subst hv; rfl) | (rcases hv with rfl | rfl <;> rfl) | (rcases hv with rfl | rfl | rfl <;> rfl) | (rcases hv with rfl | rfl | rfl | rfl <;> rfl))) ?_))); (focus ((repeat (first | exact trivial | (refine And.intro ⟨_, rfl, ?_⟩ ?_; (focus (first | exact .int _ _ | (refine Ren.ptr_sg ?_; (focus (first | (simp; done) | omega | (simp; omega))))))))); done)))
  cases d with
  | true =>
    change i + 1 ≤ a at h2
    change AW _ _ _ _ (fr ((1, .int .i64 2) :: _)) _ (Ends _ _ fun v m' => v = .tuple #[.agg #[.int .i64 (x : Nat), .int .i64 (y : Nat), .int .i64 (i : Nat), .int .i64 (b : Nat)], .agg #[.int .i64 ((x + i : Nat)), .int .i64 (y : Nat), .int .i64 ((a - i : Nat)), .int .i64 (b : Nat)]] ∧ ∃ N, m' = m ++ N)
    have e1 : ((x + i : Nat) : Int) = (x : Int) + (i : Int) := by omega
    have e2 : ((a - i : Nat) : Int) = (a : Int) - (i : Int) := by omega
    rw [e1, e2]
    (repeat' (first | (with_reducible refine AWo.cons ?_) | ((with_reducible refine Step.id ?_); first | ((with_reducible apply Step.move); exact rfl; exact rfl) | ((with_reducible apply Step.load); exact rfl; (focus (decide +kernel)); exact rfl; (focus (exact Rd.new rfl rfl))) | ((with_reducible apply Step.loadL (n := 4)); exact rfl; (focus (decide +kernel)); (focus (decide +kernel)); exact rfl; (focus (exact RdL.new rfl rfl)); exact rfl; exact rfl) | ((with_reducible apply Step.field0); exact rfl; (focus (decide +kernel)); exact rfl) | ((with_reducible apply Step.field (k := 2)); exact rfl; (focus (decide +kernel)); exact rfl) | ((with_reducible apply Step.add); exact rfl; exact rfl; (focus (omega)); exact rfl) | ((with_reducible apply Step.sub); exact rfl; exact rfl; (focus (omega)); exact rfl) | ((with_reducible apply Step.eql); exact rfl; exact rfl; exact rfl) | ((with_reducible apply Step.storeA (k := 1) (n := 4)); exact rfl; exact rfl; exact rfl; exact rfl; (focus (decide +kernel)); exact rfl; (focus (kernel_rfl)); exact rfl; (focus (first | (simp only [List.nil_append, List.cons_append, List.set_cons_zero, List.set_cons_succ, iv_set, bv_set, iv_rep, bv_rep]; done) | (simp only [List.nil_append, List.cons_append, List.set_cons_zero, List.set_cons_succ, iv_set, bv_set, iv_rep, bv_rep]; rfl) | rfl))) | ((with_reducible apply Step.storeA (k := 2) (n := 4)); exact rfl; exact rfl; exact rfl; exact rfl; (focus (decide +kernel)); exact rfl; (focus (kernel_rfl)); exact rfl; (focus (first | (simp only [List.nil_append, List.cons_append, List.set_cons_zero, List.set_cons_succ, iv_set, bv_set, iv_rep, bv_rep]; done) | (simp only [List.nil_append, List.cons_append, List.set_cons_zero, List.set_cons_succ, iv_set, bv_set, iv_rep, bv_rep]; rfl) | rfl))) | ((with_reducible apply Step.store (k := 3)); exact rfl; exact rfl; exact rfl; exact rfl; (focus (decide +kernel)); exact rfl; exact rfl; (focus (first | omega | (simp [iv, bv]; done) | (simp [iv, bv]; omega))); (focus (first | (simp only [List.nil_append, List.cons_append, List.set_cons_zero, List.set_cons_succ, iv_set, bv_set, iv_rep, bv_rep]; done) | (simp only [List.nil_append, List.cons_append, List.set_cons_zero, List.set_cons_succ, iv_set, bv_set, iv_rep, bv_rep]; rfl) | rfl))) | ((with_reducible apply Step.store (k := 4)); exact rfl; exact rfl; exact rfl; exact rfl; (focus (decide +kernel)); exact rfl; exact rfl; (focus (first | omega | (simp [iv, bv]; done) | (simp [iv, bv]; omega))); (focus (first | (simp only [List.nil_append, List.cons_append, List.set_cons_zero, List.set_cons_succ, iv_set, bv_set, iv_rep, bv_rep]; done) | (simp only [List.nil_append, List.cons_append, List.set_cons_zero, List.set_cons_succ, iv_set, bv_set, iv_rep, bv_rep]; rfl) | rfl)))) | (with_reducible refine AWo.nil ?_) | ((with_reducible apply AW.seq)) | ((with_reducible apply Then.n)) | ((with_reducible apply AW.regL)) | ((with_reducible apply AW.drawT fit (T := (.step 0 (.step 1 (.step 3 (.step 5 (.step 7 (.step 9 (.both (.step 2 (.step 4 (.both (.step 6 (.step 8 (.step 10 (.step 11 (.step 12 (.step 13 (.step 14 .done))))))) (.step 10 (.step 11 (.both (.step 6 (.step 8 (.step 12 (.step 13 (.step 14 .done))))) (.step 12 (.step 6 (.step 8 (.step 13 (.step 14 .done))))))))))) (.both (.step 6 (.step 8 (.both (.step 2 (.step 4 (.step 10 (.step 11 (.step 12 (.step 13 (.step 14 .done))))))) (.step 10 (.step 2 (.step 4 (.step 11 (.step 12 (.step 13 (.step 14 .done)))))))))) (.step 10 (.step 2 (.step 4 (.step 11 (.both (.step 6 (.step 8 (.step 12 (.step 13 (.step 14 .done))))) (.step 12 (.step 6 (.step 8 (.step 13 (.step 14 .done)))))))))))))))))))); (focus (decide +kernel))) | ((with_reducible apply AW.drawT fit (T := (.step 0 (.both (.step 1 (.step 2 (.step 3 .done))) (.step 2 (.step 1 (.step 3 .done))))))); (focus (decide +kernel))) | ((with_reducible apply AWt.step); exact rfl) | ((with_reducible apply AWt.done)) | ((with_reducible apply AW.condT); exact rfl; (focus (rfl))) | refine AWt.both ?_ ?_))
    all_goals
      (refine AW.ret ?_; (repeat (first | refine Then.r ?_ | refine InBlk.r ?_)))
      exact ⟨_, ares_cell2 rfl rfl rfl (by decide +kernel) (n1 := 4) (by decide +kernel) (RdL.new rfl rfl) rfl rfl (by decide +kernel) (n2 := 4) (by decide +kernel) (RdL.new rfl rfl) rfl rfl, rfl, _, rfl⟩
  | false =>
    change i + 1 ≤ b at h2
    change AW _ _ _ _ (fr ((1, .int .i64 3) :: _)) _ (Ends _ _ fun v m' => v = .tuple #[.agg #[.int .i64 (x : Nat), .int .i64 (y : Nat), .int .i64 (a : Nat), .int .i64 (i : Nat)], .agg #[.int .i64 (x : Nat), .int .i64 ((y + i : Nat)), .int .i64 (a : Nat), .int .i64 ((b - i : Nat))]] ∧ ∃ N, m' = m ++ N)
    have e1 : ((y + i : Nat) : Int) = (y : Int) + (i : Int) := by omega
    have e2 : ((b - i : Nat) : Int) = (b : Int) - (i : Int) := by omega
    rw [e1, e2]
    (repeat' (first | (with_reducible refine AWo.cons ?_) | ((with_reducible refine Step.id ?_); first | ((with_reducible apply Step.move); exact rfl; exact rfl) | ((with_reducible apply Step.load); exact rfl; (focus (decide +kernel)); exact rfl; (focus (exact Rd.new rfl rfl))) | ((with_reducible apply Step.loadL (n := 4)); exact rfl; (focus (decide +kernel)); (focus (decide +kernel)); exact rfl; (focus (exact RdL.new rfl rfl)); exact rfl; exact rfl) | ((with_reducible apply Step.field (k := 1)); exact rfl; (focus (decide +kernel)); exact rfl) | ((with_reducible apply Step.field (k := 3)); exact rfl; (focus (decide +kernel)); exact rfl) | ((with_reducible apply Step.add); exact rfl; exact rfl; (focus (omega)); exact rfl) | ((with_reducible apply Step.sub); exact rfl; exact rfl; (focus (omega)); exact rfl) | ((with_reducible apply Step.eql); exact rfl; exact rfl; exact rfl) | ((with_reducible apply Step.storeA (k := 1) (n := 4)); exact rfl; exact rfl; exact rfl; exact rfl; (focus (decide +kernel)); exact rfl; (focus (kernel_rfl)); exact rfl; (focus (first | (simp only [List.nil_append, List.cons_append, List.set_cons_zero, List.set_cons_succ, iv_set, bv_set, iv_rep, bv_rep]; done) | (simp only [List.nil_append, List.cons_append, List.set_cons_zero, List.set_cons_succ, iv_set, bv_set, iv_rep, bv_rep]; rfl) | rfl))) | ((with_reducible apply Step.storeA (k := 2) (n := 4)); exact rfl; exact rfl; exact rfl; exact rfl; (focus (decide +kernel)); exact rfl; (focus (kernel_rfl)); exact rfl; (focus (first | (simp only [List.nil_append, List.cons_append, List.set_cons_zero, List.set_cons_succ, iv_set, bv_set, iv_rep, bv_rep]; done) | (simp only [List.nil_append, List.cons_append, List.set_cons_zero, List.set_cons_succ, iv_set, bv_set, iv_rep, bv_rep]; rfl) | rfl))) | ((with_reducible apply Step.store (k := 3)); exact rfl; exact rfl; exact rfl; exact rfl; (focus (decide +kernel)); exact rfl; exact rfl; (focus (first | omega | (simp [iv, bv]; done) | (simp [iv, bv]; omega))); (focus (first | (simp only [List.nil_append, List.cons_append, List.set_cons_zero, List.set_cons_succ, iv_set, bv_set, iv_rep, bv_rep]; done) | (simp only [List.nil_append, List.cons_append, List.set_cons_zero, List.set_cons_succ, iv_set, bv_set, iv_rep, bv_rep]; rfl) | rfl))) | ((with_reducible apply Step.store (k := 4)); exact rfl; exact rfl; exact rfl; exact rfl; (focus (decide +kernel)); exact rfl; exact rfl; (focus (first | omega | (simp [iv, bv]; done) | (simp [iv, bv]; omega))); (focus (first | (simp only [List.nil_append, List.cons_append, List.set_cons_zero, List.set_cons_succ, iv_set, bv_set, iv_rep, bv_rep]; done) | (simp only [List.nil_append, List.cons_append, List.set_cons_zero, List.set_cons_succ, iv_set, bv_set, iv_rep, bv_rep]; rfl) | rfl)))) | (with_reducible refine AWo.nil ?_) | ((with_reducible apply AW.seq)) | ((with_reducible apply Then.n)) | ((with_reducible apply AW.regL)) | ((with_reducible apply AW.drawT fit (T := (.step 0 (.step 1 (.step 3 (.step 5 (.step 7 (.step 9 (.both (.step 2 (.step 4 (.both (.step 6 (.step 8 (.step 10 (.step 11 (.step 12 (.step 13 (.step 14 .done))))))) (.step 10 (.step 11 (.both (.step 6 (.step 8 (.step 12 (.step 13 (.step 14 .done))))) (.step 12 (.step 6 (.step 8 (.step 13 (.step 14 .done))))))))))) (.both (.step 6 (.step 8 (.both (.step 2 (.step 4 (.step 10 (.step 11 (.step 12 (.step 13 (.step 14 .done))))))) (.step 10 (.step 2 (.step 4 (.step 11 (.step 12 (.step 13 (.step 14 .done)))))))))) (.step 10 (.step 2 (.step 4 (.step 11 (.both (.step 6 (.step 8 (.step 12 (.step 13 (.step 14 .done))))) (.step 12 (.step 6 (.step 8 (.step 13 (.step 14 .done)))))))))))))))))))); (focus (decide +kernel))) | ((with_reducible apply AW.drawT fit (T := (.step 0 (.both (.step 1 (.step 2 (.step 3 .done))) (.step 2 (.step 1 (.step 3 .done))))))); (focus (decide +kernel))) | ((with_reducible apply AWt.step); exact rfl) | ((with_reducible apply AWt.done)) | ((with_reducible apply AW.condF); exact rfl; (focus (rfl))) | refine AWt.both ?_ ?_))
    all_goals
      (refine AW.ret ?_; (repeat (first | refine Then.r ?_ | refine InBlk.r ?_)))
      exact ⟨_, ares_cell2 rfl rfl rfl (by decide +kernel) (n1 := 4) (by decide +kernel) (RdL.new rfl rfl) rfl rfl (by decide +kernel) (n2 := 4) (by decide +kernel) (RdL.new rfl rfl) rfl rfl, rfl, _, rfl⟩
end Go.Proofs.YtedbjmgchfgabaaDoor.Abs
namespace Go.Proofs.YtedbjmgchfgabaaDoor.Abs
set_option linter.unusedSimpArgs false
set_option linter.unusedVariables false
open Go.RowKit
open Go.Proofs.YtedbjmgchfgabaaDoor.Sim
theorem fr_get : ∀ {l : List (Nat × Value)} {i : Nat} {v : Value}, fr l i = some v → (i, v) ∈ l
  | [], _, _, h => by cases h
  | (d, x) :: l, i, v, h => by
    unfold fr at h
    by_cases e : i = d
    · subst e
      rw [put_same] at h
      injection h with h
      subst h
      exact List.mem_cons_self
    · rw [put_ne _ _ e] at h
      exact List.mem_cons_of_mem _ (fr_get h)
theorem fr_none : ∀ {l : List (Nat × Value)} {i : Nat}, fr l i = none → ∀ e ∈ l, e.1 ≠ i
  | [], _, _, e, he => by cases he
  | (d, x) :: l, i, h, e, he => by
    unfold fr at h
    by_cases e' : i = d
    · subst e'
      rw [put_same] at h
      cases h
    · rw [put_ne _ _ e'] at h
      rcases List.mem_cons.1 he with rfl | he
      · exact fun q => e' q.symm
      · exact fr_none h e he
theorem fr_app : ∀ (a b : List (Nat × Value)) (i : Nat), fr (a ++ b) i = match fr a i with | some v => some v | none => fr b i
  | [], _, _ => rfl
  | (d, x) :: a, b, i => by
    rw [List.cons_append]
    show put (fr (a ++ b)) d x i = match put (fr a) d x i with | some v => some v | none => fr b i
    by_cases e : i = d
    · subst e; rw [put_same, put_same]
    · rw [put_ne _ _ e, put_ne _ _ e]; exact fr_app a b i
theorem all_mem {t : Fm} : ∀ {bs : List (Nat × Value)}, All (fun i v => t i = some v) bs → ∀ e ∈ bs, t e.1 = some e.2
  | [], _, e, he => by cases he
  | (x1, x2) :: bs, h, e, he => by
    rcases List.mem_cons.1 he with rfl | he
    · exact h.1
    · exact all_mem h.2 e he
theorem Step.weakK {P : Program} {nt : Nat} {ops : Array Oper} {o : Oper} {t1 t : Fm} {m : AM} {K K' : Fm → AM → Prop} (hs : ∀ i v, t1 i = some v → t i = some v) (hk : ∀ v m', K (putO t1 o.dst v) m' → K' (putO t o.dst v) m')
    (h : Step P nt ops o t1 m K) : Step P nt ops o t m K' := by
  obtain ⟨h1, h2⟩ := h
  have hkn : ∀ ev, Kn t1 o ev → Kn t o ev := fun ev k1 x hx => by
    have := k1 x hx
    cases x with
    | tmp i => exact hs _ _ this
    | const c => exact this
    | func f => exact this
    | global g => exact this
  refine ⟨h1, ?_⟩
  cases hg : o.guard with
  | none =>
    rw [hg] at h2
    simp only at h2 ⊢
    obtain ⟨ev, k1, k2⟩ := h2
    exact ⟨ev, hkn ev k1, k2.mono fun v' m' => hk v' m'⟩
  | some jb =>
    obtain ⟨j, b⟩ := jb
    rw [hg] at h2
    simp only at h2 ⊢
    obtain ⟨g, k1, k2⟩ := h2
    refine ⟨g, ?_, ?_⟩
    · unfold gval at k1 ⊢
      split at k1
      · exact hs _ _ k1
      · cases k1
    · split
      · rename_i hw
        rw [if_pos hw] at k2
        obtain ⟨ev, q1, q2⟩ := k2
        exact ⟨ev, hkn ev q1, q2.mono fun v' m' => hk v' m'⟩
      · rename_i hw
        rw [if_neg hw] at k2
        exact hk _ _ k2
theorem Step.weakF {P : Program} {nt : Nat} {ops : Array Oper} {o : Oper} {t1 t : Fm} {m : AM} {d : Nat} {v : Value} (hs : ∀ i v, t1 i = some v → t i = some v) (hd : o.dst = some d)
    (h : Step P nt ops o t1 m (fun t' m' => t' d = some v ∧ m' = m)) : Step P nt ops o t m (fun t' m' => t' = put t d v ∧ m' = m) :=
  h.weakK hs fun x m' hk => by
    rw [hd] at hk ⊢
    simp only [putO] at hk ⊢
    rw [put_same] at hk
    obtain ⟨e, e2⟩ := hk
    injection e with e
    subst e
    exact ⟨rfl, e2⟩
def depL (acc : List (Nat × Value)) (D : List Nat) : List (Nat × Value) := D.map fun j => acc.getD j (0, undef)
def AWf (P : Program) (nt : Nat) (m : AM) (ops : Array Oper) (bs : List (Nat × Value)) : List Oper → List (List Nat) → List (Nat × Value) → (List (Nat × Value) → Prop) → Prop
  | [], _, acc, Q => Q acc
  | o :: rest, D, acc, Q => ∃ d v, o.dst = some d ∧ Step P nt ops o (fr (depL acc (D.headD []) ++ bs)) m (fun t' m' => t' d = some v ∧ m' = m) ∧ AWf P nt m ops bs rest D.tail ((d, v) :: acc) Q
section
variable {P : Program} {nt : Nat} {t : Fm} {m m0 : AM} {l : List Oper} {bs : List (Nat × Value)}
theorem AWf.cons {ops : Array Oper} {o : Oper} {rest : List Oper} {dd : List Nat} {D : List (List Nat)} {acc : List (Nat × Value)} {Q : List (Nat × Value) → Prop} {d : Nat} {v : Value} (hd : o.dst = some d) (h : Step P nt ops o (fr (depL acc dd ++ bs)) m (fun t' m' => t' d = some v ∧ m' = m)) (hr : AWf P nt m ops bs rest D ((d, v) :: acc) Q) :
    AWf P nt m ops bs (o :: rest) (dd :: D) acc Q := ⟨d, v, hd, h, hr⟩
theorem AWf.nil {ops : Array Oper} {D : List (List Nat)} {acc : List (Nat × Value)} {Q : List (Nat × Value) → Prop} (h : Q acc) : AWf P nt m ops bs [] D acc Q := h
theorem AWf.get {ops : Array Oper} : ∀ {rest : List Oper} {D : List (List Nat)} {acc : List (Nat × Value)} {Q : List (Nat × Value) → Prop}, AWf P nt m ops bs rest D acc Q → ∃ a1 : List (Nat × Value), a1.length = rest.length ∧ Q (a1.reverse ++ acc) ∧ ∀ i o, rest[i]? = some o → ∃ d v, a1[i]? = some (d, v) ∧ o.dst = some d ∧ Step P nt ops o (fr (depL ((a1.take i).reverse ++ acc) (D.getD i []) ++ bs)) m (fun t' m' => t' d = some v ∧ m' = m)
  | [], _, acc, Q, h => ⟨[], rfl, h, fun i o ho => by simp at ho⟩
  | o :: rest, D, acc, Q, h => by
    obtain ⟨d, v, hd, h1, h2⟩ := h
    obtain ⟨a1, g1, g2, g3⟩ := AWf.get h2
    refine ⟨(d, v) :: a1, by simp [g1], by rw [List.reverse_cons, List.append_assoc]; exact g2, fun i o' ho => ?_⟩
    cases i with
    | zero =>
      simp only [List.getElem?_cons_zero, Option.some.injEq] at ho
      subst ho
      refine ⟨d, v, rfl, hd, ?_⟩
      rw [List.take_zero, List.reverse_nil, List.nil_append]
      cases D <;> exact h1
    | succ i =>
      simp only [List.getElem?_cons_succ] at ho ⊢
      obtain ⟨d', v', k1, k2, k3⟩ := g3 i o' ho
      refine ⟨d', v', k1, k2, ?_⟩
      rw [List.take_succ_cons, List.reverse_cons, List.append_assoc]
      have : D.tail.getD i [] = D.getD (i + 1) [] := by cases D <;> simp
      rw [this] at k3
      exact k3
/-- What each operation waits for, counted back from it. -/
def backL (l : List Oper) : List (List Nat) := (List.range l.length).map fun i => match l[i]? with
  | some o => (depsO o).map fun j => i - 1 - j
  | none => []
/-- What makes a region flat: each operation's slot is its own, none is guarded, and all lead to the last one. -/
def flatB (l : List Oper) (ks : List Nat) (D : List (List Nat)) : Bool :=
  decide (D = backL l) && (Nat.blt 0 l.length && (backB l && ((l.map (·.dst)).Nodup && (((List.range (l.length - 1)).all fun i => (List.range l.length).any fun j => Nat.blt i j && match l[j]? with | some o => (depsO o).contains i | none => false) &&
    (ks.all fun k => (l.dropLast).all fun o => o.dst != some k)))))
theorem AW.flat (hP : Fit P) {id : Nat} {Q : AEx → Fm → AM → Prop} (bs l1 : List (Nat × Value)) (ks : List Nat) (D : List (List Nat)) (hbs : All (fun i v => t i = some v) bs) (hks : bs.map (·.1) = ks) (hb : flatB l ks D = true)
    (h : AWf P nt m l.toArray bs l D [] (fun acc => All (fun i v => fr (acc ++ bs) i = some v) l1)) (h2 : ∀ t', (∀ i v, fr l1 i = some v → t' i = some v) → Q .normal t' m) : AW P nt m0 (.region id l.toArray true) t m Q := by
  subst hks
  simp only [flatB, Bool.and_eq_true] at hb
  obtain ⟨bD, b0, b1, b3, b4, b5⟩ := hb
  have hn : 0 < l.length := by simpa using b0
  have eD : D = backL l := of_decide_eq_true bD
  obtain ⟨acc, a1, a2, a3⟩ := AWf.get h
  rw [List.append_nil] at a2
  have a3' : ∀ i o, l[i]? = some o → ∃ d v, acc[i]? = some (d, v) ∧ o.dst = some d ∧ Step P nt l.toArray o (fr ((depsO o).map (fun j => (acc.take i).reverse.getD (i - 1 - j) (0, undef)) ++ bs)) m (fun t' m' => t' d = some v ∧ m' = m) := fun i o hi => by
    obtain ⟨d, v, k1, k2, k3⟩ := a3 i o hi
    refine ⟨d, v, k1, k2, ?_⟩
    have hil := (List.getElem?_eq_some_iff.1 hi).1
    have : D.getD i [] = (depsO o).map fun j => i - 1 - j := by
      rw [eD]
      have ho : l[i] = o := by rw [List.getElem?_eq_getElem hil] at hi; injection hi
      simp [backL, hil, ho]
    rw [this, List.append_nil] at k3
    unfold depL at k3
    rw [List.map_map] at k3
    exact k3
  have hnd : (l.map (·.dst)).Nodup := by simpa using b3
  have hdiff : ∀ (i j : Nat) (o o' : Oper), l[i]? = some o → l[j]? = some o' → i ≠ j → o.dst ≠ o'.dst := fun i j o o' hi hj hij e => by
    have hi' := (List.getElem?_eq_some_iff.1 hi).1
    have hj' := (List.getElem?_eq_some_iff.1 hj).1
    have := (List.getElem_inj (h₀ := by simpa using hi') (h₁ := by simpa using hj') hnd).1 (by
      simp only [List.getElem_map]
      have e1 : l[i] = o := by rw [List.getElem?_eq_getElem hi'] at hi; injection hi
      have e2 : l[j] = o' := by rw [List.getElem?_eq_getElem hj'] at hj; injection hj
      rw [e1, e2, e])
    exact hij this
  have hall : ∀ (L : Nat → Bool), (∀ i o, l[i]? = some o → L i = true → ∀ j ∈ depsO o, L j = true) → L (l.length - 1) = true → ∀ i, i < l.length → L i = true := by
    intro L hc hl
    suffices H : ∀ k i, i < l.length → l.length - 1 - i ≤ k → L i = true from fun i hi => H _ i hi (Nat.le_refl _)
    intro k
    induction k with
    | zero => intro i hi hk; rw [show i = l.length - 1 by omega]; exact hl
    | succ k ih =>
      intro i hi hk
      by_cases e : i = l.length - 1
      · rw [e]; exact hl
      · have := List.all_eq_true.1 b4 i (List.mem_range.2 (by omega))
        obtain ⟨j, hj1, hj2⟩ := List.any_eq_true.1 this
        simp only [Bool.and_eq_true] at hj2
        obtain ⟨hj2, hj3⟩ := hj2
        have hij : i < j := by simpa using hj2
        have hjl := List.mem_range.1 hj1
        rw [List.getElem?_eq_getElem hjl] at hj3
        simp only at hj3
        have hLj := ih j hjl (by omega)
        exact hc j _ (List.getElem?_eq_getElem hjl) hLj i (by simpa using hj3)
  obtain ⟨ol, hol⟩ : ∃ o, l[l.length - 1]? = some o := ⟨_, List.getElem?_eq_getElem (by omega)⟩
  obtain ⟨dl, vl, hdl, hdl2, _⟩ := a3' _ ol hol
  have hkeys : ∀ e ∈ bs, ∀ i o, i < l.length - 1 → l[i]? = some o → o.dst ≠ some e.1 := fun e he i o hi ho => by
    have := List.all_eq_true.1 b5 e.1 (List.mem_map_of_mem he)
    have := List.all_eq_true.1 this o (List.mem_iff_getElem?.2 ⟨i, by rw [List.getElem?_dropLast, if_pos hi]; exact ho⟩)
    simpa using this
  have hbs' := all_mem hbs
  refine AW.anyI hP (fun L t' m' => m' = m ∧ (∀ i o, l[i]? = some o → L i = true → ∀ j ∈ depsO o, L j = true) ∧ (∀ i d v, acc[i]? = some (d, v) → L i = true → t' d = some v) ∧ ∀ e ∈ bs, (L (l.length - 1) = false ∨ e.1 ≠ dl) → t' e.1 = some e.2) b1
    ⟨rfl, fun i o _ h => (by cases h), fun i d v _ h => (by cases h), fun e he _ => hbs' e he⟩ ?_ ?_
  · rintro i o hi L t' m' ⟨rfl, c1, c2, c3⟩ hLi hdeps
    obtain ⟨d, v, q1, q2, q3⟩ := a3' i o hi
    have hil := (List.getElem?_eq_some_iff.1 hi).1
    have hLl : L (l.length - 1) = false := by
      cases e : L (l.length - 1) with
      | false => rfl
      | true => rw [hall L c1 e i hil] at hLi; cases hLi
    have hback := List.all_eq_true.1 b1 i (List.mem_range.2 hil)
    rw [hi] at hback
    simp only at hback
    refine (Step.weakF (fun s x hx => ?_) q2 q3).mono fun x m' hk => ?_
    · rcases List.mem_append.1 (fr_get hx) with hx | hx
      · obtain ⟨j, hj, he⟩ := List.mem_map.1 hx
        have hji : j < i := by simpa using List.all_eq_true.1 hback j hj
        have hja : j < acc.length := by omega
        have e : acc[j]? = some (s, x) := by
          have hlt : (acc.take i).length = i := by rw [List.length_take]; omega
          rw [List.getD_eq_getElem?_getD, List.getElem?_reverse (by omega), hlt, show i - 1 - (i - 1 - j) = j by omega, List.getElem?_take, if_pos hji, List.getElem?_eq_getElem hja] at he
          rw [List.getElem?_eq_getElem hja]
          simpa using he
        exact c2 j s x e (hdeps j hj)
      · exact c3 (s, x) hx (.inl hLl)
    · rw [q2] at hk ⊢
      simp only [putO] at hk ⊢
      obtain ⟨k1, rfl⟩ := hk
      rw [k1]
      refine ⟨rfl, fun j o' hj hLj k hk => ?_, fun j d' v' hj hLj => ?_, fun e he hc => ?_⟩
      · by_cases e : k = i
        · subst e; exact upL_same L k
        · rw [upL_ne L e]
          by_cases e' : j = i
          · subst e'
            rw [hi] at hj
            injection hj with hj
            subst hj
            exact hdeps k hk
          · rw [upL_ne L e'] at hLj
            exact c1 j o' hj hLj k hk
      · by_cases e : j = i
        · subst e
          rw [q1] at hj
          simp only [Option.some.injEq, Prod.mk.injEq] at hj
          obtain ⟨rfl, rfl⟩ := hj
          exact put_same ..
        · rw [upL_ne L e] at hLj
          have hjl : j < l.length := by have := (List.getElem?_eq_some_iff.1 hj).1; omega
          obtain ⟨d2, v2, w1, w2, _⟩ := a3' j _ (List.getElem?_eq_getElem hjl)
          rw [hj] at w1
          simp only [Option.some.injEq, Prod.mk.injEq] at w1
          obtain ⟨rfl, rfl⟩ := w1
          rw [put_ne]
          · exact c2 j d' v' hj hLj
          · rintro rfl
            exact hdiff j i _ o (List.getElem?_eq_getElem hjl) hi e (w2.trans q2.symm)
      · rw [put_ne]
        · exact c3 e he (.inl hLl)
        · intro q
          by_cases e' : i = l.length - 1
          · subst e'
            rw [upL_same] at hc
            rw [hi] at hol
            injection hol with hol
            subst hol
            rw [q2] at hdl2
            injection hdl2 with hdl2
            rcases hc with hc | hc
            · cases hc
            · exact hc (by rw [q, hdl2])
          · exact hkeys e he i o (by omega) hi (by rw [q2, q])
  · rintro L t' m' hL ⟨rfl, c1, c2, c3⟩
    refine h2 t' fun i v hi => ?_
    have hq : fr (acc.reverse ++ bs) i = some v := by
      exact all_mem a2 (i, v) (fr_get hi)
    rw [fr_app] at hq
    cases hfa : fr acc.reverse i with
    | some x =>
      rw [hfa] at hq
      simp only [Option.some.injEq] at hq
      subst hq
      obtain ⟨j, hj⟩ := List.mem_iff_getElem?.1 (List.mem_reverse.1 (fr_get hfa))
      exact c2 j i x hj (hL j (by have := (List.getElem?_eq_some_iff.1 hj).1; omega))
    | none =>
      rw [hfa] at hq
      simp only at hq
      have hne := fr_none hfa (dl, vl) (List.mem_reverse.2 (List.mem_of_getElem? hdl))
      exact c3 (i, v) (fr_get hq) (.inr fun e => hne e.symm)
def flatNB (l : List Oper) (ks : List Nat) (D : List (List Nat)) : Bool :=
  decide (D = backL l) && (backB l && ((l.map (·.dst)).Nodup && (ks.all fun k => l.all fun o => o.dst != some k)))
/-- As flat; nothing that is read from before is set anew. -/
theorem AW.flatN (hP : Fit P) {id : Nat} {Q : AEx → Fm → AM → Prop} (bs l1 : List (Nat × Value)) (ks : List Nat) (D : List (List Nat)) (hbs : All (fun i v => t i = some v) bs) (hks : bs.map (·.1) = ks) (hb : flatNB l ks D = true)
    (h : AWf P nt m l.toArray bs l D [] (fun acc => All (fun i v => fr (acc ++ bs) i = some v) l1)) (h2 : ∀ t', (∀ i v, fr l1 i = some v → t' i = some v) → Q .normal t' m) : AW P nt m0 (.region id l.toArray true) t m Q := by
  subst hks
  simp only [flatNB, Bool.and_eq_true] at hb
  obtain ⟨bD, b1, b3, b5⟩ := hb
  have eD : D = backL l := of_decide_eq_true bD
  obtain ⟨acc, a1, a2, a3⟩ := AWf.get h
  rw [List.append_nil] at a2
  have a3' : ∀ i o, l[i]? = some o → ∃ d v, acc[i]? = some (d, v) ∧ o.dst = some d ∧ Step P nt l.toArray o (fr ((depsO o).map (fun j => (acc.take i).reverse.getD (i - 1 - j) (0, undef)) ++ bs)) m (fun t' m' => t' d = some v ∧ m' = m) := fun i o hi => by
    obtain ⟨d, v, k1, k2, k3⟩ := a3 i o hi
    refine ⟨d, v, k1, k2, ?_⟩
    have hil := (List.getElem?_eq_some_iff.1 hi).1
    have : D.getD i [] = (depsO o).map fun j => i - 1 - j := by
      rw [eD]
      have ho : l[i] = o := by rw [List.getElem?_eq_getElem hil] at hi; injection hi
      simp [backL, hil, ho]
    rw [this, List.append_nil] at k3
    unfold depL at k3
    rw [List.map_map] at k3
    exact k3
  have hnd : (l.map (·.dst)).Nodup := by simpa using b3
  have hdiff : ∀ (i j : Nat) (o o' : Oper), l[i]? = some o → l[j]? = some o' → i ≠ j → o.dst ≠ o'.dst := fun i j o o' hi hj hij e => by
    have hi' := (List.getElem?_eq_some_iff.1 hi).1
    have hj' := (List.getElem?_eq_some_iff.1 hj).1
    have := (List.getElem_inj (h₀ := by simpa using hi') (h₁ := by simpa using hj') hnd).1 (by
      simp only [List.getElem_map]
      have e1 : l[i] = o := by rw [List.getElem?_eq_getElem hi'] at hi; injection hi
      have e2 : l[j] = o' := by rw [List.getElem?_eq_getElem hj'] at hj; injection hj
      rw [e1, e2, e])
    exact hij this
  have hkeys : ∀ e ∈ bs, ∀ (i : Nat) (o : Oper), l[i]? = some o → o.dst ≠ some e.1 := fun e he i o ho => by
    have := List.all_eq_true.1 b5 e.1 (List.mem_map_of_mem he)
    have := List.all_eq_true.1 this o (List.mem_iff_getElem?.2 ⟨i, ho⟩)
    simpa using this
  have hbs' := all_mem hbs
  refine AW.anyI hP (fun L t' m' => m' = m ∧ (∀ i d v, acc[i]? = some (d, v) → L i = true → t' d = some v) ∧ ∀ e ∈ bs, t' e.1 = some e.2) b1
    ⟨rfl, fun i d v _ h => (by cases h), fun e he => hbs' e he⟩ ?_ ?_
  · rintro i o hi L t' m' ⟨rfl, c2, c3⟩ hLi hdeps
    obtain ⟨d, v, q1, q2, q3⟩ := a3' i o hi
    have hil := (List.getElem?_eq_some_iff.1 hi).1
    have hback := List.all_eq_true.1 b1 i (List.mem_range.2 hil)
    rw [hi] at hback
    simp only at hback
    refine (Step.weakF (fun s x hx => ?_) q2 q3).mono fun x m' hk => ?_
    · rcases List.mem_append.1 (fr_get hx) with hx | hx
      · obtain ⟨j, hj, he⟩ := List.mem_map.1 hx
        have hji : j < i := by simpa using List.all_eq_true.1 hback j hj
        have hja : j < acc.length := by omega
        have e : acc[j]? = some (s, x) := by
          have hlt : (acc.take i).length = i := by rw [List.length_take]; omega
          rw [List.getD_eq_getElem?_getD, List.getElem?_reverse (by omega), hlt, show i - 1 - (i - 1 - j) = j by omega, List.getElem?_take, if_pos hji, List.getElem?_eq_getElem hja] at he
          rw [List.getElem?_eq_getElem hja]
          simpa using he
        exact c2 j s x e (hdeps j hj)
      · exact c3 (s, x) hx
    · rw [q2] at hk ⊢
      simp only [putO] at hk ⊢
      obtain ⟨k1, rfl⟩ := hk
      rw [k1]
      refine ⟨rfl, fun j d' v' hj hLj => ?_, fun e he => ?_⟩
      · by_cases e : j = i
        · subst e
          rw [q1] at hj
          simp only [Option.some.injEq, Prod.mk.injEq] at hj
          obtain ⟨rfl, rfl⟩ := hj
          exact put_same ..
        · rw [upL_ne L e] at hLj
          have hjl : j < l.length := by have := (List.getElem?_eq_some_iff.1 hj).1; omega
          obtain ⟨d2, v2, w1, w2, _⟩ := a3' j _ (List.getElem?_eq_getElem hjl)
          rw [hj] at w1
          simp only [Option.some.injEq, Prod.mk.injEq] at w1
          obtain ⟨rfl, rfl⟩ := w1
          rw [put_ne]
          · exact c2 j d' v' hj hLj
          · rintro rfl
            exact hdiff j i _ o (List.getElem?_eq_getElem hjl) hi e (w2.trans q2.symm)
      · rw [put_ne]
        · exact c3 e he
        · intro q
          exact hkeys e he i o hi (by rw [q2, q])
  · rintro L t' m' hL ⟨rfl, c2, c3⟩
    refine h2 t' fun i v hi => ?_
    have hq : fr (acc.reverse ++ bs) i = some v := by
      exact all_mem a2 (i, v) (fr_get hi)
    rw [fr_app] at hq
    cases hfa : fr acc.reverse i with
    | some x =>
      rw [hfa] at hq
      simp only [Option.some.injEq] at hq
      subst hq
      obtain ⟨j, hj⟩ := List.mem_iff_getElem?.1 (List.mem_reverse.1 (fr_get hfa))
      exact c2 j i x hj (hL j (by have := (List.getElem?_eq_some_iff.1 hj).1; omega))
    | none =>
      rw [hfa] at hq
      simp only at hq
      exact c3 (i, v) (fr_get hq)
theorem putO_sub {t1 t : Fm} (hs : ∀ i v, t1 i = some v → t i = some v) (d : Option Tmp) (v : Value) : ∀ i x, putO t1 d v i = some x → putO t d v i = some x := by
  intro i x h
  cases d with
  | none => exact hs i x h
  | some d =>
    simp only [putO] at h ⊢
    by_cases e : i = d
    · subst e; rw [put_same] at h ⊢; exact h
    · rw [put_ne _ _ e] at h ⊢; exact hs i x h
/-- As flatB; the last operation may have no slot of its own, and may turn the memory. -/
def flatLB (l : List Oper) (ks : List Nat) (D : List (List Nat)) : Bool :=
  decide (D = backL l) && (Nat.blt 0 l.length && (backB l && ((l.map (·.dst)).Nodup && (((List.range (l.length - 1)).all fun i => (List.range l.length).any fun j => Nat.blt i j && match l[j]? with | some o => (depsO o).contains i | none => false) &&
    (ks.all fun k => (l.dropLast).all fun o => o.dst != some k)))))
/-- A region all of which leads to its last operation, which may turn the memory. -/
theorem AW.flatL (hP : Fit P) {id : Nat} {l' : List Oper} {last : Oper} {Q : AEx → Fm → AM → Prop} (bs : List (Nat × Value)) (ks : List Nat) (D : List (List Nat)) (hbs : All (fun i v => t i = some v) bs) (hks : bs.map (·.1) = ks) (hl : l = l' ++ [last]) (hb : flatLB l ks D = true)
    (h : AWf P nt m l.toArray bs l' D [] (fun acc => Step P nt l.toArray last (fr (acc ++ bs)) m (fun t1 m' => ∀ t2, (∀ i v, t1 i = some v → t2 i = some v) → Q .normal t2 m'))) : AW P nt m0 (.region id l.toArray true) t m Q := by
  subst hks
  simp only [flatLB, Bool.and_eq_true] at hb
  obtain ⟨bD, b0, b1, b3, b4, b5⟩ := hb
  have hn : 0 < l.length := by simpa using b0
  have eD : D = backL l := of_decide_eq_true bD
  obtain ⟨acc, a1, a2, a3⟩ := AWf.get h
  rw [List.append_nil] at a2
  have hll : l.length = l'.length + 1 := by rw [hl]; simp
  have hget : ∀ i, i < l'.length → l[i]? = l'[i]? := fun i hi => by rw [hl, List.getElem?_append_left hi]
  have hlast : l[l'.length]? = some last := by rw [hl, List.getElem?_append_right (Nat.le_refl _), Nat.sub_self]; rfl
  have a3' : ∀ i o, l'[i]? = some o → ∃ d v, acc[i]? = some (d, v) ∧ o.dst = some d ∧ Step P nt l.toArray o (fr ((depsO o).map (fun j => (acc.take i).reverse.getD (i - 1 - j) (0, undef)) ++ bs)) m (fun t' m' => t' d = some v ∧ m' = m) := fun i o hi => by
    obtain ⟨d, v, k1, k2, k3⟩ := a3 i o hi
    refine ⟨d, v, k1, k2, ?_⟩
    have hil' := (List.getElem?_eq_some_iff.1 hi).1
    have hil : i < l.length := by omega
    rw [← hget i hil'] at hi
    have : D.getD i [] = (depsO o).map fun j => i - 1 - j := by
      rw [eD]
      have ho : l[i] = o := by rw [List.getElem?_eq_getElem hil] at hi; injection hi
      simp [backL, hil, ho]
    rw [this, List.append_nil] at k3
    unfold depL at k3
    rw [List.map_map] at k3
    exact k3
  have hnd : (l.map (·.dst)).Nodup := by simpa using b3
  have hdiff : ∀ (i j : Nat) (o o' : Oper), l[i]? = some o → l[j]? = some o' → i ≠ j → o.dst ≠ o'.dst := fun i j o o' hi hj hij e => by
    have hi' := (List.getElem?_eq_some_iff.1 hi).1
    have hj' := (List.getElem?_eq_some_iff.1 hj).1
    have := (List.getElem_inj (h₀ := by simpa using hi') (h₁ := by simpa using hj') hnd).1 (by
      simp only [List.getElem_map]
      have e1 : l[i] = o := by rw [List.getElem?_eq_getElem hi'] at hi; injection hi
      have e2 : l[j] = o' := by rw [List.getElem?_eq_getElem hj'] at hj; injection hj
      rw [e1, e2, e])
    exact hij this
  have hall : ∀ (L : Nat → Bool), (∀ i o, l[i]? = some o → L i = true → ∀ j ∈ depsO o, L j = true) → L (l.length - 1) = true → ∀ i, i < l.length → L i = true := by
    intro L hc hl
    suffices H : ∀ k i, i < l.length → l.length - 1 - i ≤ k → L i = true from fun i hi => H _ i hi (Nat.le_refl _)
    intro k
    induction k with
    | zero => intro i hi hk; rw [show i = l.length - 1 by omega]; exact hl
    | succ k ih =>
      intro i hi hk
      by_cases e : i = l.length - 1
      · rw [e]; exact hl
      · have := List.all_eq_true.1 b4 i (List.mem_range.2 (by omega))
        obtain ⟨j, hj1, hj2⟩ := List.any_eq_true.1 this
        simp only [Bool.and_eq_true] at hj2
        obtain ⟨hj2, hj3⟩ := hj2
        have hij : i < j := by simpa using hj2
        have hjl := List.mem_range.1 hj1
        rw [List.getElem?_eq_getElem hjl] at hj3
        simp only at hj3
        have hLj := ih j hjl (by omega)
        exact hc j _ (List.getElem?_eq_getElem hjl) hLj i (by simpa using hj3)
  have hkeys : ∀ e ∈ bs, ∀ i o, i < l.length - 1 → l[i]? = some o → o.dst ≠ some e.1 := fun e he i o hi ho => by
    have := List.all_eq_true.1 b5 e.1 (List.mem_map_of_mem he)
    have := List.all_eq_true.1 this o (List.mem_iff_getElem?.2 ⟨i, by rw [List.getElem?_dropLast, if_pos hi]; exact ho⟩)
    simpa using this
  have hbs' := all_mem hbs
  have hsub : ∀ (L : Nat → Bool) (t' : Fm), (∀ i d v, acc[i]? = some (d, v) → L i = true → t' d = some v) → (∀ e ∈ bs, t' e.1 = some e.2) → ∀ (i : Nat) (A : List (Nat × Value)), (∀ e ∈ A, ∃ j, acc[j]? = some e ∧ L j = true) → ∀ s x, fr (A ++ bs) s = some x → t' s = some x := by
    intro L t' c2 c3 i A hA s x hx
    rcases List.mem_append.1 (fr_get hx) with hx | hx
    · obtain ⟨j, h1, h2⟩ := hA _ hx
      exact c2 j s x h1 h2
    · exact c3 (s, x) hx
  refine AW.anyI hP (fun L t' m' => (∀ i o, l[i]? = some o → L i = true → ∀ j ∈ depsO o, L j = true) ∧ ((L l'.length = false ∧ m' = m ∧ (∀ i d v, acc[i]? = some (d, v) → L i = true → t' d = some v) ∧ ∀ e ∈ bs, t' e.1 = some e.2) ∨ (L l'.length = true ∧ Q .normal t' m'))) b1
    ⟨fun i o _ h => (by cases h), .inl ⟨rfl, rfl, fun i d v _ h => (by cases h), fun e he => hbs' e he⟩⟩ ?_ ?_
  · rintro i o hi L t' m' ⟨c1, hor⟩ hLi hdeps
    have hil := (List.getElem?_eq_some_iff.1 hi).1
    have hLl : L l'.length = false := by
      cases e : L l'.length with
      | false => rfl
      | true => rw [hall L c1 (by rw [hll, Nat.add_sub_cancel]; exact e) i hil] at hLi; cases hLi
    rcases hor with ⟨_, rfl, c2, c3⟩ | ⟨hx, _⟩
    · have hback := List.all_eq_true.1 b1 i (List.mem_range.2 hil)
      rw [hi] at hback
      simp only at hback
      have hc1 : ∀ j o', l[j]? = some o' → upL L i j = true → ∀ k ∈ depsO o', upL L i k = true := fun j o' hj hLj k hk => by
        by_cases e : k = i
        · subst e; exact upL_same L k
        · rw [upL_ne L e]
          by_cases e' : j = i
          · subst e'
            rw [hi] at hj
            injection hj with hj
            subst hj
            exact hdeps k hk
          · rw [upL_ne L e'] at hLj
            exact c1 j o' hj hLj k hk
      rcases Nat.lt_or_ge i l'.length with hlt | hge
      · obtain ⟨d, v, q1, q2, q3⟩ := a3' i o (by rw [← hget i hlt]; exact hi)
        refine (Step.weakF (hsub L t' c2 c3 i _ fun e he => ?_) q2 q3).mono fun x m' hk => ?_
        · obtain ⟨j, hj, he⟩ := List.mem_map.1 he
          have hji : j < i := by simpa using List.all_eq_true.1 hback j hj
          have hja : j < acc.length := by omega
          refine ⟨j, ?_, hdeps j hj⟩
          have hlt : (acc.take i).length = i := by rw [List.length_take]; omega
          rw [List.getD_eq_getElem?_getD, List.getElem?_reverse (by omega), hlt, show i - 1 - (i - 1 - j) = j by omega, List.getElem?_take, if_pos hji, List.getElem?_eq_getElem hja] at he
          rw [List.getElem?_eq_getElem hja]
          simpa using he
        · rw [q2] at hk ⊢
          simp only [putO] at hk ⊢
          obtain ⟨k1, rfl⟩ := hk
          rw [k1]
          refine ⟨hc1, .inl ⟨by rw [upL_ne L (by omega)]; exact hLl, rfl, fun j d' v' hj hLj => ?_, fun e he => ?_⟩⟩
          · by_cases e : j = i
            · subst e
              rw [q1] at hj
              simp only [Option.some.injEq, Prod.mk.injEq] at hj
              obtain ⟨rfl, rfl⟩ := hj
              exact put_same ..
            · rw [upL_ne L e] at hLj
              have hjl : j < l'.length := by have := (List.getElem?_eq_some_iff.1 hj).1; omega
              obtain ⟨d2, v2, w1, w2, _⟩ := a3' j _ (List.getElem?_eq_getElem hjl)
              rw [hj] at w1
              simp only [Option.some.injEq, Prod.mk.injEq] at w1
              obtain ⟨rfl, rfl⟩ := w1
              rw [put_ne]
              · exact c2 j d' v' hj hLj
              · rintro rfl
                exact hdiff j i _ o (by rw [hget j hjl]; exact List.getElem?_eq_getElem hjl) hi e (w2.trans q2.symm)
          · rw [put_ne]
            · exact c3 e he
            · intro q
              exact hkeys e he i o (by omega) hi (by rw [q2, q])
      · obtain rfl : i = l'.length := by omega
        rw [hlast] at hi
        injection hi with hi
        subst hi
        have hallL : ∀ j, j < l'.length → L j = true := by
          have hup := hall (upL L l'.length) hc1 (by rw [hll, Nat.add_sub_cancel]; exact upL_same ..)
          intro j hj
          have := hup j (by omega)
          rwa [upL_ne L (by omega)] at this
        have hs' := hsub L t' c2 c3 0 acc.reverse fun e he => by
          obtain ⟨j, hj⟩ := List.mem_iff_getElem?.1 (List.mem_reverse.1 he)
          exact ⟨j, hj, hallL j (by have := (List.getElem?_eq_some_iff.1 hj).1; omega)⟩
        refine Step.weakK hs' (fun v m' hk => ?_) a2
        exact ⟨hc1, .inr ⟨upL_same .., hk _ (putO_sub hs' _ _)⟩⟩
    · rw [hLl] at hx; cases hx
  · rintro L t' m' hL ⟨c1, hor⟩
    rcases hor with ⟨h1, _⟩ | ⟨_, h1⟩
    · rw [hL _ (by omega)] at h1; cases h1
    · exact h1
end
def AWfL (P : Program) (nt : Nat) (m : AM) (ops : Array Oper) (bs : List (Nat × Value)) (K : Fm → AM → Prop) : List Oper → List (List Nat) → List (Nat × Value) → Prop
  | [], _, _ => False
  | [o], _, acc => Step P nt ops o (fr (acc ++ bs)) m K
  | o :: o' :: rest, D, acc => ∃ d v, o.dst = some d ∧ Step P nt ops o (fr (depL acc (D.headD []) ++ bs)) m (fun t' m' => t' d = some v ∧ m' = m) ∧ AWfL P nt m ops bs K (o' :: rest) D.tail ((d, v) :: acc)
section
variable {P : Program} {nt : Nat} {t : Fm} {m m0 : AM} {l : List Oper} {bs : List (Nat × Value)} {K : Fm → AM → Prop}
theorem AWfL.cons {ops : Array Oper} {o o' : Oper} {rest : List Oper} {dd : List Nat} {D : List (List Nat)} {acc : List (Nat × Value)} {d : Nat} {v : Value} (hd : o.dst = some d) (h : Step P nt ops o (fr (depL acc dd ++ bs)) m (fun t' m' => t' d = some v ∧ m' = m)) (hr : AWfL P nt m ops bs K (o' :: rest) D ((d, v) :: acc)) :
    AWfL P nt m ops bs K (o :: o' :: rest) (dd :: D) acc := ⟨d, v, hd, h, hr⟩
theorem AWfL.last {ops : Array Oper} {o : Oper} {D : List (List Nat)} {acc : List (Nat × Value)} (h : Step P nt ops o (fr (acc ++ bs)) m K) : AWfL P nt m ops bs K [o] D acc := h
theorem AWfL.split {ops : Array Oper} : ∀ {l : List Oper} {D : List (List Nat)} {acc : List (Nat × Value)}, AWfL P nt m ops bs K l D acc → ∃ l' last, l = l' ++ [last] ∧ AWf P nt m ops bs l' D acc (fun acc => Step P nt ops last (fr (acc ++ bs)) m K)
  | [], _, _, h => h.elim
  | [o], D, acc, h => ⟨[], o, rfl, h⟩
  | o :: o' :: rest, D, acc, h => by
    obtain ⟨d, v, hd, h1, h2⟩ := h
    obtain ⟨l', last, e, h3⟩ := AWfL.split h2
    exact ⟨o :: l', last, by rw [e]; rfl, d, v, hd, h1, h3⟩
theorem AW.flatM (hP : Fit P) {id : Nat} {Q : AEx → Fm → AM → Prop} (bs : List (Nat × Value)) (ks : List Nat) (D : List (List Nat)) (hbs : All (fun i v => t i = some v) bs) (hks : bs.map (·.1) = ks) (hb : flatLB l ks D = true)
    (h : AWfL P nt m l.toArray bs (fun t1 m' => ∀ t2, (∀ i v, t1 i = some v → t2 i = some v) → Q .normal t2 m') l D []) : AW P nt m0 (.region id l.toArray true) t m Q := by
  obtain ⟨l', last, e, h1⟩ := h.split
  exact AW.flatL hP bs ks D hbs hks e hb h1
end
/-- The call's own blocks are let go, the others may have been turned since. -/
theorem Gc.cut {t : Fm} {m0 M L : AM} {l : List (Nat × Value)} (hl : m0.length ≤ M.length) (hM : ∀ (j : Nat) (b : Blk), M[j]? = some (some b) → (j < m0.length ∧ m0[j]? = some (some b)) ∨ (isMapK b.kind = false ∧ ∀ v ∈ b.cells, Ren rid M.length v v)) (h : All (fun i v => t i = some v ∧ Ren rid M.length v v) l) : Gc m0 t (M ++ L) (fr l) M :=
  ⟨rid, hl, fun _ _ => rfl, fun _ _ _ _ _ _ e => e, fun j b hj => by
    rcases hM j b hj with ⟨h1, h2⟩ | ⟨h1, h2⟩
    · exact .inl ⟨h1, get_old L hj, h2⟩
    · exact .inr ⟨h1, b, get_old L hj, rfl, rfl, rfl, fun k v hk => ⟨v, hk, h2 v (List.mem_of_getElem? hk)⟩⟩, fun i v hi => by
    obtain ⟨h1, h2⟩ := fr_all h i v hi
    exact ⟨v, h1, h2⟩⟩
theorem Step.callVM {P : Program} {nt : Nat} {ops : Array Oper} {t : Fm} {m m' : AM} {K : Fm → AM → Prop} {d T : Nat} {p : String} {af : Array Edge} {x : Operand} {args : Array Operand} {tys : Array TypeId} {g : FuncId} {f c : Array Value} {vs : List Value} {fn : Func} {b : Code} {r : Value} (hP : Fit P) (hx : evo t x = some (.func (.func g) f c)) (ha : evL t args.toList = some vs) (hf : P.funcs[g]? = some fn) (hb : fn.body = some b)
    (hlt : Nat.blt d nt = true) (h : ACall P g (f ++ vs.toArray ++ c) m (Ret r m')) (hK : K (put t d r) m') : Step P nt ops ⟨some d, .call ⟨.value x, args, tys⟩, T, p, af, none⟩ t m K :=
  .call hP hx ha hf hb hlt h (by rintro v m1 ⟨rfl, rfl⟩; exact hK)
end Go.Proofs.YtedbjmgchfgabaaDoor.Abs
namespace Go.Proofs.YtedbjmgchfgabaaDoor.Abs
set_option linter.unusedSimpArgs false
set_option linter.unusedVariables false
open Go.RowKit
open Go.Proofs.YtedbjmgchfgabaaDoor.Sim
open Go.Proofs
/-- Numbers that a table may hold. -/
def Fair (v : List Int) : Prop := ∀ i, 0 ≤ v.getD i 0 ∧ v.getD i 0 ≤ 1000000000000
theorem mxc_fair {f : Nat → Int} (h : ∀ i, f i ≤ 2000000000000) : ∀ k, 0 ≤ mxc f k ∧ mxc f k ≤ 2000000000000
  | 0 => by simp [mxc]
  | k + 1 => by have := mxc_fair h k; have := h (k + 1); simp only [mxc]; omega
set_option maxHeartbeats 8000000 in
set_option maxRecDepth 100000 in
theorem cuts_ok {m : AM} {p : Nat} {vv : Value} {B : Brd} {K : List Kd} (hB : BoardAt m p B K) (hg : goodB B K = true) {r : R4} (hr : r.ok (bw B) (bh B)) (d : Bool) {v : List Int} (hv : Ints m vv v) (hl : v.length = total (bw B) (bh B)) (hf : Fair v) :
    ACall Tryd.prog 65 #[.pointer (some ⟨p, 0, none⟩), r.rc.v, .int .i64 (opI d), vv] m (Ret (.int .i64 (cutM (tg (bw B) (bh B) v) r d)) m) := by
  have hgb : boardB B = true := by simp only [goodB, Bool.and_eq_true] at hg; exact hg.1
  have hin := good_in hgb
  have hp := hB.lt
  have tw := hB.w
  have th := hB.h
  have hrl := hr
  simp only [R4.ok] at hrl
  obtain ⟨A, O, sl, la, rd⟩ := hv
  obtain ⟨q', c', rfl⟩ := sl.shape
  have wl : Low m.length (.slice q' v.length c') := Low.of_sl sl la
  have hlen := len_pos d hr
  have hlen2 := len_le d hin.2.2.2 hin.2.1 hr
  have hL := fun m => length_ok (m := m) r d
  obtain ⟨n, hn⟩ : ∃ n, r.len d = n := ⟨_, rfl⟩
  have hN := fun T (r' : R4) (h : r'.ok (bw B) (bh B)) => num_ok (m := m ++ T) hin.2.2.2 hin.2.1 h
  have hat := fun (r' : R4) (h : r'.ok (bw B) (bh B)) => at_lt hin.2.2.2 hin.2.1 h
  have hP := fun m i h1 h2 => part_ok (m := m) r d (i := i) h1 h2 (by omega)
  rw [← hl] at hat
  have r0 : ∀ T : AM, RdL (m ++ (some { cells := r.rc.cells } :: T)) (m.length + 0) 0 r.rc.cells := fun T => RdL.new rfl rfl
  have hcut : cutM (tg (bw B) (bh B) v) r d = mxc (fun i => tg (bw B) (bh B) v (r.lo d i) + tg (bw B) (bh B) v (r.hi d i)) (n - 1) := by rw [← hn]; rfl
  rw [hcut]
  have hmf := mxc_fair (f := fun i => tg (bw B) (bh B) v (r.lo d i) + tg (bw B) (bh B) v (r.hi d i)) (fun i => by have h1 := hf ((r.lo d i).at (bw B) (bh B)); have h2 := hf ((r.hi d i).at (bw B) (bh B)); unfold tg; omega)
  generalize hF : (fun i => tg (bw B) (bh B) v (r.lo d i) + tg (bw B) (bh B) v (r.hi d i)) = F at hmf ⊢
  rw [hn] at hlen hlen2 hL
  clear hcut
  change ∀ m, ACall Tryd.prog 53 #[.agg r.rc.cells.toArray, .int .i64 (opI d)] m _ at hL
  change ∀ m i, 1 ≤ i → i + 1 ≤ r.len d → ACall Tryd.prog 54 #[.agg r.rc.cells.toArray, .int .i64 (opI d), .int .i64 (i : Nat)] m _ at hP
  have hg0 : ∀ v ∈ r.rc.cells, g0 v = true := fun v hv => by
    simp [Rc.cells] at hv
    rcases hv with rfl | rfl | rfl | rfl <;> rfl
  refine ACall.start Tryd.func65 rfl rfl ?_
  (repeat (first | (with_reducible refine AWo.cons ?_) | ((with_reducible refine Step.id ?_); first | ((with_reducible apply Step.assign); exact rfl; exact rfl) | ((with_reducible apply Step.box 0); exact rfl; exact rfl; (focus (kernel_rfl)); exact rfl; (focus (first | (simp only [List.nil_append, List.cons_append, List.set_cons_zero, List.set_cons_succ, iv_set, bv_set, iv_rep, bv_rep]; done) | (simp only [List.nil_append, List.cons_append, List.set_cons_zero, List.set_cons_succ, iv_set, bv_set, iv_rep, bv_rep]; rfl) | rfl)))) | (with_reducible refine AWo.nil ?_) | ((with_reducible apply AW.seq)) | ((with_reducible apply Then.n)) | ((with_reducible apply AW.regL)) | ((with_reducible apply AW.block))))
  refine AW.loopT (fun rk t L => ∃ i : Nat, rk = n - i ∧ 1 ≤ i ∧ i ≤ n ∧ L = [some { cells := r.rc.cells }] ∧
    t = [(0, .pointer (some ⟨p, 0, none⟩)), (2, .int .i64 (opI d)), (3, .slice q' v.length c'), (5, .pointer (some ⟨m.length + 0, 0, none⟩)), (9, .int .i64 (mxc F (i - 1))), (10, .int .i64 (i : Nat))])
    ⟨_, _, _, (Or.inl ⟨rfl, (by repeat (first | exact trivial | (refine And.intro rfl ?_)))⟩), 1, rfl, Nat.le_refl _, by omega, rfl, rfl⟩ ?_
  rintro rk t L ⟨i, rfl, hi1, hi, rfl, rfl⟩
  rcases Nat.lt_or_ge i n with hlt | hge
  · have o1 := lo_ok (d := d) (i := i) hr hi1 (by omega)
    have o2 := hi_ok (d := d) (i := i) hr hi1 (by omega)
    have d1 := rd _ (hat _ o1)
    have d2 := rd _ (hat _ o2)
    have x1 := hat _ o1
    have x2 := hat _ o2
    have n1 := fun T => hN T _ o1
    have n2 := fun T => hN T _ o2
    have f1 := hf ((r.lo d i).at (bw B) (bh B))
    have f2 := hf ((r.hi d i).at (bw B) (bh B))
    have hPi := fun m => hP m i hi1 (by omega)
    have eF : F i = v.getD ((r.lo d i).at (bw B) (bh B)) 0 + v.getD ((r.hi d i).at (bw B) (bh B)) 0 := by rw [← hF]; rfl
    obtain ⟨k, rfl⟩ : ∃ k, i = k + 1 := ⟨i - 1, by omega⟩
    have hb := hmf k
    have eM : mxc F (k + 1) = max (mxc F k) (F (k + 1)) := rfl
    rw [Nat.add_sub_cancel]
    change ∀ T, ACall Tryd.prog 36 #[.int .i64 (bw B : Nat), .int .i64 (bh B : Nat), .agg (r.lo d (k + 1)).rc.cells.toArray] (m ++ T) _ at n1
    change ∀ T, ACall Tryd.prog 36 #[.int .i64 (bw B : Nat), .int .i64 (bh B : Nat), .agg (r.hi d (k + 1)).rc.cells.toArray] (m ++ T) _ at n2
    change ∀ m, ACall Tryd.prog 54 _ m (Ret (.tuple #[.agg (r.lo d (k + 1)).rc.cells.toArray, .agg (r.hi d (k + 1)).rc.cells.toArray]) m) at hPi
    generalize (r.lo d (k + 1)).at (bw B) (bh B) = s1 at *
    generalize (r.hi d (k + 1)).at (bw B) (bh B) = s2 at *
    generalize (r.lo d (k + 1)).rc = g1 at *
    generalize (r.hi d (k + 1)).rc = g2 at *
    have r1 : ∀ b0 (T : AM), RdL (m ++ (b0 :: some { cells := g1.cells } :: T)) (m.length + 1) 0 g1.cells := fun b0 T => RdL.new rfl rfl
    have r2 : ∀ b0 b1 (T : AM), RdL (m ++ (b0 :: b1 :: some { cells := g2.cells } :: T)) (m.length + 2) 0 g2.cells := fun b0 b1 T => RdL.new rfl rfl
    (repeat (first | (with_reducible refine AWo.cons ?_) | ((with_reducible refine Step.id ?_); first | ((with_reducible apply Step.move); exact rfl; exact rfl) | ((with_reducible apply Step.loadL (n := 4)); exact rfl; (focus (decide +kernel)); (focus (decide +kernel)); exact rfl; (focus (exact RdL.new rfl rfl)); exact rfl; exact rfl) | ((with_reducible apply Step.lss); exact rfl; exact rfl; exact rfl) | ((with_reducible apply Step.extract); exact rfl; exact rfl; exact rfl) | ((with_reducible apply Step.callR fit); exact rfl; exact Tryd.func53; exact rfl; exact rfl; exact (hL _)) | ((with_reducible apply Step.callR fit); exact rfl; exact Tryd.func54; exact rfl; exact rfl; exact (hPi _)) | ((with_reducible apply Step.alloc 1); exact rfl; exact ze23; exact rfl; (focus (first | (simp only [List.nil_append, List.cons_append, List.set_cons_zero, List.set_cons_succ, iv_set, bv_set, iv_rep, bv_rep]; done) | (simp only [List.nil_append, List.cons_append, List.set_cons_zero, List.set_cons_succ, iv_set, bv_set, iv_rep, bv_rep]; rfl) | rfl))) | ((with_reducible apply Step.storeA (k := 1) (n := 4)); exact rfl; exact rfl; exact rfl; exact rfl; (focus (decide +kernel)); exact rfl; (focus (kernel_rfl)); exact rfl; (focus (first | (simp only [List.nil_append, List.cons_append, List.set_cons_zero, List.set_cons_succ, iv_set, bv_set, iv_rep, bv_rep]; done) | (simp only [List.nil_append, List.cons_append, List.set_cons_zero, List.set_cons_succ, iv_set, bv_set, iv_rep, bv_rep]; rfl) | rfl))) | ((with_reducible apply Step.alloc 2); exact rfl; exact ze23; exact rfl; (focus (first | (simp only [List.nil_append, List.cons_append, List.set_cons_zero, List.set_cons_succ, iv_set, bv_set, iv_rep, bv_rep]; done) | (simp only [List.nil_append, List.cons_append, List.set_cons_zero, List.set_cons_succ, iv_set, bv_set, iv_rep, bv_rep]; rfl) | rfl))) | ((with_reducible apply Step.storeA (k := 2) (n := 4)); exact rfl; exact rfl; exact rfl; exact rfl; (focus (decide +kernel)); exact rfl; (focus (kernel_rfl)); exact rfl; (focus (first | (simp only [List.nil_append, List.cons_append, List.set_cons_zero, List.set_cons_succ, iv_set, bv_set, iv_rep, bv_rep]; done) | (simp only [List.nil_append, List.cons_append, List.set_cons_zero, List.set_cons_succ, iv_set, bv_set, iv_rep, bv_rep]; rfl) | rfl)))) | (with_reducible refine AWo.nil ?_) | ((with_reducible apply AW.seq)) | ((with_reducible apply Then.n)) | ((fail_if_success (with_reducible refine AW.atL (id := 6) ?_)); ((with_reducible apply AW.regL))) | ((with_reducible apply AW.block)) | ((with_reducible apply AW.skip)) | ((with_reducible apply AW.condT); exact rfl; (focus ((simp only [decide_eq_true_eq, decide_eq_false_iff_not, Bool.not_eq_true', Bool.not_eq_false', Bool.not_true, Bool.not_false]; first | assumption | omega))))))
    refine AW.flat fit [(0, .pointer (some ⟨p, 0, none⟩)), (2, .int .i64 (opI d)), (3, .slice q' v.length c'), (5, .pointer (some ⟨m.length + 0, 0, none⟩)), (9, .int .i64 (mxc F k)), (10, .int .i64 (k + 1 : Nat)), (11, .pointer (some ⟨m.length + 1, 0, none⟩)), (12, .pointer (some ⟨m.length + 2, 0, none⟩))]
      [(0, .pointer (some ⟨p, 0, none⟩)), (2, .int .i64 (opI d)), (3, .slice q' v.length c'), (5, .pointer (some ⟨m.length + 0, 0, none⟩)), (9, .int .i64 (max (mxc F k) (v.getD s1 0 + v.getD s2 0))), (10, .int .i64 (k + 1 : Nat))] [0, 2, 3, 5, 9, 10, 11, 12] [[], [], [], [0], [0], [0], [], [0], [0], [0], [], [5, 1, 0], [10, 0], [0], [], [], [0], [0], [0], [], [0], [0], [0], [], [5, 1, 0, 12], [10, 0], [0], [13, 0], [27, 0], [0, 4, 28, 27, 26, 25, 24, 23, 22, 21, 20, 19, 18, 17, 16, 15, 14, 13, 12, 11, 10, 9, 8, 7, 6, 5, 4, 3, 2, 1, 0]] (by repeat (first | exact trivial | (refine And.intro rfl ?_))) rfl (by decide +kernel) ?_ ?_
    · (repeat (first | ((with_reducible refine Step.id ?_); first | ((with_reducible apply Step.move); exact rfl; exact rfl) | ((with_reducible apply Step.assign); exact rfl; exact rfl) | ((with_reducible apply Step.load); exact rfl; (focus (decide +kernel)); exact rfl; (focus (exact Rd.old _ (by assumption)))) | ((with_reducible apply Step.loadL (n := 4)); exact rfl; (focus (decide +kernel)); (focus (decide +kernel)); exact rfl; (focus (exact RdL.new rfl rfl)); exact rfl; exact rfl) | ((with_reducible apply Step.ix1); exact rfl; (focus (assumption)); exact rfl; (focus (decide +kernel)); exact rfl; (focus (omega))) | ((with_reducible apply Step.field (k := 2)); exact rfl; (focus (decide +kernel)); exact rfl) | ((with_reducible apply Step.field (k := 3)); exact rfl; (focus (decide +kernel)); exact rfl) | ((with_reducible apply Step.add); exact rfl; exact rfl; (focus (omega)); exact rfl) | ((with_reducible apply Step.max); exact rfl; exact rfl; exact rfl) | ((with_reducible apply Step.nilp); exact rfl; exact rfl) | ((with_reducible apply Step.callR fit); exact rfl; exact Tryd.func36; exact rfl; exact rfl; exact (n1 _)) | ((with_reducible apply Step.callR fit); exact rfl; exact Tryd.func36; exact rfl; exact rfl; exact (n2 _))) | (apply AWf.cons; exact rfl) | exact ⟨put_same _ _ _, rfl⟩ | ((with_reducible apply AWf.nil))))
      exact (by repeat (first | exact trivial | (refine And.intro rfl ?_)))
    intro t' ht'
    refine InBlk.n ?_
    refine Then.n ?_
    refine AW.weak ht' ?_
    (repeat (first | (with_reducible refine AWo.cons ?_) | ((with_reducible refine Step.id ?_); first | ((with_reducible apply Step.move); exact rfl; exact rfl) | ((with_reducible apply Step.assign); exact rfl; exact rfl) | ((with_reducible apply Step.add); exact rfl; exact rfl; (focus (omega)); exact rfl)) | (with_reducible refine AWo.nil ?_) | ((with_reducible apply Then.n)) | ((with_reducible apply AW.regL))))
    exact ⟨_, [(0, .pointer (some ⟨p, 0, none⟩)), (2, .int .i64 (opI d)), (3, .slice q' v.length c'), (5, .pointer (some ⟨m.length + 0, 0, none⟩)), (9, .int .i64 (max (mxc F k) (v.getD s1 0 + v.getD s2 0))), (10, .int .i64 (k + 1 + 1 : Nat))], [some { cells := r.rc.cells }], by omega, (Back.trim rfl rfl (by repeat (first | exact CellsOk.nil | refine CellsOk.cons (by assumption) ?_)) (by repeat (first | exact trivial | (refine And.intro ⟨rfl, by (first | exact Low.rid (by assumption) (by simp) | exact .int _ _ | exact .ptr _ _ (by first | (simp; done) | omega | (simp; omega)))⟩ ?_)))), k + 1 + 1, rfl, by omega, by omega, rfl, by rw [Nat.add_sub_cancel, eM, eF]⟩
  · obtain rfl : i = n := by omega
    (repeat (first | (with_reducible refine AWo.cons ?_) | ((with_reducible refine Step.id ?_); first | ((with_reducible apply Step.move); exact rfl; exact rfl) | ((with_reducible apply Step.assign); exact rfl; exact rfl) | ((with_reducible apply Step.loadL (n := 4)); exact rfl; (focus (decide +kernel)); (focus (decide +kernel)); exact rfl; (focus (exact RdL.new rfl rfl)); exact rfl; exact rfl) | ((with_reducible apply Step.lss); exact rfl; exact rfl; exact rfl) | ((with_reducible apply Step.callR fit); exact rfl; exact Tryd.func53; exact rfl; exact rfl; exact (hL _))) | (with_reducible refine AWo.nil ?_) | ((with_reducible apply AW.seq)) | ((with_reducible apply Then.n)) | ((with_reducible apply AW.regL)) | ((with_reducible apply AW.exit)) | ((with_reducible apply InBlk.hit)) | ((with_reducible apply Then.e)) | ((with_reducible apply AW.condF); exact rfl; (focus ((simp only [decide_eq_true_eq, decide_eq_false_iff_not, Bool.not_eq_true', Bool.not_eq_false', Bool.not_true, Bool.not_false]; first | assumption | omega))))))
    (refine AW.retD (l := [(8, _)]) (by repeat (first | exact trivial | (refine And.intro ⟨rfl, by (exact .int _ _)⟩ ?_))) ?_; (repeat (first | refine Then.r ?_ | refine InBlk.r ?_)))
    exact ⟨_, rfl, rfl, rfl⟩
end Go.Proofs.YtedbjmgchfgabaaDoor.Abs
namespace Go.Proofs.YtedbjmgchfgabaaDoor.Abs
set_option linter.unusedSimpArgs false
set_option linter.unusedVariables false
open Go.RowKit
open Go.Proofs.YtedbjmgchfgabaaDoor.Sim
open Go.Proofs
theorem bl23 {a b c d : Int} : abuild Tryd.prog 47 [(0, .int .i64 a), (1, .int .i64 b), (2, .int .i64 c), (3, .int .i64 d)] = some (.agg #[.int .i64 a, .int .i64 b, .int .i64 c, .int .i64 d]) := by kernel_rfl
set_option maxHeartbeats 8000000 in
set_option maxRecDepth 100000 in
theorem each_ok {S : Type} {m0 : AM} (Mm : S → AM) (step : R4 → S → S) (I : (R4 → Prop) → S → Prop) {p : Nat} {B : Brd} {K : List Kd} {F : FuncId} {fn : Func} {b : Code} {caps : Array Value} (hf : Tryd.prog.funcs[F]? = some fn) (hb : fn.body = some b)
    (hB : ∀ s, BoardAt (Mm s) p B K) (hg : goodB B K = true) (hE : EachI step (bw B) (bh B) I)
    (hF : ∀ i j y x s T, i < bw B → j < bh B → y + (j + 1) ≤ bh B → x + (i + 1) ≤ bw B → I (done (bw B) (bh B) i j y x) s →
      ACall Tryd.prog F (#[(R4.mk x y (i + 1) (j + 1)).rc.v, .int .i64 ((R4.mk x y (i + 1) (j + 1)).at (bw B) (bh B) : Nat)] ++ caps) (Mm s ++ T) (Ret (.tuple #[]) (Mm (step ⟨x, y, i + 1, j + 1⟩ s) ++ T)))
    (hlen : ∀ s, (Mm s).length = m0.length) (hG : ∀ s s' j b, (Mm s')[j]? = some (some b) → (j < (Mm s).length ∧ (Mm s)[j]? = some (some b)) ∨ (isMapK b.kind = false ∧ ∀ v ∈ b.cells, Ren rid m0.length v v))
    (hlow : Low m0.length (.func (.func F) #[] caps)) (s0 : S) (hs0 : I (fun _ => False) s0) :
    ACall Tryd.prog 50 #[.pointer (some ⟨p, 0, none⟩), .func (.func F) #[] caps] (Mm s0) (Ret (.tuple #[]) (Mm (fW step (bw B) (bh B) (bw B) s0))) := by
  have hgb : boardB B = true := by simp only [goodB, Bool.and_eq_true] at hg; exact hg.1
  have hin := good_in hgb
  have hp : p < m0.length := by rw [← hlen s0]; exact (hB s0).lt
  have wp : Low m0.length (.pointer (some ⟨p, 0, none⟩)) := Low.ptr hp
  have tw := fun s => (hB s).w
  have th := fun s => (hB s).h
  have hs : I (done (bw B) (bh B) 0 0 0 0) s0 := by rw [done_start]; exact hs0
  generalize hw : bw B = w at *
  generalize hh : bh B = h at *
  refine ACall.start Tryd.func50 rfl rfl ?_
  (repeat (first | (with_reducible refine AWo.cons ?_) | ((with_reducible refine Step.id ?_); ((with_reducible apply Step.assign); exact rfl; exact rfl)) | (with_reducible refine AWo.nil ?_) | ((with_reducible apply AW.seq)) | ((with_reducible apply Then.n)) | ((with_reducible apply AW.regL)) | ((with_reducible apply AW.block))))
  refine AW.loopW (fun n t M => ∃ i : Nat, n = w - i ∧ i ≤ w ∧ M = Mm (fW step w h i s0) ∧ t = fr [(0, .pointer (some ⟨p, 0, none⟩)), (1, .func (.func F) #[] caps), (4, .int .i64 (i + 1 : Nat))])
    ⟨_, _, (by repeat (first | exact trivial | (refine And.intro rfl ?_))), 0, rfl, Nat.zero_le _, by rw [List.append_nil]; rfl, rfl⟩ ?_
  rintro n t M ⟨i, rfl, hi, rfl, rfl⟩
  have H1 := hE.fw hs i hi
  rcases Nat.lt_or_ge i w with hiw | hiw
  · (repeat (first | (with_reducible refine AWo.cons ?_) | ((with_reducible refine Step.id ?_); first | ((with_reducible apply Step.move); exact rfl; exact rfl) | ((with_reducible apply Step.assign); exact rfl; exact rfl) | ((with_reducible apply Step.load); exact rfl; (focus (decide +kernel)); exact rfl; (focus (exact tw _))) | ((with_reducible apply Step.field (k := 2)); exact rfl; (focus (decide +kernel)); exact rfl) | ((with_reducible apply Step.leq); exact rfl; exact rfl; exact rfl) | ((with_reducible apply Step.nilp); exact rfl; exact rfl)) | (with_reducible refine AWo.nil ?_) | ((with_reducible apply AW.seq)) | ((with_reducible apply Then.n)) | ((with_reducible apply AW.regL)) | ((with_reducible apply AW.block)) | ((with_reducible apply AW.skip)) | ((with_reducible apply AW.condT); exact rfl; (focus ((simp only [decide_eq_true_eq, decide_eq_false_iff_not, Bool.not_eq_true', Bool.not_eq_false', Bool.not_true, Bool.not_false]; first | assumption | omega))))))
    refine AW.loopW (fun n t M => ∃ j : Nat, n = h - j ∧ j ≤ h ∧ M = Mm (fH step w h (i + 1) j (fW step w h i s0)) ∧ t = fr [(0, .pointer (some ⟨p, 0, none⟩)), (1, .func (.func F) #[] caps), (4, .int .i64 (i + 1 : Nat)), (5, .int .i64 (j + 1 : Nat))])
      ⟨_, _, (by repeat (first | exact trivial | (refine And.intro rfl ?_))), 0, rfl, Nat.zero_le _, rfl, rfl⟩ ?_
    rintro n t M ⟨j, rfl, hj, rfl, rfl⟩
    have H2 := hE.fh hiw H1 j hj
    rcases Nat.lt_or_ge j h with hjh | hjh
    · (repeat (first | (with_reducible refine AWo.cons ?_) | ((with_reducible refine Step.id ?_); first | ((with_reducible apply Step.move); exact rfl; exact rfl) | ((with_reducible apply Step.assign); exact rfl; exact rfl) | ((with_reducible apply Step.load); exact rfl; (focus (decide +kernel)); exact rfl; (focus (exact th _))) | ((with_reducible apply Step.field (k := 3)); exact rfl; (focus (decide +kernel)); exact rfl) | ((with_reducible apply Step.leq); exact rfl; exact rfl; exact rfl) | ((with_reducible apply Step.nilp); exact rfl; exact rfl)) | (with_reducible refine AWo.nil ?_) | ((with_reducible apply AW.seq)) | ((with_reducible apply Then.n)) | ((with_reducible apply AW.regL)) | ((with_reducible apply AW.block)) | ((with_reducible apply AW.skip)) | ((with_reducible apply AW.condT); exact rfl; (focus ((simp only [decide_eq_true_eq, decide_eq_false_iff_not, Bool.not_eq_true', Bool.not_eq_false', Bool.not_true, Bool.not_false]; first | assumption | omega))))))
      refine AW.loopW (fun n t M => ∃ y : Nat, n = h - j - y ∧ y ≤ h - j ∧ M = Mm (fY step w (i + 1) (j + 1) y (fH step w h (i + 1) j (fW step w h i s0))) ∧ t = fr [(0, .pointer (some ⟨p, 0, none⟩)), (1, .func (.func F) #[] caps), (4, .int .i64 (i + 1 : Nat)), (5, .int .i64 (j + 1 : Nat)), (6, .int .i64 (y : Nat))])
        ⟨_, _, (by repeat (first | exact trivial | (refine And.intro rfl ?_))), 0, rfl, Nat.zero_le _, rfl, rfl⟩ ?_
      rintro n t M ⟨y, rfl, hy, rfl, rfl⟩
      have H3 := hE.fy hiw hjh H2 y hy
      have e1 : (y : Int) + ((j + 1 : Nat) : Int) = ((y + (j + 1) : Nat) : Int) := by omega
      rcases Nat.lt_or_ge y (h - j) with hyh | hyh
      · (repeat (first | (with_reducible refine AWo.cons ?_) | ((with_reducible refine Step.id ?_); first | ((with_reducible apply Step.move); exact rfl; exact rfl) | ((with_reducible apply Step.assign); exact rfl; exact rfl) | ((with_reducible apply Step.load); exact rfl; (focus (decide +kernel)); exact rfl; (focus (exact th _))) | ((with_reducible apply Step.field (k := 3)); exact rfl; (focus (decide +kernel)); exact rfl) | ((with_reducible apply Step.addE); exact rfl; exact rfl; (focus (assumption)); (focus (omega)); exact rfl) | ((with_reducible apply Step.leq); exact rfl; exact rfl; exact rfl) | ((with_reducible apply Step.nilp); exact rfl; exact rfl)) | (with_reducible refine AWo.nil ?_) | ((with_reducible apply AW.seq)) | ((with_reducible apply Then.n)) | ((with_reducible apply AW.regL)) | ((with_reducible apply AW.block)) | ((with_reducible apply AW.skip)) | ((with_reducible apply AW.condT); exact rfl; (focus ((simp only [decide_eq_true_eq, decide_eq_false_iff_not, Bool.not_eq_true', Bool.not_eq_false', Bool.not_true, Bool.not_false]; first | assumption | omega))))))
        refine AW.loopW (fun n t M => ∃ x : Nat, n = w - i - x ∧ x ≤ w - i ∧ M = Mm (fX step y (i + 1) (j + 1) x (fY step w (i + 1) (j + 1) y (fH step w h (i + 1) j (fW step w h i s0)))) ∧ t = fr [(0, .pointer (some ⟨p, 0, none⟩)), (1, .func (.func F) #[] caps), (4, .int .i64 (i + 1 : Nat)), (5, .int .i64 (j + 1 : Nat)), (6, .int .i64 (y : Nat)), (7, .int .i64 (x : Nat))])
          ⟨_, _, (by repeat (first | exact trivial | (refine And.intro rfl ?_))), 0, rfl, Nat.zero_le _, rfl, rfl⟩ ?_
        rintro n t M ⟨x, rfl, hx, rfl, rfl⟩
        have e2 : (x : Int) + ((i + 1 : Nat) : Int) = ((x + (i + 1) : Nat) : Int) := by omega
        rcases Nat.lt_or_ge x (w - i) with hxw | hxw
        · have H4 := hE.fx hiw hjh (by omega) H3 x (by omega)
          have hFi := fun T => hF i j y x _ T hiw hjh (by omega) (by omega) H4
          have hN := fun T => num_ok (m := T) (w := w) (h := h) (r := ⟨x, y, i + 1, j + 1⟩) (by omega) (by omega) (step_ok hiw hjh (by omega) (by omega))
          have hst : fX step y (i + 1) (j + 1) (x + 1) (fY step w (i + 1) (j + 1) y (fH step w h (i + 1) j (fW step w h i s0))) = step ⟨x, y, i + 1, j + 1⟩ (fX step y (i + 1) (j + 1) x (fY step w (i + 1) (j + 1) y (fH step w h (i + 1) j (fW step w h i s0)))) := rfl
          generalize fX step y (i + 1) (j + 1) x (fY step w (i + 1) (j + 1) y (fH step w h (i + 1) j (fW step w h i s0))) = s at *
          have twi := tw s
          have thi := th s
          refine AW.rebase ?_
          have hlm := hlen s
          change ∀ T, ACall Tryd.prog F (#[.agg ([.int .i64 (x : Nat), .int .i64 (y : Nat), .int .i64 (i + 1 : Nat), .int .i64 (j + 1 : Nat)] : List Value).toArray, .int .i64 ((R4.mk x y (i + 1) (j + 1)).at w h : Nat)] ++ caps) (Mm s ++ T) _ at hFi
          change ∀ T, ACall Tryd.prog 36 #[.int .i64 (w : Nat), .int .i64 (h : Nat), .agg ([.int .i64 (x : Nat), .int .i64 (y : Nat), .int .i64 (i + 1 : Nat), .int .i64 (j + 1 : Nat)] : List Value).toArray] T _ at hN
          have r8 : ∀ T : AM, RdL (Mm s ++ (some { cells := [.int .i64 (x : Nat), .int .i64 (y : Nat), .int .i64 (i + 1 : Nat), .int .i64 (j + 1 : Nat)] } :: T)) ((Mm s).length + 0) 0 [.int .i64 (x : Nat), .int .i64 (y : Nat), .int .i64 (i + 1 : Nat), .int .i64 (j + 1 : Nat)] := fun T => RdL.new rfl rfl
          (repeat (first | (with_reducible refine AWo.cons ?_) | ((with_reducible refine Step.id ?_); first | ((with_reducible apply Step.move); exact rfl; exact rfl) | ((with_reducible apply Step.load); exact rfl; (focus (decide +kernel)); exact rfl; (focus (exact Rd.old _ (by assumption)))) | ((with_reducible apply Step.field (k := 2)); exact rfl; (focus (decide +kernel)); exact rfl) | ((with_reducible apply Step.addE); exact rfl; exact rfl; (focus (assumption)); (focus (omega)); exact rfl) | ((with_reducible apply Step.leq); exact rfl; exact rfl; exact rfl) | ((with_reducible apply Step.nilp); exact rfl; exact rfl) | ((with_reducible apply Step.alloc 0); exact rfl; exact ze23; exact rfl; (focus (first | (simp only [List.nil_append, List.cons_append, List.set_cons_zero, List.set_cons_succ, iv_set, bv_set, iv_rep, bv_rep]; done) | (simp only [List.nil_append, List.cons_append, List.set_cons_zero, List.set_cons_succ, iv_set, bv_set, iv_rep, bv_rep]; rfl) | rfl))) | ((with_reducible apply Step.storeA (k := 0) (n := 4)); exact rfl; exact rfl; exact rfl; exact rfl; (focus (decide +kernel)); exact rfl; (focus (kernel_rfl)); exact rfl; (focus (first | (simp only [List.nil_append, List.cons_append, List.set_cons_zero, List.set_cons_succ, iv_set, bv_set, iv_rep, bv_rep]; done) | (simp only [List.nil_append, List.cons_append, List.set_cons_zero, List.set_cons_succ, iv_set, bv_set, iv_rep, bv_rep]; rfl) | rfl))) | ((with_reducible apply Step.build); exact rfl; exact bl23; exact rfl)) | (with_reducible refine AWo.nil ?_) | ((with_reducible apply AW.seq)) | ((with_reducible apply Then.n)) | ((fail_if_success (with_reducible refine AW.atL (id := 13) ?_)); ((with_reducible apply AW.regL))) | ((with_reducible apply AW.block)) | ((with_reducible apply AW.skip)) | ((with_reducible apply AW.condT); exact rfl; (focus ((simp only [decide_eq_true_eq, decide_eq_false_iff_not, Bool.not_eq_true', Bool.not_eq_false', Bool.not_true, Bool.not_false]; first | assumption | omega))))))
          refine AW.flatM fit [(0, .pointer (some ⟨p, 0, none⟩)), (1, .func (.func F) #[] caps), (4, .int .i64 (i + 1 : Nat)), (5, .int .i64 (j + 1 : Nat)), (6, .int .i64 (y : Nat)), (7, .int .i64 (x : Nat)), (8, .pointer (some ⟨(Mm s).length + 0, 0, none⟩))] [0, 1, 4, 5, 6, 7, 8] [[], [], [], [0], [0], [0], [], [0], [0], [0], [], [5, 1, 0], [11, 10, 0, 0]] (by repeat (first | exact trivial | (refine And.intro rfl ?_))) rfl (by decide +kernel) ?_
          (repeat (first | ((with_reducible refine Step.id ?_); first | ((with_reducible apply Step.move); exact rfl; exact rfl) | ((with_reducible apply Step.load); exact rfl; (focus (decide +kernel)); exact rfl; (focus (exact Rd.old _ (by assumption)))) | ((with_reducible apply Step.loadL (n := 4)); exact rfl; (focus (decide +kernel)); (focus (decide +kernel)); exact rfl; (focus (exact RdL.new rfl rfl)); exact rfl; exact rfl) | ((with_reducible apply Step.field (k := 2)); exact rfl; (focus (decide +kernel)); exact rfl) | ((with_reducible apply Step.field (k := 3)); exact rfl; (focus (decide +kernel)); exact rfl) | ((with_reducible apply Step.nilp); exact rfl; exact rfl) | ((with_reducible apply Step.callR fit); exact rfl; exact Tryd.func36; exact rfl; exact rfl; exact (hN _))) | (apply AWfL.cons; exact rfl) | ((with_reducible apply AWfL.last)) | exact ⟨put_same _ _ _, rfl⟩))
          ((with_reducible apply Step.callVM fit); exact rfl; exact rfl; exact hf; exact hb; exact rfl; exact (hFi _))
          have hls := hlen (step ⟨x, y, i + 1, j + 1⟩ s)
          intro t2 ht2
          refine InBlk.n ?_
          refine Then.n ?_
          refine AW.weak ht2 ?_
          refine AW.gc (Gc.cut (l := [(0, .pointer (some ⟨p, 0, none⟩)), (1, .func (.func F) #[] caps), (4, .int .i64 (i + 1 : Nat)), (5, .int .i64 (j + 1 : Nat)), (6, .int .i64 (y : Nat)), (7, .int .i64 (x : Nat))]) (by rw [hlm, hls]; exact Nat.le_refl _) (by intro j b hj; rw [hls]; exact hG s _ j b hj) (by rw [hls]; exact (by repeat (first | exact trivial | (refine And.intro ⟨rfl, by (first | exact Low.rid (by assumption) (by simp) | exact .int _ _)⟩ ?_))))) ?_
          (repeat (first | (with_reducible refine AWo.cons ?_) | ((with_reducible refine Step.id ?_); first | ((with_reducible apply Step.move); exact rfl; exact rfl) | ((with_reducible apply Step.assign); exact rfl; exact rfl) | ((with_reducible apply Step.add); exact rfl; exact rfl; (focus (omega)); exact rfl)) | (with_reducible refine AWo.nil ?_) | ((with_reducible apply Then.n)) | ((with_reducible apply AW.regL))))
          exact ⟨_, _, by omega, (by repeat (first | exact trivial | (refine And.intro rfl ?_))), x + 1, rfl, by omega, by rw [hst], rfl⟩
        · obtain rfl : x = w - i := by omega
          (repeat (first | (with_reducible refine AWo.cons ?_) | ((with_reducible refine Step.id ?_); first | ((with_reducible apply Step.move); exact rfl; exact rfl) | ((with_reducible apply Step.assign); exact rfl; exact rfl) | ((with_reducible apply Step.load); exact rfl; (focus (decide +kernel)); exact rfl; (focus (exact tw _))) | ((with_reducible apply Step.field (k := 2)); exact rfl; (focus (decide +kernel)); exact rfl) | ((with_reducible apply Step.addE); exact rfl; exact rfl; (focus (assumption)); (focus (omega)); exact rfl) | ((with_reducible apply Step.add); exact rfl; exact rfl; (focus (omega)); exact rfl) | ((with_reducible apply Step.leq); exact rfl; exact rfl; exact rfl) | ((with_reducible apply Step.nilp); exact rfl; exact rfl)) | (with_reducible refine AWo.nil ?_) | ((with_reducible apply AW.seq)) | ((with_reducible apply Then.n)) | ((with_reducible apply AW.regL)) | ((with_reducible apply AW.exit)) | ((with_reducible apply InBlk.n)) | ((with_reducible apply InBlk.hit)) | ((with_reducible apply Then.e)) | ((with_reducible apply AW.condF); exact rfl; (focus ((simp only [decide_eq_true_eq, decide_eq_false_iff_not, Bool.not_eq_true', Bool.not_eq_false', Bool.not_true, Bool.not_false]; first | assumption | omega))))))
          refine ⟨_, _, ?_, (by repeat (first | exact trivial | (refine And.intro rfl ?_))), y + 1, rfl, by omega, ?_, rfl⟩
          · omega
          · rw [fY, show w + 1 - (i + 1) = w - i by omega]
      · obtain rfl : y = h - j := by omega
        (repeat (first | (with_reducible refine AWo.cons ?_) | ((with_reducible refine Step.id ?_); first | ((with_reducible apply Step.move); exact rfl; exact rfl) | ((with_reducible apply Step.assign); exact rfl; exact rfl) | ((with_reducible apply Step.load); exact rfl; (focus (decide +kernel)); exact rfl; (focus (exact th _))) | ((with_reducible apply Step.field (k := 3)); exact rfl; (focus (decide +kernel)); exact rfl) | ((with_reducible apply Step.addE); exact rfl; exact rfl; (focus (assumption)); (focus (omega)); exact rfl) | ((with_reducible apply Step.add); exact rfl; exact rfl; (focus (omega)); exact rfl) | ((with_reducible apply Step.leq); exact rfl; exact rfl; exact rfl) | ((with_reducible apply Step.nilp); exact rfl; exact rfl)) | (with_reducible refine AWo.nil ?_) | ((with_reducible apply AW.seq)) | ((with_reducible apply Then.n)) | ((with_reducible apply AW.regL)) | ((with_reducible apply AW.exit)) | ((with_reducible apply InBlk.n)) | ((with_reducible apply InBlk.hit)) | ((with_reducible apply Then.e)) | ((with_reducible apply AW.condF); exact rfl; (focus ((simp only [decide_eq_true_eq, decide_eq_false_iff_not, Bool.not_eq_true', Bool.not_eq_false', Bool.not_true, Bool.not_false]; first | assumption | omega))))))
        refine ⟨_, _, ?_, (by repeat (first | exact trivial | (refine And.intro rfl ?_))), j + 1, rfl, by omega, ?_, rfl⟩
        · omega
        · rw [fH, show h + 1 - (j + 1) = h - j by omega]
    · obtain rfl : j = h := by omega
      (repeat (first | (with_reducible refine AWo.cons ?_) | ((with_reducible refine Step.id ?_); first | ((with_reducible apply Step.move); exact rfl; exact rfl) | ((with_reducible apply Step.assign); exact rfl; exact rfl) | ((with_reducible apply Step.load); exact rfl; (focus (decide +kernel)); exact rfl; (focus (exact th _))) | ((with_reducible apply Step.field (k := 3)); exact rfl; (focus (decide +kernel)); exact rfl) | ((with_reducible apply Step.add); exact rfl; exact rfl; (focus (omega)); exact rfl) | ((with_reducible apply Step.leq); exact rfl; exact rfl; exact rfl) | ((with_reducible apply Step.nilp); exact rfl; exact rfl)) | (with_reducible refine AWo.nil ?_) | ((with_reducible apply AW.seq)) | ((with_reducible apply Then.n)) | ((with_reducible apply AW.regL)) | ((with_reducible apply AW.exit)) | ((with_reducible apply InBlk.n)) | ((with_reducible apply InBlk.hit)) | ((with_reducible apply Then.e)) | ((with_reducible apply AW.condF); exact rfl; (focus ((simp only [decide_eq_true_eq, decide_eq_false_iff_not, Bool.not_eq_true', Bool.not_eq_false', Bool.not_true, Bool.not_false]; first | assumption | omega))))))
      exact ⟨_, _, by omega, (by repeat (first | exact trivial | (refine And.intro rfl ?_))), i + 1, rfl, by omega, rfl, rfl⟩
  · obtain rfl : i = w := by omega
    (repeat (first | (with_reducible refine AWo.cons ?_) | ((with_reducible refine Step.id ?_); first | ((with_reducible apply Step.move); exact rfl; exact rfl) | ((with_reducible apply Step.load); exact rfl; (focus (decide +kernel)); exact rfl; (focus (exact tw _))) | ((with_reducible apply Step.field (k := 2)); exact rfl; (focus (decide +kernel)); exact rfl) | ((with_reducible apply Step.leq); exact rfl; exact rfl; exact rfl) | ((with_reducible apply Step.nilp); exact rfl; exact rfl)) | (with_reducible refine AWo.nil ?_) | ((with_reducible apply AW.seq)) | ((with_reducible apply Then.n)) | ((with_reducible apply AW.regL)) | ((with_reducible apply AW.exit)) | ((with_reducible apply InBlk.hit)) | ((with_reducible apply Then.e)) | ((with_reducible apply AW.condF); exact rfl; (focus ((simp only [decide_eq_true_eq, decide_eq_false_iff_not, Bool.not_eq_true', Bool.not_eq_false', Bool.not_true, Bool.not_false]; first | assumption | omega))))))
    exact ⟨_, rfl, rfl, rfl⟩
end Go.Proofs.YtedbjmgchfgabaaDoor.Abs
namespace Go.Proofs.YtedbjmgchfgabaaDoor.Abs
set_option linter.unusedSimpArgs false
set_option linter.unusedVariables false
open Go.RowKit
open Go.Proofs.YtedbjmgchfgabaaDoor.Sim
open Go.Proofs
theorem Fair.set {v : List Int} (h : Fair v) {n : Nat} {z : Int} (hz : 0 ≤ z ∧ z ≤ 1000000000000) : Fair (v.set n z) := by
  intro i
  rw [List.getD_eq_getElem?_getD]
  by_cases e : n = i
  · subst e
    rcases Nat.lt_or_ge n v.length with hl | hl
    · rw [List.getElem?_set_self hl]; exact hz
    · rw [List.getElem?_eq_none (by simpa using hl)]; simp
  · rw [List.getElem?_set_ne e]
    have := h i
    rwa [List.getD_eq_getElem?_getD] at this
theorem cutM_set {w h : Nat} (hw : w ≤ 16) (hh : h ≤ 16) {r : R4} (hr : r.ok w h) {v : List Int} (hl : v.length = total w h) (z : Int) (d : Bool) : cutM (tg w h (v.set (r.at w h) z)) r d = cutM (tg w h v) r d := by
  refine cutM_congr hr fun r' h1 h2 => ?_
  rw [tg_set hw hh hr h1 hl, if_neg]
  rintro rfl
  omega
theorem leafM_in {B : Brd} {K : List Kd} (hg : goodB B K = true) (r : R4) : 0 ≤ leafM B K r ∧ leafM B K r ≤ 1000000 := by
  simp only [goodB, Bool.and_eq_true] at hg
  exact leafN_in hg.2 r _ (Nat.le_refl _)
theorem V_in {B : Brd} {K : List Kd} (hg : goodB B K = true) {r : R4} (hr : r.ok (bw B) (bh B)) : 0 ≤ V (leafM B K) r ∧ V (leafM B K) r ≤ 256000000 := by
  have hgb : boardB B = true := by simp only [goodB, Bool.and_eq_true] at hg; exact hg.1
  have hin := good_in hgb
  refine ⟨V_nonneg (fun r => (leafM_in hg r).1) hr, ?_⟩
  have h1 := V_le (w := bw B) (h := bh B) (leaf := leafM B K) (c := 1000000) (fun r hr => by
    have := (leafM_in hg r).2
    have h2 : 1 ≤ r.a * r.b := Nat.mul_le_mul hr.1 hr.2.1
    omega) (by omega) r hr
  have h2 := area_le hin.2.2.2 hin.2.1 hr
  omega
theorem TabI.fair {val : R4 → Int} {w h : Nat} {D : R4 → Prop} {v : List Int} (H : TabI val w h D v) (hv : ∀ r, D r → 0 ≤ val r ∧ val r ≤ 1000000000000) : Fair v := H.all (p := fun x => 0 ≤ x ∧ x ≤ 1000000000000) (by omega) hv
/-- The memory in which block q holds numbers. -/
def MI (m : AM) (q : Nat) (v : List Int) : AM := m.set q (some { cells := iv v })
section
variable {m : AM} {q : Nat} {v : List Int}
theorem MI.len : (MI m q v).length = m.length := by simp [MI]
theorem MI.at (hq : q < m.length) : (MI m q v)[q]? = some (some { cells := iv v }) := by unfold MI; exact List.getElem?_set_self hq
theorem MI.ne {a : Nat} (h : a ≠ q) : (MI m q v)[a]? = m[a]? := by unfold MI; exact List.getElem?_set_ne (fun e => h e.symm)
theorem MI.set (hq : q < m.length) (T : AM) (v' : List Int) : (MI m q v ++ T).set q (some { cells := iv v' }) = MI m q v' ++ T := by
  unfold MI
  rw [List.set_append_left _ _ (by simpa using hq), List.set_set]
theorem MI.rd {a o : Nat} {x : Value} (h : a ≠ q) (hr : Rd m a o x) : Rd (MI m q v) a o x := by
  obtain ⟨b, h1, h2⟩ := hr
  exact ⟨b, by rw [MI.ne h]; exact h1, h2⟩
theorem MI.ints (hq : q < m.length) : Ints (MI m q v) (.slice (some ⟨q, 0, none⟩) v.length v.length) v := ints_at (MI.at hq) rfl _ rfl
theorem MI.flat (hq : q < m.length) (v v' : List Int) (n : Nat) (j : Nat) (b : Blk) (h : (MI m q v')[j]? = some (some b)) : (j < (MI m q v).length ∧ (MI m q v)[j]? = some (some b)) ∨ (isMapK b.kind = false ∧ ∀ x ∈ b.cells, Ren rid n x x) := by
  by_cases e : j = q
  · subst e
    rw [MI.at hq] at h
    simp only [Option.some.injEq] at h
    subst h
    exact .inr ⟨rfl, fun x hx => Ren.of_g0 (g0_iv _ x hx)⟩
  · rw [MI.ne e] at h
    exact .inl ⟨by rw [MI.len]; exact (List.getElem?_eq_some_iff.1 h).1, by rw [MI.ne e]; exact h⟩
end
/-- What the closure makes of the table, step by step. -/
def vsF (leaf : R4 → Int) (w h : Nat) (r : R4) (v : List Int) : Nat → List Int
  | 0 => v.set (r.at w h) (leaf r)
  | k + 1 => (vsF leaf w h r v k).set (r.at w h) (max (tg w h (vsF leaf w h r v k) r) (cutM (tg w h (vsF leaf w h r v k)) r (k == 0)))
theorem vsF_len (leaf : R4 → Int) (w h : Nat) (r : R4) (v : List Int) : ∀ k, (vsF leaf w h r v k).length = v.length
  | 0 => by simp [vsF]
  | k + 1 => by simp [vsF, vsF_len leaf w h r v k]
theorem vsF_two {leaf : R4 → Int} {w h : Nat} (hw : w ≤ 16) (hh : h ≤ 16) {r : R4} (hr : r.ok w h) {v : List Int} (hl : v.length = total w h) :
    vsF leaf w h r v 1 = v.set (r.at w h) (max (leaf r) (cutM (tg w h v) r true)) ∧ vsF leaf w h r v 2 = bstep leaf w h r v := by
  have h1 : vsF leaf w h r v 1 = v.set (r.at w h) (max (leaf r) (cutM (tg w h v) r true)) := by
    show (v.set (r.at w h) (leaf r)).set (r.at w h) _ = _
    rw [List.set_set]
    congr 2
    · show tg w h (v.set (r.at w h) (leaf r)) r = _
      rw [tg_set hw hh hr hr hl, if_pos rfl]
    · exact cutM_set hw hh hr hl _ true
  refine ⟨h1, ?_⟩
  show (vsF leaf w h r v 1).set (r.at w h) (max (tg w h (vsF leaf w h r v 1) r) (cutM (tg w h (vsF leaf w h r v 1)) r (1 == 0))) = _
  rw [h1, List.set_set]
  unfold bstep
  congr 2
  · rw [tg_set hw hh hr hr hl, if_pos rfl]
  · exact cutM_set hw hh hr hl _ false
end Go.Proofs.YtedbjmgchfgabaaDoor.Abs
namespace Go.Proofs.YtedbjmgchfgabaaDoor.Abs
set_option linter.unusedSimpArgs false
set_option linter.unusedVariables false
open Go.RowKit
open Go.Proofs.YtedbjmgchfgabaaDoor.Sim
open Go.Proofs
set_option maxHeartbeats 8000000 in
set_option maxRecDepth 100000 in
theorem bestc_ok {m1 m T : AM} {p q a1 a2 : Nat} {B : Brd} {K : List Kd} (hm : ∃ N, m = m1 ++ N) (hB : BoardAt m1 p B K) (hg : goodB B K = true) (hq1 : m1.length ≤ q) (hq : q < m.length)
    (h1 : Rd m a1 0 (.pointer (some ⟨p, 0, none⟩))) (h2 : Rd m a2 0 (.slice (some ⟨q, 0, none⟩) (total (bw B) (bh B)) (total (bw B) (bh B)))) (n1 : a1 ≠ q) (n2 : a2 ≠ q)
    {i j y x : Nat} (b1 : i < bw B) (b2 : j < bh B) (b3 : y + (j + 1) ≤ bh B) (b4 : x + (i + 1) ≤ bw B) {v : List Int} (hI : TabI (V (leafM B K)) (bw B) (bh B) (done (bw B) (bh B) i j y x) v) :
    ACall Tryd.prog 64 #[(R4.mk x y (i + 1) (j + 1)).rc.v, .int .i64 ((R4.mk x y (i + 1) (j + 1)).at (bw B) (bh B) : Nat), .pointer (some ⟨a1, 0, none⟩), .pointer (some ⟨a2, 0, none⟩)] (MI m q v ++ T)
      (Ret (.tuple #[]) (MI m q (bstep (leafM B K) (bw B) (bh B) ⟨x, y, i + 1, j + 1⟩ v) ++ T)) := by
  have hgb : boardB B = true := by simp only [goodB, Bool.and_eq_true] at hg; exact hg.1
  have hin := good_in hgb
  have hr := step_ok b1 b2 b3 b4
  have hat := at_lt hin.2.2.2 hin.2.1 hr
  have hBv : ∀ u T', BoardAt (MI m q u ++ T') p B K := fun u T' => by
    obtain ⟨N, rfl⟩ := hm
    obtain ⟨N', hN'⟩ := set_high (N := N) hq1 (some { cells := iv u })
    unfold MI
    rw [hN', List.append_assoc]
    exact hB.old _
  have hfa : ∀ r, done (bw B) (bh B) i j y x r → 0 ≤ V (leafM B K) r ∧ V (leafM B K) r ≤ 1000000000000 := fun r hd => by have := V_in hg hd.1; omega
  have hVr := V_in hg hr
  have hlf := leafM_in hg ⟨x, y, i + 1, j + 1⟩
  have hc1 := fun d => (hI.cut hr d).symm
  have hcv := fun d => cut_le_V (leaf := leafM B K) hr d
  have hvl := hI.len
  have hF := hI.fair hfa
  obtain ⟨hv1, hv2⟩ := vsF_two (leaf := leafM B K) hin.2.2.2 hin.2.1 hr hvl
  have hvs := vsF_len (leafM B K) (bw B) (bh B) ⟨x, y, i + 1, j + 1⟩ v
  have hF0 : Fair (vsF (leafM B K) (bw B) (bh B) ⟨x, y, i + 1, j + 1⟩ v 0) := hF.set (by omega)
  have hF1 : Fair (vsF (leafM B K) (bw B) (bh B) ⟨x, y, i + 1, j + 1⟩ v 1) := by
    rw [hv1]
    have e1 := hc1 true
    have e2 := hcv true
    exact hF.set (by omega)
  rw [← hv2]
  have hL := fun u T' => leaf_ok (hBv u T') hg hr
  have hC := fun u T' d (hu : u.length = total (bw B) (bh B)) (hf : Fair u) => cuts_ok (m := MI m q u ++ T') (hBv u T') hg hr d (by have := (MI.ints (m := m) (v := u) hq); rw [hu] at this; exact this.old T') hu hf
  have vs0 : vsF (leafM B K) (bw B) (bh B) ⟨x, y, i + 1, j + 1⟩ v 0 = v.set ((R4.mk x y (i + 1) (j + 1)).at (bw B) (bh B)) (leafM B K ⟨x, y, i + 1, j + 1⟩) := rfl
  have vsS : ∀ k, vsF (leafM B K) (bw B) (bh B) ⟨x, y, i + 1, j + 1⟩ v (k + 1) = (vsF (leafM B K) (bw B) (bh B) ⟨x, y, i + 1, j + 1⟩ v k).set ((R4.mk x y (i + 1) (j + 1)).at (bw B) (bh B)) (max ((vsF (leafM B K) (bw B) (bh B) ⟨x, y, i + 1, j + 1⟩ v k).getD ((R4.mk x y (i + 1) (j + 1)).at (bw B) (bh B)) 0) (cutM (tg (bw B) (bh B) (vsF (leafM B K) (bw B) (bh B) ⟨x, y, i + 1, j + 1⟩ v k)) ⟨x, y, i + 1, j + 1⟩ (k == 0))) := fun k => rfl
  clear hv1 hv2 hc1 hcv hfa hI hVr hlf hBv
  have r4 : ∀ (M : AM) (T' : AM), RdL (M ++ (some { cells := (R4.mk x y (i + 1) (j + 1)).rc.cells } :: T')) (M.length + 0) 0 (R4.mk x y (i + 1) (j + 1)).rc.cells := fun M T' => RdL.new rfl rfl
  change ∀ u T', ACall Tryd.prog 52 #[_, .agg (R4.mk x y (i + 1) (j + 1)).rc.cells.toArray] _ _ at hL
  change ∀ u T' d, _ → _ → ACall Tryd.prog 65 #[_, .agg (R4.mk x y (i + 1) (j + 1)).rc.cells.toArray, _, _] _ _ at hC
  change ACall Tryd.prog 64 #[.agg (R4.mk x y (i + 1) (j + 1)).rc.cells.toArray, _, _, _] _ _
  generalize vsF (leafM B K) (bw B) (bh B) ⟨x, y, i + 1, j + 1⟩ v = vs at *
  have hg0 : ∀ v ∈ (R4.mk x y (i + 1) (j + 1)).rc.cells, g0 v = true := fun v hv => by
    simp [Rc.cells] at hv
    rcases hv with rfl | rfl | rfl | rfl <;> rfl
  generalize hrr : (R4.mk x y (i + 1) (j + 1)).rc = rr at *
  generalize hn : (R4.mk x y (i + 1) (j + 1)).at (bw B) (bh B) = n at *
  refine ACall.start Tryd.func64 rfl rfl ?_
  have hlm : ∀ u, (MI m q u ++ T).length = (MI m q v ++ T).length := fun u => by simp [MI.len]
  have z1 : ∀ u T', Rd (MI m q u ++ T') a1 0 (.pointer (some ⟨p, 0, none⟩)) := fun u T' => (MI.rd n1 h1).old T'
  have z2 : ∀ u T', Rd (MI m q u ++ T') a2 0 (.slice (some ⟨q, 0, none⟩) (total (bw B) (bh B)) (total (bw B) (bh B))) := fun u T' => (MI.rd n2 h2).old T'
  (repeat (first | (with_reducible refine AWo.cons ?_) | ((with_reducible refine Step.id ?_); ((with_reducible apply Step.box 0); exact rfl; exact rfl; (focus (kernel_rfl)); exact rfl; (focus (first | (simp only [List.nil_append, List.cons_append, List.set_cons_zero, List.set_cons_succ, iv_set, bv_set, iv_rep, bv_rep]; done) | (simp only [List.nil_append, List.cons_append, List.set_cons_zero, List.set_cons_succ, iv_set, bv_set, iv_rep, bv_rep]; rfl) | rfl)))) | (with_reducible refine AWo.nil ?_) | ((fail_if_success (with_reducible refine AW.atR (id := 1) ?_)); ((with_reducible apply AW.seq))) | ((with_reducible apply Then.n)) | ((with_reducible apply AW.regL))))
  rw [List.append_assoc]
  change AW _ _ _ _ _ (MI m q v ++ (T ++ [some { cells := rr.cells }])) _
  have r5 : ∀ u, RdL (MI m q u ++ (T ++ [some { cells := rr.cells }])) ((MI m q v ++ T).length + 0) 0 rr.cells := fun u => by
    rw [← List.append_assoc, ← hlm u]; exact RdL.new rfl rfl
  have hqL : ∀ u T', (MI m q u ++ T')[q]? = some (some { cells := iv u }) := fun u T' => get_old _ (MI.at hq)
  generalize hbp : (MI m q v ++ T).length + 0 = bp at *
  have hat2 : ∀ u, u.length = total (bw B) (bh B) → n < (iv u).length := fun u hu => by rw [iv_len, hu]; exact hat
  have hmem : ∀ (u : List Int) (z : Int) (T' : AM), (MI m q u ++ T').set q (some { cells := (iv u).set n (.int .i64 z) }) = MI m q (u.set n z) ++ T' := fun u z T' => by rw [iv_set]; exact MI.set hq _ _
  have hrow : ∀ u T', u.length = total (bw B) (bh B) → Rd (MI m q u ++ T') q n (.int .i64 (u.getD n 0)) := fun u T' hu => rd_iv (hqL u T') rfl (by omega)
  refine AW.seq ?_
  refine AW.flatM fit [(1, .int .i64 (n : Nat)), (2, .pointer (some ⟨a1, 0, none⟩)), (3, .pointer (some ⟨a2, 0, none⟩)), (4, .pointer (some ⟨bp, 0, none⟩))] [1, 2, 3, 4] [[], [], [], [], [1, 0], [4, 3, 4, 3, 2, 1, 0], [0, 1, 1, 5, 4, 3, 2, 1]] (by repeat (first | exact trivial | (refine And.intro rfl ?_))) rfl (by decide +kernel) ?_
  (repeat (first | ((with_reducible refine Step.id ?_); first | ((with_reducible apply Step.move); exact rfl; exact rfl) | ((with_reducible apply Step.load); exact rfl; (focus (decide +kernel)); exact rfl; (focus (first | exact z1 _ _ | exact z2 _ _))) | ((with_reducible apply Step.loadL (n := 4)); exact rfl; (focus (decide +kernel)); (focus (decide +kernel)); exact rfl; (focus (exact r5 _)); exact rfl; exact rfl) | ((with_reducible apply Step.ix1z); exact rfl; (focus (exact Sl.mk (by omega))); exact rfl; (focus (decide +kernel)); exact rfl; (focus (omega))) | ((with_reducible apply Step.callR fit); exact rfl; exact Tryd.func52; exact rfl; exact rfl; exact (hL _ _))) | (apply AWfL.cons; exact rfl) | ((with_reducible apply AWfL.last)) | exact ⟨put_same _ _ _, rfl⟩))
  ((with_reducible apply Step.storeC); exact rfl; exact rfl; exact (hqL v _); exact rfl; (focus (decide +kernel)); exact rfl; exact rfl; exact (hat2 v hvl))
  rw [hmem, ← vs0]
  intro t2 ht2
  refine Then.n ?_
  refine AW.weak ht2 ?_
  (repeat (first | (with_reducible refine AWo.cons ?_) | ((with_reducible refine Step.id ?_); ((with_reducible apply Step.assign); exact rfl; exact rfl)) | (with_reducible refine AWo.nil ?_) | ((with_reducible apply AW.seq)) | ((with_reducible apply Then.n)) | ((with_reducible apply AW.regL)) | ((with_reducible apply AW.block))))
  refine AW.loopW (fun rk t M => ∃ k : Nat, rk = 2 - k ∧ k ≤ 2 ∧ M = MI m q (vs k) ++ (T ++ [some { cells := rr.cells }]) ∧ t = fr [(1, .int .i64 (n : Nat)), (2, .pointer (some ⟨a1, 0, none⟩)), (3, .pointer (some ⟨a2, 0, none⟩)), (4, .pointer (some ⟨bp, 0, none⟩)), (6, .int .i64 (2 + k : Nat))])
    ⟨_, _, (by repeat (first | exact trivial | (refine And.intro rfl ?_))), 0, rfl, Nat.zero_le _, rfl, rfl⟩ ?_
  rintro rk t M ⟨k, rfl, hk, rfl, rfl⟩
  rcases Nat.lt_or_ge k 2 with hlt | hge
  · have hFk : Fair (vs k) := by
      rcases (show k = 0 ∨ k = 1 by omega) with rfl | rfl
      · exact hF0
      · exact hF1
    have hop : opI (k == 0) = ((2 + k : Nat) : Int) := by
      rcases (show k = 0 ∨ k = 1 by omega) with rfl | rfl <;> rfl
    have hlk : (vs k).length = total (bw B) (bh B) := by rw [hvs k]; exact hvl
    have hCk := fun T' => hC (vs k) T' (k == 0) hlk hFk
    rw [hop] at hCk
    have hrk := fun T' => hrow (vs k) T' hlk
    (repeat (first | (with_reducible refine AWo.cons ?_) | ((with_reducible refine Step.id ?_); first | ((with_reducible apply Step.move); exact rfl; exact rfl) | ((with_reducible apply Step.leq); exact rfl; exact rfl; exact rfl)) | (with_reducible refine AWo.nil ?_) | ((with_reducible apply AW.seq)) | ((with_reducible apply Then.n)) | ((fail_if_success (with_reducible refine AW.atL (id := 5) ?_)); ((with_reducible apply AW.regL))) | ((with_reducible apply AW.block)) | ((with_reducible apply AW.skip)) | ((with_reducible apply AW.condT); exact rfl; (focus ((simp only [decide_eq_true_eq, decide_eq_false_iff_not, Bool.not_eq_true', Bool.not_eq_false', Bool.not_true, Bool.not_false]; first | assumption | omega))))))
    refine AW.flatM fit [(1, .int .i64 (n : Nat)), (2, .pointer (some ⟨a1, 0, none⟩)), (3, .pointer (some ⟨a2, 0, none⟩)), (4, .pointer (some ⟨bp, 0, none⟩)), (6, .int .i64 (2 + k : Nat))] [1, 2, 3, 4, 6] [[], [], [], [], [1, 0], [0], [], [], [], [], [3, 2, 1, 0], [5, 0], [11, 10, 11, 10, 9, 8, 7, 6, 5, 4, 3, 2, 1, 0], [0, 1, 2, 12, 11, 10, 9, 8, 7, 6, 5, 4, 3, 2, 1]] (by repeat (first | exact trivial | (refine And.intro rfl ?_))) rfl (by decide +kernel) ?_
    (repeat (first | ((with_reducible refine Step.id ?_); first | ((with_reducible apply Step.move); exact rfl; exact rfl) | ((with_reducible apply Step.load); exact rfl; (focus (decide +kernel)); exact rfl; (focus (first | exact z1 _ _ | exact z2 _ _ | exact hrk _))) | ((with_reducible apply Step.loadL (n := 4)); exact rfl; (focus (decide +kernel)); (focus (decide +kernel)); exact rfl; (focus (exact r5 _)); exact rfl; exact rfl) | ((with_reducible apply Step.ix1z); exact rfl; (focus (exact Sl.mk (by omega))); exact rfl; (focus (decide +kernel)); exact rfl; (focus (omega))) | ((with_reducible apply Step.max); exact rfl; exact rfl; exact rfl) | ((with_reducible apply Step.callR fit); exact rfl; exact Tryd.func65; exact rfl; exact rfl; exact (hCk _))) | (apply AWfL.cons; exact rfl) | ((with_reducible apply AWfL.last)) | exact ⟨put_same _ _ _, rfl⟩))
    ((with_reducible apply Step.storeC); exact rfl; exact rfl; exact (hqL (vs k) _); exact rfl; (focus (decide +kernel)); exact rfl; exact rfl; exact (hat2 (vs k) hlk))
    rw [hmem, ← vsS k]
    intro t2 ht2
    refine InBlk.n ?_
    refine Then.n ?_
    refine AW.weak ht2 ?_
    (repeat (first | (with_reducible refine AWo.cons ?_) | ((with_reducible refine Step.id ?_); first | ((with_reducible apply Step.move); exact rfl; exact rfl) | ((with_reducible apply Step.assign); exact rfl; exact rfl) | ((with_reducible apply Step.add); exact rfl; exact rfl; (focus (omega)); exact rfl)) | (with_reducible refine AWo.nil ?_) | ((with_reducible apply Then.n)) | ((with_reducible apply AW.regL))))
    exact ⟨_, _, by omega, (by repeat (first | exact trivial | (refine And.intro rfl ?_))), k + 1, rfl, by omega, rfl, rfl⟩
  · obtain rfl : k = 2 := by omega
    rw [← List.append_assoc]
    refine AW.gc (Gc.cut (l := [(6, .int .i64 (2 + 2 : Nat))]) (by rw [hlm (vs 2)]; exact Nat.le_refl _) (fun j b hj => ?_) (by repeat (first | exact trivial | (refine And.intro ⟨rfl, by (exact .int _ _)⟩ ?_)))) ?_
    · rcases Nat.lt_or_ge j (MI m q (vs 2)).length with hjl | hjl
      · rw [List.getElem?_append_left hjl] at hj
        rcases MI.flat hq v (vs 2) (MI m q (vs 2) ++ T).length j b hj with ⟨g1, g2⟩ | g
        · exact .inl ⟨by rw [List.length_append]; omega, get_old _ g2⟩
        · exact .inr g
      · have e : (MI m q (vs 2)).length = (MI m q v).length := by rw [MI.len, MI.len]
        refine .inl ⟨by rw [← hlm (vs 2)]; exact (List.getElem?_eq_some_iff.1 hj).1, ?_⟩
        rw [List.getElem?_append_right (by omega)]
        rw [List.getElem?_append_right hjl, e] at hj
        exact hj
    · (repeat (first | (with_reducible refine AWo.cons ?_) | ((with_reducible refine Step.id ?_); first | ((with_reducible apply Step.move); exact rfl; exact rfl) | ((with_reducible apply Step.leq); exact rfl; exact rfl; exact rfl)) | (with_reducible refine AWo.nil ?_) | ((with_reducible apply AW.seq)) | ((with_reducible apply Then.n)) | ((with_reducible apply AW.regL)) | ((with_reducible apply AW.exit)) | ((with_reducible apply InBlk.hit)) | ((with_reducible apply Then.e)) | ((with_reducible apply AW.condF); exact rfl; (focus (rfl)))))
      exact ⟨_, rfl, rfl, rfl⟩
end Go.Proofs.YtedbjmgchfgabaaDoor.Abs
