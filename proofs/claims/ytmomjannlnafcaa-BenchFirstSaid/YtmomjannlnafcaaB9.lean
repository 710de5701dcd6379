/- Chapter 8: the reference's Sum and Turning; BenchSpan and BenchTurns walked. -/
import Derived.Test.YtmomjannlnafcaaB8
import Derived.Test.YtmomjannlnafcaaAbsT
namespace Go.Proofs.Ytmomjannlnafcaa.Abs
set_option linter.unusedSimpArgs false
set_option linter.unusedVariables false
open Go.RowKit
open Go.Proofs.Ytmomjannlnafcaa.Sim
open Go.Proofs
/-- Sum after i positions. -/
def sumP (j : List Two) (l : List Nat) (k i : Nat) : Int := cutS j l (min i (k + 1)) + (sewS j l i - sewS j l (min i k))
-- function 56
set_option maxRecDepth 100000 in
theorem RSum_ok {m : AM} {v w : Value} {j : List Two} {l : List Nat} (k : Nat) (hj : Twos m v j) (hl : Nats m w l) (hin : ∀ i, i < l.length → l.getD i 0 < j.length) (hlim : tlim j) (hlen : l.length ≤ 1000) (hk : k < l.length) {r : Int} (hr : sumK j l l.length k = r) :
    ACall Try.prog 56 #[v, w, .int .i64 (k : Nat)] m (Ret (.int .i64 r) m) := by
  subst hr
  obtain ⟨a, o, h1, h2, h3⟩ := hj
  obtain ⟨b, u, k1, k2, k3⟩ := hl
  refine ACall.start Try.func56 rfl rfl ?_
  (repeat (first | (with_reducible refine AWo.cons ?_) | ((with_reducible refine Step.id ?_); first | ((with_reducible apply Step.move); exact rfl; exact rfl) | ((with_reducible apply Step.assign); exact rfl; exact rfl) | ((with_reducible apply Step.len); exact rfl; (focus (assumption)); (focus (decide +kernel)); exact rfl)) | (with_reducible refine AWo.nil ?_) | ((with_reducible apply AW.seq)) | ((with_reducible apply Then.n)) | ((with_reducible apply AW.regL)) | ((with_reducible apply AW.block))))
  refine AW.loopT (fun n t L => ∃ (i : Nat) (s : Int), n = l.length - i ∧ i ≤ l.length ∧ s = sumP j l k i ∧ L = [] ∧
    t = [(0, v), (2, .int .i64 (k : Nat)), (7, .int .i64 s), (10, w), (11, .int .i64 (l.length : Nat)), (12, .int .i64 (i : Nat))]) ⟨_, _, _, (Or.inl ⟨rfl, (by repeat (first | exact trivial | (refine And.intro rfl ?_)))⟩), 0, 0, rfl, Nat.zero_le _, by simp [sumP, cutS, sewS, sumI], rfl, rfl⟩ ?_
  rintro n t L ⟨i, s, rfl, hi, es, rfl, rfl⟩
  rcases Nat.lt_or_ge i l.length with hlt | hge
  · have hx := hin i hlt
    have r1 := k3 i hlt
    have hr := h3 _ hx
    have l2 := lim_pos hlim (l.getD i 0)
    have ec := cutS_succ (j := j) hlt
    have ew := sewS_succ (j := j) hlt
    have b1 := cutS_bd (l := l) hlim i hi
    have b2 := cutS_bd (l := l) hlim (i + 1) hlt
    have b3 := cutS_bd (l := l) hlim (min i (k + 1)) (by omega)
    have b4 := cutS_bd (l := l) hlim (min i k) (by omega)
    have es1 : sumP j l k (i + 1) = s + (if i ≤ k then cutOf j (l.getD i 0) else 0) + (if k ≤ i then sewOf j (l.getD i 0) else 0) := by
      rw [es]; simp only [sumP]
      by_cases h1 : i < k
      · rw [if_pos (by omega), if_neg (by omega), show min (i + 1) (k + 1) = i + 1 by omega, show min (i + 1) k = i + 1 by omega, show min i (k + 1) = i by omega, show min i k = i by omega]; omega
      · by_cases h2 : i = k
        · subst h2
          rw [if_pos (by omega), if_pos (by omega), show min (i + 1) (i + 1) = i + 1 by omega, show min (i + 1) i = i by omega, show min i (i + 1) = i by omega, show min i i = i by omega]; omega
        · rw [if_neg (by omega), if_pos (by omega), show min (i + 1) (k + 1) = k + 1 by omega, show min (i + 1) k = k by omega, show min i (k + 1) = k + 1 by omega, show min i k = k by omega]; omega
    have sb : -1000000000 ≤ s ∧ s ≤ 1000000000 := by rw [es]; simp only [sumP]; omega
    simp only [cutOf, sewOf] at es1 l2
    generalize l.getD i 0 = x at *
    by_cases h1 : i < k
    · rw [if_pos (by omega), if_neg (by omega)] at es1
      (repeat (first | (with_reducible refine AWo.cons ?_) | ((with_reducible refine Step.id ?_); first | ((with_reducible apply Step.move); exact rfl; exact rfl) | ((with_reducible apply Step.assign); exact rfl; exact rfl) | ((with_reducible apply Step.load); exact rfl; (focus (decide +kernel)); exact rfl; (focus (first | exact Rd.old _ (by assumption) | exact Rd.old _ (hr.at_ 0 rfl)))) | ((with_reducible apply Step.ix1); exact rfl; (focus (assumption)); exact rfl; (focus (decide +kernel)); exact rfl; (focus (omega))) | ((with_reducible apply Step.ix (s := 2)); exact rfl; (focus (assumption)); exact rfl; (focus (decide +kernel)); exact rfl; (focus (omega))) | ((with_reducible apply Step.field0); exact rfl; (focus (decide +kernel)); exact rfl) | ((with_reducible apply Step.add); exact rfl; exact rfl; (focus (omega)); exact rfl) | ((with_reducible apply Step.lss); exact rfl; exact rfl; exact rfl) | ((with_reducible apply Step.leq); exact rfl; exact rfl; exact rfl) | ((with_reducible apply Step.geq); exact rfl; exact rfl; exact rfl)) | (with_reducible refine AWo.nil ?_) | ((with_reducible apply AW.seq)) | ((with_reducible apply Then.n)) | ((with_reducible apply AW.regL)) | ((with_reducible apply AW.block)) | ((with_reducible apply InBlk.n)) | ((with_reducible apply AW.skip)) | ((with_reducible apply AW.condT); exact rfl; (focus ((simp only [decide_eq_true_eq, decide_eq_false_iff_not, Bool.not_eq_true', Bool.not_eq_false', Bool.not_true, Bool.not_false]; first | assumption | omega)))) | ((with_reducible apply AW.condF); exact rfl; (focus ((simp only [decide_eq_true_eq, decide_eq_false_iff_not, Bool.not_eq_true', Bool.not_eq_false', Bool.not_true, Bool.not_false]; first | assumption | omega))))))
      exact ⟨_, _, _, by omega, (Or.inl ⟨rfl, (by repeat (first | exact trivial | (refine And.intro rfl ?_)))⟩), i + 1, _, rfl, by omega, by rw [es1]; omega, rfl, rfl⟩
    · by_cases h2 : i = k
      · rw [if_pos (by omega), if_pos (by omega)] at es1
        (repeat (first | (with_reducible refine AWo.cons ?_) | ((with_reducible refine Step.id ?_); first | ((with_reducible apply Step.move); exact rfl; exact rfl) | ((with_reducible apply Step.assign); exact rfl; exact rfl) | ((with_reducible apply Step.load); exact rfl; (focus (decide +kernel)); exact rfl; (focus (first | exact Rd.old _ (by assumption) | exact Rd.old _ (hr.at_ 0 rfl) | exact Rd.old _ (hr.at_ 1 rfl)))) | ((with_reducible apply Step.ix1); exact rfl; (focus (assumption)); exact rfl; (focus (decide +kernel)); exact rfl; (focus (omega))) | ((with_reducible apply Step.ix (s := 2)); exact rfl; (focus (assumption)); exact rfl; (focus (decide +kernel)); exact rfl; (focus (omega))) | ((with_reducible apply Step.field0); exact rfl; (focus (decide +kernel)); exact rfl) | ((with_reducible apply Step.field (k := 1)); exact rfl; (focus (decide +kernel)); exact rfl) | ((with_reducible apply Step.add); exact rfl; exact rfl; (focus (omega)); exact rfl) | ((with_reducible apply Step.lss); exact rfl; exact rfl; exact rfl) | ((with_reducible apply Step.leq); exact rfl; exact rfl; exact rfl) | ((with_reducible apply Step.geq); exact rfl; exact rfl; exact rfl)) | (with_reducible refine AWo.nil ?_) | ((with_reducible apply AW.seq)) | ((with_reducible apply Then.n)) | ((with_reducible apply AW.regL)) | ((with_reducible apply AW.block)) | ((with_reducible apply InBlk.n)) | ((with_reducible apply AW.skip)) | ((with_reducible apply AW.condT); exact rfl; (focus ((simp only [decide_eq_true_eq, decide_eq_false_iff_not, Bool.not_eq_true', Bool.not_eq_false', Bool.not_true, Bool.not_false]; first | assumption | omega))))))
        exact ⟨_, _, _, by omega, (Or.inl ⟨rfl, (by repeat (first | exact trivial | (refine And.intro rfl ?_)))⟩), i + 1, _, rfl, by omega, by rw [es1], rfl, rfl⟩
      · rw [if_neg (by omega), if_pos (by omega)] at es1
        (repeat (first | (with_reducible refine AWo.cons ?_) | ((with_reducible refine Step.id ?_); first | ((with_reducible apply Step.move); exact rfl; exact rfl) | ((with_reducible apply Step.assign); exact rfl; exact rfl) | ((with_reducible apply Step.load); exact rfl; (focus (decide +kernel)); exact rfl; (focus (first | exact Rd.old _ (by assumption) | exact Rd.old _ (hr.at_ 1 rfl)))) | ((with_reducible apply Step.ix1); exact rfl; (focus (assumption)); exact rfl; (focus (decide +kernel)); exact rfl; (focus (omega))) | ((with_reducible apply Step.ix (s := 2)); exact rfl; (focus (assumption)); exact rfl; (focus (decide +kernel)); exact rfl; (focus (omega))) | ((with_reducible apply Step.field (k := 1)); exact rfl; (focus (decide +kernel)); exact rfl) | ((with_reducible apply Step.add); exact rfl; exact rfl; (focus (omega)); exact rfl) | ((with_reducible apply Step.lss); exact rfl; exact rfl; exact rfl) | ((with_reducible apply Step.leq); exact rfl; exact rfl; exact rfl) | ((with_reducible apply Step.geq); exact rfl; exact rfl; exact rfl)) | (with_reducible refine AWo.nil ?_) | ((with_reducible apply AW.seq)) | ((with_reducible apply Then.n)) | ((with_reducible apply AW.regL)) | ((with_reducible apply AW.block)) | ((with_reducible apply InBlk.n)) | ((with_reducible apply AW.skip)) | ((with_reducible apply AW.condT); exact rfl; (focus ((simp only [decide_eq_true_eq, decide_eq_false_iff_not, Bool.not_eq_true', Bool.not_eq_false', Bool.not_true, Bool.not_false]; first | assumption | omega)))) | ((with_reducible apply AW.condF); exact rfl; (focus ((simp only [decide_eq_true_eq, decide_eq_false_iff_not, Bool.not_eq_true', Bool.not_eq_false', Bool.not_true, Bool.not_false]; first | assumption | omega))))))
        exact ⟨_, _, _, by omega, (Or.inl ⟨rfl, (by repeat (first | exact trivial | (refine And.intro rfl ?_)))⟩), i + 1, _, rfl, by omega, by rw [es1]; omega, rfl, rfl⟩
  · (repeat (first | (with_reducible refine AWo.cons ?_) | ((with_reducible refine Step.id ?_); first | ((with_reducible apply Step.move); exact rfl; exact rfl) | ((with_reducible apply Step.assign); exact rfl; exact rfl) | ((with_reducible apply Step.lss); exact rfl; exact rfl; exact rfl)) | (with_reducible refine AWo.nil ?_) | ((with_reducible apply AW.seq)) | ((with_reducible apply Then.n)) | ((with_reducible apply AW.regL)) | ((with_reducible apply AW.exit)) | ((with_reducible apply InBlk.hit)) | ((with_reducible apply Then.e)) | ((with_reducible apply AW.condF); exact rfl; (focus ((simp only [decide_eq_true_eq, decide_eq_false_iff_not, Bool.not_eq_true', Bool.not_eq_false', Bool.not_true, Bool.not_false]; first | assumption | omega))))))
    (refine AW.retD (l := [(6, _)]) (by repeat (first | exact trivial | (refine And.intro ⟨rfl, by (exact .int _ _)⟩ ?_))) ?_; (repeat (first | refine Then.r ?_ | refine InBlk.r ?_)))
    obtain rfl : i = l.length := by omega
    refine ⟨_, rfl, ?_, rfl⟩
    rw [es]
    simp only [sumP, sumK]
    rw [Nat.min_eq_right (by omega), Nat.min_eq_right (by omega)]
-- function 54
set_option maxRecDepth 100000 in
theorem RTurning_ok {m : AM} {v w : Value} {j : List Two} {l : List Int} (hj : Twos m v j) (hl : Ints m w l) (hlen : j.length ≤ 9223372036854775807) (hlen2 : l.length ≤ 9223372036854775807) {q : Int × Int} (hq : turnR j l = q) : ACall Try.prog 54 #[v, w] m (Ret (.tuple #[.int .i64 q.1, .int .i64 q.2]) m) := by
  subst hq
  obtain ⟨a, o, h1, h2, h3⟩ := id hj
  obtain ⟨b, u, k1, k2, k3⟩ := id hl
  refine ACall.start Try.func54 rfl rfl ?_
  cases ht : twosB j with
  | false =>
    (repeat (first | (with_reducible refine AWo.cons ?_) | ((with_reducible refine Step.id ?_); first | ((with_reducible apply Step.move); exact rfl; exact rfl) | ((with_reducible apply Step.assign); exact rfl; exact rfl) | ((with_reducible apply Step.neq); exact rfl; exact rfl; exact rfl) | ((with_reducible apply Step.extract); exact rfl; exact rfl; exact rfl) | ((with_reducible apply Step.callR fit); exact rfl; exact Try.func52; exact rfl; exact rfl; exact (RSpan_ok (q := (0, 2)) (hj.old []) (hl.old []) hlen hlen2 (by simp [spanR, ht])))) | (with_reducible refine AWo.nil ?_) | ((with_reducible apply AW.seq)) | ((with_reducible apply Then.n)) | ((with_reducible apply AW.regL)) | ((with_reducible apply AW.condT); exact rfl; (focus (rfl)))))
    (refine AW.retD (l := [(4, _), (5, _)]) (by repeat (first | exact trivial | (refine And.intro ⟨rfl, by (exact .int _ _)⟩ ?_))) ?_; (repeat (first | refine Then.r ?_ | refine InBlk.r ?_)))
    exact ⟨_, rfl, by simp [turnR, ht], rfl⟩
  | true =>
    obtain ⟨hlim, h40⟩ := tlim_of ht
    cases ho : orderB l j.length with
    | false =>
      (repeat (first | (with_reducible refine AWo.cons ?_) | ((with_reducible refine Step.id ?_); first | ((with_reducible apply Step.move); exact rfl; exact rfl) | ((with_reducible apply Step.assign); exact rfl; exact rfl) | ((with_reducible apply Step.neq); exact rfl; exact rfl; exact rfl) | ((with_reducible apply Step.extract); exact rfl; exact rfl; exact rfl) | ((with_reducible apply Step.callR fit); exact rfl; exact Try.func52; exact rfl; exact rfl; exact (RSpan_ok (q := (0, 6)) (hj.old []) (hl.old []) hlen hlen2 (by simp [spanR, ht, ho])))) | (with_reducible refine AWo.nil ?_) | ((with_reducible apply AW.seq)) | ((with_reducible apply Then.n)) | ((with_reducible apply AW.regL)) | ((with_reducible apply AW.condT); exact rfl; (focus (rfl)))))
      (refine AW.retD (l := [(4, _), (5, _)]) (by repeat (first | exact trivial | (refine And.intro ⟨rfl, by (exact .int _ _)⟩ ?_))) ?_; (repeat (first | refine Then.r ?_ | refine InBlk.r ?_)))
      exact ⟨_, rfl, by simp [turnR, ht, ho], rfl⟩
    | true =>
      have hle := (orderB_iff.1 ho).1
      have hn := nat_ok hl ho
      generalize hS : (spanF j (nat l)).2 = S
      (repeat (first | (with_reducible refine AWo.cons ?_) | ((with_reducible refine Step.id ?_); first | ((with_reducible apply Step.move); exact rfl; exact rfl) | ((with_reducible apply Step.assign); exact rfl; exact rfl) | ((with_reducible apply Step.neq); exact rfl; exact rfl; exact rfl) | ((with_reducible apply Step.len); exact rfl; (focus (assumption)); (focus (decide +kernel)); exact rfl) | ((with_reducible apply Step.extract); exact rfl; exact rfl; exact rfl) | ((with_reducible apply Step.callR fit); exact rfl; exact Try.func52; exact rfl; exact rfl; exact (RSpan_ok (q := (S, 0)) (hj.old []) (hl.old []) hlen hlen2 (by simp [spanR, ht, ho, hS])))) | (with_reducible refine AWo.nil ?_) | ((with_reducible apply AW.seq)) | ((with_reducible apply Then.n)) | ((with_reducible apply AW.regL)) | ((with_reducible apply AW.block)) | ((with_reducible apply AW.skip)) | ((with_reducible apply AW.condF); exact rfl; (focus (rfl)))))
      refine AW.loopT (fun n t L => ∃ (k : Nat), n = l.length - k ∧ k ≤ l.length ∧ (∀ i, i < k → sumK j (nat l) l.length i ≠ S) ∧ L = [] ∧
        t = [(0, v), (1, w), (6, .int .i64 S), (18, w), (19, .int .i64 (l.length : Nat)), (20, .int .i64 (k : Nat))]) ⟨_, _, _, (Or.inl ⟨rfl, (by repeat (first | exact trivial | (refine And.intro rfl ?_)))⟩), 0, rfl, Nat.zero_le _, by omega, rfl, rfl⟩ ?_
      rintro n t L ⟨k, rfl, hk, hno, rfl, rfl⟩
      rcases Nat.lt_or_ge k l.length with hlt | hge
      · have su := RSum_ok k (hj.old []) (hn.old []) (nat_lt ho) hlim (by rw [nat_len]; omega) (by rw [nat_len]; exact hlt) rfl
        rw [nat_len] at su
        by_cases hx : sumK j (nat l) l.length k = S
        · (repeat (first | (with_reducible refine AWo.cons ?_) | ((with_reducible refine Step.id ?_); first | ((with_reducible apply Step.move); exact rfl; exact rfl) | ((with_reducible apply Step.assign); exact rfl; exact rfl) | ((with_reducible apply Step.lss); exact rfl; exact rfl; exact rfl) | ((with_reducible apply Step.eql); exact rfl; exact rfl; exact rfl) | ((with_reducible apply Step.callR fit); exact rfl; exact Try.func56; exact rfl; exact rfl; exact (su))) | (with_reducible refine AWo.nil ?_) | ((with_reducible apply AW.seq)) | ((with_reducible apply Then.n)) | ((with_reducible apply AW.regL)) | ((with_reducible apply AW.block)) | ((with_reducible apply AW.skip)) | ((with_reducible apply AW.condT); exact rfl; (focus ((simp only [decide_eq_true_eq, decide_eq_false_iff_not, Bool.not_eq_true', Bool.not_eq_false', Bool.not_true, Bool.not_false]; first | assumption | omega))))))
          (refine AW.retD (l := [(4, _), (5, _)]) (by repeat (first | exact trivial | (refine And.intro ⟨rfl, by (exact .int _ _)⟩ ?_))) ?_; (repeat (first | refine Then.r ?_ | refine InBlk.r ?_)))
          refine ⟨_, rfl, ?_, rfl⟩
          simp only [turnR, ht, ho, if_true, turnF]
          rw [idxF_hit hlt (fun i hi => by rw [hS]; simpa using hno i hi) (by rw [hS]; simpa using hx)]
        · (repeat (first | (with_reducible refine AWo.cons ?_) | ((with_reducible refine Step.id ?_); first | ((with_reducible apply Step.move); exact rfl; exact rfl) | ((with_reducible apply Step.assign); exact rfl; exact rfl) | ((with_reducible apply Step.add); exact rfl; exact rfl; (focus (omega)); exact rfl) | ((with_reducible apply Step.lss); exact rfl; exact rfl; exact rfl) | ((with_reducible apply Step.eql); exact rfl; exact rfl; exact rfl) | ((with_reducible apply Step.callR fit); exact rfl; exact Try.func56; exact rfl; exact rfl; exact (su))) | (with_reducible refine AWo.nil ?_) | ((with_reducible apply AW.seq)) | ((with_reducible apply Then.n)) | ((with_reducible apply AW.regL)) | ((with_reducible apply AW.block)) | ((with_reducible apply InBlk.n)) | ((with_reducible apply AW.skip)) | ((with_reducible apply AW.condT); exact rfl; (focus ((simp only [decide_eq_true_eq, decide_eq_false_iff_not, Bool.not_eq_true', Bool.not_eq_false', Bool.not_true, Bool.not_false]; first | assumption | omega)))) | ((with_reducible apply AW.condF); exact rfl; (focus ((simp only [decide_eq_true_eq, decide_eq_false_iff_not, Bool.not_eq_true', Bool.not_eq_false', Bool.not_true, Bool.not_false]; first | assumption | omega))))))
          refine ⟨_, _, _, by omega, (Or.inl ⟨rfl, (by repeat (first | exact trivial | (refine And.intro rfl ?_)))⟩), k + 1, rfl, by omega, fun q hq => ?_, rfl, rfl⟩
          rcases Nat.lt_succ_iff_lt_or_eq.1 hq with h | h
          · exact hno q h
          · rw [h]; exact hx
      · (repeat (first | (with_reducible refine AWo.cons ?_) | ((with_reducible refine Step.id ?_); first | ((with_reducible apply Step.assign); exact rfl; exact rfl) | ((with_reducible apply Step.lss); exact rfl; exact rfl; exact rfl)) | (with_reducible refine AWo.nil ?_) | ((with_reducible apply AW.seq)) | ((with_reducible apply Then.n)) | ((with_reducible apply AW.regL)) | ((with_reducible apply AW.exit)) | ((with_reducible apply InBlk.hit)) | ((with_reducible apply Then.e)) | ((with_reducible apply AW.condF); exact rfl; (focus ((simp only [decide_eq_true_eq, decide_eq_false_iff_not, Bool.not_eq_true', Bool.not_eq_false', Bool.not_true, Bool.not_false]; first | assumption | omega))))))
        obtain rfl : k = l.length := by omega
        (refine AW.retD (l := [(4, _), (5, _)]) (by repeat (first | exact trivial | (refine And.intro ⟨rfl, by (exact .int _ _)⟩ ?_))) ?_; (repeat (first | refine Then.r ?_ | refine InBlk.r ?_)))
        refine ⟨_, rfl, ?_, rfl⟩
        simp only [turnR, ht, ho, if_true, turnF]
        rw [idxF_miss (fun i hi => by rw [hS]; simpa using hno i hi)]
theorem awake_ok {m : AM} : ACall Try.prog 24 #[] m (Ret (.bool true) m) :=
  (ACall.of_calls (by kernel_rfl) (by kernel_rfl) fun w => closed_call fit (n := 400) (by kernel_rfl) (by kernel_rfl) (by kernel_rfl) w).mono fun _ _ ⟨a, b⟩ => ⟨a.symm, b.symm⟩
-- function 14
set_option maxRecDepth 100000 in
theorem BenchSpan_ok {m : AM} {v w : Value} {j : List Two} {l : List Int} (hj : Twos m v j) (hl : Ints m w l) (hlen : j.length ≤ 9223372036854775807) (hlen2 : l.length ≤ 9223372036854775807) : ACall Try.prog 14 #[v, w] m (Ret (.bool true) m) := by
  obtain ⟨a, o, h1, h2, h3⟩ := id hj
  obtain ⟨b, u, k1, k2, k3⟩ := id hl
  have hq1 := (spanR42 j l).1
  have hq2 := (spanR42 j l).2
  have hle : (j.take 42).length ≤ 1000 := by simp; omega
  have t1 := twos_new (M := m) (L := [gb (twoC (j.take 42)) 2]) (k := 0) (j := j.take 42) (by simp) rfl
  have t2 := twos_new (M := m) (L := [gb (twoC (j.take 42)) 2, gb (twoC (j.take 42)) 2]) (k := 1) (j := j.take 42) (by simp) rfl
  refine ACall.start Try.func14 rfl rfl ?_
  (repeat (first | (with_reducible refine AWo.cons ?_) | ((with_reducible refine Step.id ?_); first | ((with_reducible apply Step.gdT); exact rfl; exact rfl; (focus ((simp; done)))) | ((with_reducible apply Step.move); exact rfl; exact rfl) | ((with_reducible apply Step.assign); exact rfl; exact rfl) | ((with_reducible apply Step.eql); exact rfl; exact rfl; exact rfl) | ((with_reducible apply Step.extract); exact rfl; exact rfl; exact rfl) | ((with_reducible apply Step.pickT); exact rfl; exact rfl; exact rfl; exact rfl; (focus ((simp; done)))) | ((with_reducible apply Step.callG fit (k := 0)); exact rfl; exact rfl; exact Try.func21; exact rfl; exact rfl; exact (f21_ok (hj.old _) hlen); (focus (first | (simp only [List.nil_append, List.cons_append, List.set_cons_zero, List.set_cons_succ, iv_set, bv_set, iv_rep, bv_rep]; done) | (simp only [List.nil_append, List.cons_append, List.set_cons_zero, List.set_cons_succ, iv_set, bv_set, iv_rep, bv_rep]; rfl) | rfl))) | ((with_reducible apply Step.callG fit (k := 1)); exact rfl; exact rfl; exact Try.func21; exact rfl; exact rfl; exact (f21_ok (hj.old _) hlen); (focus (first | (simp only [List.nil_append, List.cons_append, List.set_cons_zero, List.set_cons_succ, iv_set, bv_set, iv_rep, bv_rep]; done) | (simp only [List.nil_append, List.cons_append, List.set_cons_zero, List.set_cons_succ, iv_set, bv_set, iv_rep, bv_rep]; rfl) | rfl))) | ((with_reducible apply Step.callR fit); exact rfl; exact Try.func51; exact rfl; exact rfl; exact (Span_ok t1 (hl.old _) hle hq1)) | ((with_reducible apply Step.callR fit); exact rfl; exact Try.func52; exact rfl; exact rfl; exact (RSpan_ok (hj.old _) (hl.old _) hlen hlen2 rfl)) | ((with_reducible apply Step.callR fit); exact rfl; exact Try.func53; exact rfl; exact rfl; exact (Turning_ok t2 (hl.old _) hle hq2)) | ((with_reducible apply Step.callR fit); exact rfl; exact Try.func54; exact rfl; exact rfl; exact (RTurning_ok (hj.old _) (hl.old _) hlen hlen2 rfl)) | ((with_reducible apply Step.callR fit); exact rfl; exact Try.func24; exact rfl; exact rfl; exact (awake_ok))) | (with_reducible refine AWo.nil ?_) | ((with_reducible apply AW.seq)) | ((with_reducible apply Then.n)) | ((with_reducible apply AW.regL))))
  (refine AW.retD (l := [(4, _)]) (by repeat (first | exact trivial | (refine And.intro ⟨rfl, by (exact .bool _)⟩ ?_))) ?_; (repeat (first | refine Then.r ?_ | refine InBlk.r ?_)))
  exact ⟨_, rfl, rfl, rfl⟩
theorem twos_rows {M : AM} {v : Value} {i n : Nat} {F : Nat → List Int} (h0 : ∀ k, (F k).length = 2) (h : Sl v i 0 n ∧ i < M.length ∧ ∀ k, k < n → RdL M i (0 + k * 2) (iv (F k))) : Twos M v ((List.range n).map fun k => ⟨(F k).getD 0 0, (F k).getD 1 0⟩) := by
  obtain ⟨h1, h2, h3⟩ := h
  refine ⟨i, 0, by simpa using h1, h2, fun k hk => ?_⟩
  have hk' : k < n := by simpa using hk
  have := h3 k hk'
  have e : iv (F k) = (((List.range n).map fun k => (⟨(F k).getD 0 0, (F k).getD 1 0⟩ : Two)).getD k default).cells := by
    simp only [List.getD_eq_getElem?_getD, List.getElem?_map, List.getElem?_range hk', Option.map_some, Option.getD_some, Two.cells]
    have h2 := h0 k
    match F k, h2 with
    | [x, y], _ => rfl
  rwa [← e]
end Go.Proofs.Ytmomjannlnafcaa.Abs
