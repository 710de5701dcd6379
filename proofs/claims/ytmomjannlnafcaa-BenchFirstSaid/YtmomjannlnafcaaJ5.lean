/- Chapter 8: the reference's Johnson walked; BenchJohnson walked. -/
import Derived.Test.YtmomjannlnafcaaJ4
namespace Go.Proofs.Ytmomjannlnafcaa.Abs
set_option linter.unusedSimpArgs false
set_option linter.unusedVariables false
open Go.RowKit
open Go.Proofs.Ytmomjannlnafcaa.Sim
open Go.Proofs
-- function 22
set_option maxRecDepth 100000 in
theorem RJohnson_ok {m : AM} {v : Value} {j : List Two} (hj : Twos m v j) (hok : twosB j = true) :
    ACall Try.prog 22 #[v] m (NewT (fun N => .tuple #[.slice (some ⟨N, 0, none⟩) j.length j.length, .int .i64 0]) (some { cells := iv (johnL j) }) m) := by
  obtain ⟨a, o, k1, k2, k3⟩ := id hj
  have h40 := (tlim_of hok).2
  have hT := leJ_to j
  have hSm : ∀ x ∈ johnL j, 0 ≤ x ∧ x < j.length := fun x hx => mem_upI.1 (ms_mem.1 hx)
  have hz := rowJ_zero (S := johnL j) (fun x hx => (hSm x hx).1) (johnL_len j)
  refine ACall.start Try.func22 rfl rfl ?_
  (repeat (first | (with_reducible refine AWo.cons ?_) | ((with_reducible refine Step.id ?_); first | ((with_reducible apply Step.move); exact rfl; exact rfl) | ((with_reducible apply Step.assign); exact rfl; exact rfl) | ((with_reducible apply Step.len); exact rfl; (focus (assumption)); (focus (decide +kernel)); exact rfl) | ((with_reducible apply Step.not); exact rfl; exact rfl) | ((with_reducible apply Step.callR fit); exact rfl; exact Try.func50; exact rfl; exact rfl; exact (RTwos_ok (hj.old []) (by omega) hok)) | ((with_reducible apply Step.make1 0); exact rfl; exact rfl; exact rfl; exact el23; (focus (omega)); exact rfl; (focus (first | (simp only [List.nil_append, List.cons_append, List.set_cons_zero, List.set_cons_succ, iv_set, bv_set, iv_rep, bv_rep]; done) | (simp only [List.nil_append, List.cons_append, List.set_cons_zero, List.set_cons_succ, iv_set, bv_set, iv_rep, bv_rep]; rfl) | rfl)))) | (with_reducible refine AWo.nil ?_) | ((with_reducible apply AW.seq)) | ((with_reducible apply Then.n)) | ((with_reducible apply AW.regL)) | ((with_reducible apply AW.block)) | ((with_reducible apply AW.skip)) | ((with_reducible apply AW.condF); exact rfl; (focus (rfl)))))
  refine AW.loopT (fun n t L => ∃ (i : Nat), n = j.length - i ∧ i ≤ j.length ∧ L = [some { cells := iv (rowJ (johnL j) i) }] ∧
    t = [(0, v), (4, .slice (some ⟨m.length + 0, 0, none⟩) j.length j.length), (15, .int .i64 (j.length : Nat)), (16, .int .i64 (i : Nat))]) ⟨_, _, _, (Or.inl ⟨rfl, (by repeat (first | exact trivial | (refine And.intro rfl ?_)))⟩), 0, rfl, Nat.zero_le _, by rw [hz], rfl⟩ ?_
  rintro n t L ⟨i, rfl, hi, rfl, rfl⟩
  rcases Nat.lt_or_ge i j.length with hlt | hge
  · (repeat (first | (with_reducible refine AWo.cons ?_) | ((with_reducible refine Step.id ?_); first | ((with_reducible apply Step.move); exact rfl; exact rfl) | ((with_reducible apply Step.assign); exact rfl; exact rfl) | ((with_reducible apply Step.lss); exact rfl; exact rfl; exact rfl) | ((with_reducible apply Step.len); exact rfl; (focus (assumption)); (focus (decide +kernel)); exact rfl)) | (with_reducible refine AWo.nil ?_) | ((with_reducible apply AW.seq)) | ((with_reducible apply Then.n)) | ((with_reducible apply AW.regL)) | ((with_reducible apply AW.block)) | ((with_reducible apply AW.skip)) | ((with_reducible apply AW.condT); exact rfl; (focus ((simp only [decide_eq_true_eq, decide_eq_false_iff_not, Bool.not_eq_true', Bool.not_eq_false', Bool.not_true, Bool.not_false]; first | assumption | omega))))))
    refine AW.loopT (fun n t L => ∃ (b c : Nat), n = j.length - b ∧ b ≤ j.length ∧ c = cntJ j i b ∧ L = [some { cells := iv (rowJ (johnL j) i) }] ∧
      t = [(0, v), (4, .slice (some ⟨m.length + 0, 0, none⟩) j.length j.length), (15, .int .i64 (j.length : Nat)), (16, .int .i64 (i : Nat)), (5, .int .i64 (i : Nat)), (6, .int .i64 (c : Nat)), (20, .int .i64 (j.length : Nat)), (21, .int .i64 (b : Nat))]) ⟨_, _, _, (Or.inl ⟨rfl, (by repeat (first | exact trivial | (refine And.intro rfl ?_)))⟩), 0, 0, rfl, Nat.zero_le _, rfl, rfl, rfl⟩ ?_
    rintro n t L ⟨b, c, rfl, hb, hc, rfl, rfl⟩
    have hcl := cntJ_le j i b
    have hcs := cntJ_succ j i b
    rcases Nat.lt_or_ge b j.length with hlt2 | hge2
    · by_cases hbi : b = i
      · rw [if_neg (by simp [hbi])] at hcs
        (repeat (first | (with_reducible refine AWo.cons ?_) | ((with_reducible refine Step.id ?_); first | ((with_reducible apply Step.gdF); exact rfl; exact rfl; (focus ((simp only [decide_eq_true_eq, decide_eq_false_iff_not, Bool.not_eq_true', Bool.not_eq_false', Bool.not_true, Bool.not_false]; first | assumption | omega)))) | ((with_reducible apply Step.move); exact rfl; exact rfl) | ((with_reducible apply Step.assign); exact rfl; exact rfl) | ((with_reducible apply Step.add); exact rfl; exact rfl; (focus (omega)); exact rfl) | ((with_reducible apply Step.lss); exact rfl; exact rfl; exact rfl) | ((with_reducible apply Step.neq); exact rfl; exact rfl; exact rfl) | ((with_reducible apply Step.pickF); exact rfl; exact rfl; exact rfl; exact rfl; (focus ((simp only [decide_eq_true_eq, decide_eq_false_iff_not, Bool.not_eq_true', Bool.not_eq_false', Bool.not_true, Bool.not_false]; first | assumption | omega))))) | (with_reducible refine AWo.nil ?_) | ((with_reducible apply AW.seq)) | ((with_reducible apply Then.n)) | ((with_reducible apply AW.regL)) | ((with_reducible apply AW.block)) | ((with_reducible apply InBlk.n)) | ((with_reducible apply AW.skip)) | ((with_reducible apply AW.condT); exact rfl; (focus ((simp only [decide_eq_true_eq, decide_eq_false_iff_not, Bool.not_eq_true', Bool.not_eq_false', Bool.not_true, Bool.not_false]; first | assumption | omega)))) | ((with_reducible apply AW.condF); exact rfl; (focus (rfl)))))
        exact ⟨_, _, _, by omega, (Or.inl ⟨rfl, (by repeat (first | exact trivial | (refine And.intro rfl ?_)))⟩), b + 1, c, rfl, by omega, by omega, rfl, rfl⟩
      · have ha := ahead_ok (m := m ++ [some { cells := iv (rowJ (johnL j) i) }]) b i (hj.old _) hlt2 hlt
        rw [aheadT_le hbi] at ha
        cases hle : leJ j b i with
        | true =>
          rw [if_pos ⟨hbi, hle⟩] at hcs
          rw [hle] at ha
          (repeat (first | (with_reducible refine AWo.cons ?_) | ((with_reducible refine Step.id ?_); first | ((with_reducible apply Step.gdT); exact rfl; exact rfl; (focus ((simp only [decide_eq_true_eq, decide_eq_false_iff_not, Bool.not_eq_true', Bool.not_eq_false', Bool.not_true, Bool.not_false]; first | assumption | omega)))) | ((with_reducible apply Step.move); exact rfl; exact rfl) | ((with_reducible apply Step.assign); exact rfl; exact rfl) | ((with_reducible apply Step.add); exact rfl; exact rfl; (focus (omega)); exact rfl) | ((with_reducible apply Step.lss); exact rfl; exact rfl; exact rfl) | ((with_reducible apply Step.neq); exact rfl; exact rfl; exact rfl) | ((with_reducible apply Step.pickT); exact rfl; exact rfl; exact rfl; exact rfl; (focus ((simp only [decide_eq_true_eq, decide_eq_false_iff_not, Bool.not_eq_true', Bool.not_eq_false', Bool.not_true, Bool.not_false]; first | assumption | omega)))) | ((with_reducible apply Step.callR fit); exact rfl; exact Try.func69; exact rfl; exact rfl; exact (ha))) | (with_reducible refine AWo.nil ?_) | ((with_reducible apply AW.seq)) | ((with_reducible apply Then.n)) | ((with_reducible apply AW.regL)) | ((with_reducible apply AW.block)) | ((with_reducible apply InBlk.n)) | ((with_reducible apply AW.skip)) | ((with_reducible apply AW.condT); exact rfl; (focus (first | rfl | (simp only [decide_eq_true_eq, decide_eq_false_iff_not, Bool.not_eq_true', Bool.not_eq_false', Bool.not_true, Bool.not_false]; first | assumption | omega))))))
          exact ⟨_, _, _, by omega, (Or.inl ⟨rfl, (by repeat (first | exact trivial | (refine And.intro rfl ?_)))⟩), b + 1, c + 1, rfl, by omega, by omega, rfl, rfl⟩
        | false =>
          rw [if_neg (by simp [hle])] at hcs
          rw [hle] at ha
          (repeat (first | (with_reducible refine AWo.cons ?_) | ((with_reducible refine Step.id ?_); first | ((with_reducible apply Step.gdT); exact rfl; exact rfl; (focus ((simp only [decide_eq_true_eq, decide_eq_false_iff_not, Bool.not_eq_true', Bool.not_eq_false', Bool.not_true, Bool.not_false]; first | assumption | omega)))) | ((with_reducible apply Step.move); exact rfl; exact rfl) | ((with_reducible apply Step.assign); exact rfl; exact rfl) | ((with_reducible apply Step.add); exact rfl; exact rfl; (focus (omega)); exact rfl) | ((with_reducible apply Step.lss); exact rfl; exact rfl; exact rfl) | ((with_reducible apply Step.neq); exact rfl; exact rfl; exact rfl) | ((with_reducible apply Step.pickT); exact rfl; exact rfl; exact rfl; exact rfl; (focus ((simp only [decide_eq_true_eq, decide_eq_false_iff_not, Bool.not_eq_true', Bool.not_eq_false', Bool.not_true, Bool.not_false]; first | assumption | omega)))) | ((with_reducible apply Step.callR fit); exact rfl; exact Try.func69; exact rfl; exact rfl; exact (ha))) | (with_reducible refine AWo.nil ?_) | ((with_reducible apply AW.seq)) | ((with_reducible apply Then.n)) | ((with_reducible apply AW.regL)) | ((with_reducible apply AW.block)) | ((with_reducible apply InBlk.n)) | ((with_reducible apply AW.skip)) | ((with_reducible apply AW.condT); exact rfl; (focus ((simp only [decide_eq_true_eq, decide_eq_false_iff_not, Bool.not_eq_true', Bool.not_eq_false', Bool.not_true, Bool.not_false]; first | assumption | omega)))) | ((with_reducible apply AW.condF); exact rfl; (focus (rfl)))))
          exact ⟨_, _, _, by omega, (Or.inl ⟨rfl, (by repeat (first | exact trivial | (refine And.intro rfl ?_)))⟩), b + 1, c, rfl, by omega, by omega, rfl, rfl⟩
    · obtain rfl : b = j.length := by omega
      have hr := cntJ_rank j i j.length
      have hr2 := rank_of hT (n := j.length) (a := (i : Int)) (by omega)
      have hset := rowJ_set hT (n := j.length) (a := i) hlt
      rw [← hr, ← hc] at hr2 hset
      have hr3 := hr2.1
      have hlr : (rowJ (johnL j) i).length = j.length := by simp [rowJ, johnL_len]
      have hset' : (rowJ (johnL j) i).set c i = rowJ (johnL j) (i + 1) := hset
      clear hcs hc hr hcl hset hr2
      generalize hrow : rowJ (johnL j) i = row at *
      (repeat (first | (with_reducible refine AWo.cons ?_) | ((with_reducible refine Step.id ?_); first | ((with_reducible apply Step.move); exact rfl; exact rfl) | ((with_reducible apply Step.ix1z); exact rfl; (focus (exact Sl.mk (by omega))); exact rfl; (focus (decide +kernel)); exact rfl; (focus (omega))) | ((with_reducible apply Step.add); exact rfl; exact rfl; (focus (omega)); exact rfl) | ((with_reducible apply Step.lss); exact rfl; exact rfl; exact rfl) | ((with_reducible apply Step.store (k := 0)); exact rfl; exact rfl; exact rfl; exact rfl; (focus (decide +kernel)); exact rfl; exact rfl; (focus (first | omega | (simp [iv, bv]; done) | (simp [iv, bv]; omega))); (focus (first | (simp only [List.nil_append, List.cons_append, List.set_cons_zero, List.set_cons_succ, iv_set, bv_set, iv_rep, bv_rep]; done) | (simp only [List.nil_append, List.cons_append, List.set_cons_zero, List.set_cons_succ, iv_set, bv_set, iv_rep, bv_rep]; rfl) | rfl)))) | (with_reducible refine AWo.nil ?_) | ((with_reducible apply AW.seq)) | ((with_reducible apply Then.n)) | ((with_reducible apply AW.regL)) | ((with_reducible apply AW.exit)) | ((with_reducible apply InBlk.n)) | ((with_reducible apply InBlk.hit)) | ((with_reducible apply Then.e)) | ((with_reducible apply AW.condF); exact rfl; (focus ((simp only [decide_eq_true_eq, decide_eq_false_iff_not, Bool.not_eq_true', Bool.not_eq_false', Bool.not_true, Bool.not_false]; first | assumption | omega))))))
      refine ⟨_, _, _, ?_, (Or.inl ⟨rfl, (by repeat (first | exact trivial | (refine And.intro rfl ?_)))⟩), i + 1, rfl, by omega, ?_, rfl⟩
      · omega
      · rw [← hset']
  · (repeat (first | (with_reducible refine AWo.cons ?_) | ((with_reducible refine Step.id ?_); first | ((with_reducible apply Step.move); exact rfl; exact rfl) | ((with_reducible apply Step.assign); exact rfl; exact rfl) | ((with_reducible apply Step.lss); exact rfl; exact rfl; exact rfl)) | (with_reducible refine AWo.nil ?_) | ((with_reducible apply AW.seq)) | ((with_reducible apply Then.n)) | ((with_reducible apply AW.regL)) | ((with_reducible apply AW.exit)) | ((with_reducible apply InBlk.hit)) | ((with_reducible apply Then.e)) | ((with_reducible apply AW.condF); exact rfl; (focus ((simp only [decide_eq_true_eq, decide_eq_false_iff_not, Bool.not_eq_true', Bool.not_eq_false', Bool.not_true, Bool.not_false]; first | assumption | omega))))))
    obtain rfl : i = j.length := by omega
    (refine AW.retB (l := [(2, _), (3, _)]) (Or.inl ⟨rfl, (by repeat (first | exact trivial | (refine And.intro rfl ?_)))⟩) ?_; (repeat (first | refine Then.r ?_ | refine InBlk.r ?_)))
    refine ⟨_, rfl, rfl, ?_⟩
    rw [rowJ_end fun x hx => (hSm x hx).2]
-- function 22
set_option maxRecDepth 100000 in
theorem RJohnson_no {m : AM} {v : Value} {j : List Two} (hj : Twos m v j) (hlen : j.length ≤ 9223372036854775807) (hok : twosB j = false) :
    ACall Try.prog 22 #[v] m (Ret (.tuple #[.slice none 0 0, .int .i64 2]) m) := by
  refine ACall.start Try.func22 rfl rfl ?_
  (repeat (first | (with_reducible refine AWo.cons ?_) | ((with_reducible refine Step.id ?_); first | ((with_reducible apply Step.move); exact rfl; exact rfl) | ((with_reducible apply Step.assign); exact rfl; exact rfl) | ((with_reducible apply Step.not); exact rfl; exact rfl) | ((with_reducible apply Step.callR fit); exact rfl; exact Try.func50; exact rfl; exact rfl; exact (RTwos_ok (hj.old []) hlen hok))) | (with_reducible refine AWo.nil ?_) | ((with_reducible apply AW.seq)) | ((with_reducible apply Then.n)) | ((with_reducible apply AW.regL)) | ((with_reducible apply AW.condT); exact rfl; (focus (rfl)))))
  (refine AW.retD (l := [(2, _), (3, _)]) (by repeat (first | exact trivial | (refine And.intro ⟨rfl, by (first | exact .int _ _ | exact Ren.of_g0 rfl)⟩ ?_))) ?_; (repeat (first | refine Then.r ?_ | refine InBlk.r ?_)))
  exact ⟨_, rfl, rfl, rfl⟩
-- function 3
set_option maxRecDepth 100000 in
theorem BenchJohnson_ok {m : AM} {v : Value} {j : List Two} (hj : Twos m v j) (hlen : j.length ≤ 9223372036854775807) : ACall Try.prog 3 #[v] m (Ret (.bool true) m) := by
  obtain ⟨a, o, h1, h2, h3⟩ := id hj
  have hM : 0 < m.length := by omega
  obtain ⟨t42, t42'⟩ := take42 j []
  have t1 := twos_new (M := m) (L := [gb (twoC (j.take 42)) 2]) (k := 0) (j := j.take 42) (by simp) rfl
  have hle : (j.take 42).length ≤ 100000 := by simp; omega
  refine ACall.start Try.func3 rfl rfl ?_
  cases ht : twosB j with
  | false =>
    rw [ht] at t42
    (repeat (first | (with_reducible refine AWo.cons ?_) | ((with_reducible refine Step.id ?_); first | ((with_reducible apply Step.gdT); exact rfl; exact rfl; (focus (rfl))) | ((with_reducible apply Step.move); exact rfl; exact rfl) | ((with_reducible apply Step.assign); exact rfl; exact rfl) | ((with_reducible apply Step.eql); exact rfl; exact rfl; exact rfl) | ((with_reducible apply Step.extract); exact rfl; exact rfl; exact rfl) | ((with_reducible apply Step.pickT); exact rfl; exact rfl; exact rfl; exact rfl; (focus (rfl))) | ((with_reducible apply Step.callG fit (k := 0)); exact rfl; exact rfl; exact Try.func21; exact rfl; exact rfl; exact (f21_ok (hj.old _) hlen); (focus (first | (simp only [List.nil_append, List.cons_append, List.set_cons_zero, List.set_cons_succ, iv_set, bv_set, iv_rep, bv_rep]; done) | (simp only [List.nil_append, List.cons_append, List.set_cons_zero, List.set_cons_succ, iv_set, bv_set, iv_rep, bv_rep]; rfl) | rfl))) | ((with_reducible apply Step.callR fit); exact rfl; exact Try.func20; exact rfl; exact rfl; exact (Johnson_no t1 hle t42)) | ((with_reducible apply Step.callR fit); exact rfl; exact Try.func22; exact rfl; exact rfl; exact (RJohnson_no (hj.old _) hlen ht)) | ((with_reducible apply Step.callR fit); exact rfl; exact Try.func23; exact rfl; exact rfl; exact (equal_ok ((ints_nil hM).old _) ((ints_nil hM).old _) (by simp) rfl)) | ((with_reducible apply Step.callR fit); exact rfl; exact Try.func24; exact rfl; exact rfl; exact (awake_ok))) | (with_reducible refine AWo.nil ?_) | ((with_reducible apply AW.seq)) | ((with_reducible apply Then.n)) | ((with_reducible apply AW.regL))))
    (refine AW.retD (l := [(2, _)]) (by repeat (first | exact trivial | (refine And.intro ⟨rfl, by (exact .bool _)⟩ ?_))) ?_; (repeat (first | refine Then.r ?_ | refine InBlk.r ?_)))
    exact ⟨_, rfl, rfl, rfl⟩
  | true =>
    rw [t42' ht] at t1 hle
    have g21 := f21_ok (hj.old []) hlen
    rw [t42' ht] at g21
    have hJ := Johnson_ok t1 hle ht
    have hR := RJohnson_ok (m := m ++ [gb (twoC j) 2, some { cells := iv (johnL j) }]) (hj.old _) ht
    have eq := equal_ok (m := m ++ [gb (twoC j) 2, some { cells := iv (johnL j) }, some { cells := iv (johnL j) }]) (l := johnL j) (k := johnL j) (ints_new (k := 1) rfl rfl j.length (johnL_len j).symm) (ints_new (k := 2) rfl rfl j.length (johnL_len j).symm) (by rw [johnL_len]; omega) (b := true) (by simp)
    (repeat (first | (with_reducible refine AWo.cons ?_) | ((with_reducible refine Step.id ?_); first | ((with_reducible apply Step.gdT); exact rfl; exact rfl; (focus (rfl))) | ((with_reducible apply Step.move); exact rfl; exact rfl) | ((with_reducible apply Step.assign); exact rfl; exact rfl) | ((with_reducible apply Step.eql); exact rfl; exact rfl; exact rfl) | ((with_reducible apply Step.extract); exact rfl; exact rfl; exact rfl) | ((with_reducible apply Step.pickT); exact rfl; exact rfl; exact rfl; exact rfl; (focus (rfl))) | ((with_reducible apply Step.callG fit (k := 0)); exact rfl; exact rfl; exact Try.func21; exact rfl; exact rfl; exact (g21); (focus (first | (simp only [List.nil_append, List.cons_append, List.set_cons_zero, List.set_cons_succ, iv_set, bv_set, iv_rep, bv_rep]; done) | (simp only [List.nil_append, List.cons_append, List.set_cons_zero, List.set_cons_succ, iv_set, bv_set, iv_rep, bv_rep]; rfl) | rfl))) | ((with_reducible apply Step.callT fit (k := 1)); exact rfl; exact rfl; exact Try.func20; exact rfl; exact rfl; exact (hJ); (focus (first | (simp only [List.nil_append, List.cons_append, List.set_cons_zero, List.set_cons_succ, iv_set, bv_set, iv_rep, bv_rep]; done) | (simp only [List.nil_append, List.cons_append, List.set_cons_zero, List.set_cons_succ, iv_set, bv_set, iv_rep, bv_rep]; rfl) | rfl))) | ((with_reducible apply Step.callT fit (k := 2)); exact rfl; exact rfl; exact Try.func22; exact rfl; exact rfl; exact (hR); (focus (first | (simp only [List.nil_append, List.cons_append, List.set_cons_zero, List.set_cons_succ, iv_set, bv_set, iv_rep, bv_rep]; done) | (simp only [List.nil_append, List.cons_append, List.set_cons_zero, List.set_cons_succ, iv_set, bv_set, iv_rep, bv_rep]; rfl) | rfl))) | ((with_reducible apply Step.callR fit); exact rfl; exact Try.func23; exact rfl; exact rfl; exact (eq)) | ((with_reducible apply Step.callR fit); exact rfl; exact Try.func24; exact rfl; exact rfl; exact (awake_ok))) | (with_reducible refine AWo.nil ?_) | ((with_reducible apply AW.seq)) | ((with_reducible apply Then.n)) | ((with_reducible apply AW.regL))))
    (refine AW.retD (l := [(2, _)]) (by repeat (first | exact trivial | (refine And.intro ⟨rfl, by (exact .bool _)⟩ ?_))) ?_; (repeat (first | refine Then.r ?_ | refine InBlk.r ?_)))
    exact ⟨_, rfl, rfl, rfl⟩
end Go.Proofs.Ytmomjannlnafcaa.Abs
