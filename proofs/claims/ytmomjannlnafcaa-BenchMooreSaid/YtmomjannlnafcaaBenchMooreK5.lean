/- Proved here: what the proof of BenchMoore rests on, part 5 of 5. Conditions: those that each theorem names. -/
import Derived.Test.YtmomjannlnafcaaBenchMooreK4
namespace Go.Proofs.Ytmomjannlnafcaa.Abs
set_option linter.unusedSimpArgs false
set_option linter.unusedVariables false
open Go.RowKit
open Go.Proofs.Ytmomjannlnafcaa.Sim
open Go.Proofs
set_option maxRecDepth 100000 in
theorem Moore_ok {m : AM} {v : Value} {j : List Job} (hj : Jobs m v j) (hok : jobsB j = true) : ACall Try.prog 60 #[v] m (More (fun M r => ∃ q c, r = .tuple #[.slice q (mooL j).length c, .int .i64 0] ∧ Ints M (.slice q (mooL j).length c) (mooL j)) m) := by
  have hJ := JOk.of hok
  have h40 := hJ.len
  refine ACall.start Try.func60 rfl rfl ?_
  (repeat (first | (with_reducible refine AWo.cons ?_) | ((with_reducible refine Step.id ?_); first | ((with_reducible apply Step.move); exact rfl; exact rfl) | ((with_reducible apply Step.assign); exact rfl; exact rfl) | ((with_reducible apply Step.not); exact rfl; exact rfl) | ((with_reducible apply Step.callR fit); exact rfl; exact Try.func88; exact rfl; exact rfl; exact (jobs_ok (hj.old []) (after_len hJ) (by omega) hok))) | (with_reducible refine AWo.nil ?_) | ((with_reducible apply AW.seq)) | ((with_reducible apply Then.n)) | ((with_reducible apply AW.regL)) | ((with_reducible apply AW.block)) | ((with_reducible apply AW.exit)) | ((with_reducible apply InBlk.n)) | ((with_reducible apply InBlk.hit)) | ((with_reducible apply InBlk.miss); exact rfl) | ((with_reducible apply Then.e)) | ((with_reducible apply AW.skip)) | ((with_reducible apply AW.condT); exact rfl; (focus (first | rfl | (simp only [decide_eq_true_eq, decide_eq_false_iff_not, Bool.not_eq_true', Bool.not_eq_false', Bool.not_true, Bool.not_false]; first | assumption | omega) | (simp; done) | (simp; omega)))) | ((with_reducible apply AW.condF); exact rfl; (focus (first | rfl | (simp only [decide_eq_true_eq, decide_eq_false_iff_not, Bool.not_eq_true', Bool.not_eq_false', Bool.not_true, Bool.not_false]; first | assumption | omega) | (simp; done) | (simp; omega))))))
  ((with_reducible apply Step.callX fit); exact rfl; exact Try.func97; exact rfl; exact rfl; exact (moore_ok (hj.old _) hJ))
  rintro u M hM ⟨hI, q, c, hu⟩
  subst hu
  obtain ⟨N, hN⟩ : ∃ N, M = m ++ N := by obtain ⟨N, rfl⟩ := hM; exact ⟨N, by simp⟩
  subst hN
  (repeat (first | (with_reducible refine AWo.cons ?_) | ((with_reducible refine Step.id ?_); first | ((with_reducible apply Step.move); exact rfl; exact rfl) | ((with_reducible apply Step.assign); exact rfl; exact rfl) | ((with_reducible apply Step.not); exact rfl; exact rfl)) | (with_reducible refine AWo.nil ?_) | ((with_reducible apply AW.seq)) | ((with_reducible apply Then.n)) | ((with_reducible apply AW.regL)) | ((with_reducible apply AW.block)) | ((with_reducible apply AW.exit)) | ((with_reducible apply InBlk.n)) | ((with_reducible apply InBlk.hit)) | ((with_reducible apply InBlk.miss); exact rfl) | ((with_reducible apply Then.e)) | ((with_reducible apply AW.skip)) | ((with_reducible apply AW.condT); exact rfl; (focus (first | rfl | (simp only [decide_eq_true_eq, decide_eq_false_iff_not, Bool.not_eq_true', Bool.not_eq_false', Bool.not_true, Bool.not_false]; first | assumption | omega) | (simp; done) | (simp; omega)))) | ((with_reducible apply AW.condF); exact rfl; (focus (first | rfl | (simp only [decide_eq_true_eq, decide_eq_false_iff_not, Bool.not_eq_true', Bool.not_eq_false', Bool.not_true, Bool.not_false]; first | assumption | omega) | (simp; done) | (simp; omega))))))
  (refine AW.ret ?_; (repeat (first | refine Then.r ?_ | refine InBlk.r ?_)))
  exact ⟨_, rfl, N ++ [], by simp, q, c, rfl, hI.old []⟩
set_option maxRecDepth 100000 in
theorem Moore_no {m : AM} {v : Value} {j : List Job} (hj : Jobs m v j) (hs : Short j) (hok : jobsB j = false) : ACall Try.prog 60 #[v] m (Ret (.tuple #[.slice none 0 0, .int .i64 2]) m) := by
  refine ACall.start Try.func60 rfl rfl ?_
  (repeat (first | (with_reducible refine AWo.cons ?_) | ((with_reducible refine Step.id ?_); first | ((with_reducible apply Step.move); exact rfl; exact rfl) | ((with_reducible apply Step.assign); exact rfl; exact rfl) | ((with_reducible apply Step.not); exact rfl; exact rfl) | ((with_reducible apply Step.callR fit); exact rfl; exact Try.func88; exact rfl; exact rfl; exact (jobs_ok (hj.old []) hs.2 hs.1 hok))) | (with_reducible refine AWo.nil ?_) | ((with_reducible apply AW.seq)) | ((with_reducible apply Then.n)) | ((with_reducible apply AW.regL)) | ((with_reducible apply AW.block)) | ((with_reducible apply AW.exit)) | ((with_reducible apply InBlk.n)) | ((with_reducible apply InBlk.hit)) | ((with_reducible apply InBlk.miss); exact rfl) | ((with_reducible apply Then.e)) | ((with_reducible apply AW.skip)) | ((with_reducible apply AW.condT); exact rfl; (focus (first | rfl | (simp only [decide_eq_true_eq, decide_eq_false_iff_not, Bool.not_eq_true', Bool.not_eq_false', Bool.not_true, Bool.not_false]; first | assumption | omega) | (simp; done) | (simp; omega)))) | ((with_reducible apply AW.condF); exact rfl; (focus (first | rfl | (simp only [decide_eq_true_eq, decide_eq_false_iff_not, Bool.not_eq_true', Bool.not_eq_false', Bool.not_true, Bool.not_false]; first | assumption | omega) | (simp; done) | (simp; omega))))))
  (refine AW.retD (l := [(2, _), (3, _)]) (by repeat (first | exact trivial | (refine And.intro ⟨rfl, by (first | exact .int _ _ | exact Ren.of_gv (by first | (simp; done) | omega | (simp; omega)) | exact .bool _ | exact Ren.of_g0 rfl | exact .slice _ _ _ _ (by first | (simp; done) | omega | (simp; omega)) | exact .ptr _ _ (by first | (simp; done) | omega | (simp; omega)) | exact Ren.of_sl (by assumption) (by first | omega | (simp; omega)))⟩ ?_))) ?_; (repeat (first | refine Then.r ?_ | refine InBlk.r ?_)))
  exact ⟨_, rfl, rfl, rfl⟩
set_option maxRecDepth 100000 in
theorem RMoore_no {m : AM} {v : Value} {j : List Job} (hj : Jobs m v j) (hs : Short j) (hok : jobsB j = false) : ACall Try.prog 61 #[v] m (Ret (.tuple #[.slice none 0 0, .int .i64 2]) m) := by
  refine ACall.start Try.func61 rfl rfl ?_
  (repeat (first | (with_reducible refine AWo.cons ?_) | ((with_reducible refine Step.id ?_); first | ((with_reducible apply Step.gdU); exact rfl; exact rfl) | ((with_reducible apply Step.gdT); exact rfl; exact rfl; (focus (first | rfl | (simp only [decide_eq_true_eq, decide_eq_false_iff_not, Bool.not_eq_true', Bool.not_eq_false', Bool.not_true, Bool.not_false]; first | assumption | omega) | (simp; done) | (simp; omega)))) | ((with_reducible apply Step.gdF); exact rfl; exact rfl; (focus (first | rfl | (simp only [decide_eq_true_eq, decide_eq_false_iff_not, Bool.not_eq_true', Bool.not_eq_false', Bool.not_true, Bool.not_false]; first | assumption | omega) | (simp; done) | (simp; omega)))) | ((with_reducible apply Step.move); exact rfl; exact rfl) | ((with_reducible apply Step.assign); exact rfl; exact rfl) | ((with_reducible apply Step.load); exact rfl; (focus (decide +kernel)); exact rfl; (focus (first | assumption | exact Rd.new rfl (iv_get (by first | omega | (simp; omega))) | exact Rd.new rfl (bv_get (by first | omega | (simp; omega))) | exact Rd.new rfl rfl | exact Rd.old _ (by assumption)))) | ((with_reducible apply Step.ix1z); exact rfl; (focus (first | assumption | exact Sl.mk (by omega) | exact gv_sl _ _ | exact Sl.nil _ _ | exact Sl.nil 0 0)); exact rfl; (focus (decide +kernel)); exact rfl; (focus (omega))) | ((with_reducible apply Step.ix1); exact rfl; (focus (first | assumption | exact Sl.mk (by omega) | exact gv_sl _ _ | exact Sl.nil _ _ | exact Sl.nil 0 0)); exact rfl; (focus (decide +kernel)); exact rfl; (focus (omega))) | ((with_reducible apply Step.field0); exact rfl; (focus (decide +kernel)); exact rfl) | ((with_reducible apply Step.add); exact rfl; exact rfl; (focus (omega)); exact rfl) | ((with_reducible apply Step.sub); exact rfl; exact rfl; (focus (omega)); exact rfl) | ((with_reducible apply Step.lss); exact rfl; exact rfl; exact rfl) | ((with_reducible apply Step.leq); exact rfl; exact rfl; exact rfl) | ((with_reducible apply Step.geq); exact rfl; exact rfl; exact rfl) | ((with_reducible apply Step.len); exact rfl; (focus (first | assumption | exact Sl.mk (by omega) | exact gv_sl _ _ | exact Sl.nil _ _ | exact Sl.nil 0 0)); (focus (decide +kernel)); exact rfl) | ((with_reducible apply Step.not); exact rfl; exact rfl) | ((with_reducible apply Step.pickT); exact rfl; exact rfl; exact rfl; exact rfl; (focus (first | rfl | (simp only [decide_eq_true_eq, decide_eq_false_iff_not, Bool.not_eq_true', Bool.not_eq_false', Bool.not_true, Bool.not_false]; first | assumption | omega) | (simp; done) | (simp; omega)))) | ((with_reducible apply Step.pickF); exact rfl; exact rfl; exact rfl; exact rfl; (focus (first | rfl | (simp only [decide_eq_true_eq, decide_eq_false_iff_not, Bool.not_eq_true', Bool.not_eq_false', Bool.not_true, Bool.not_false]; first | assumption | omega) | (simp; done) | (simp; omega)))) | ((with_reducible apply Step.callR fit); exact rfl; exact Try.func44; exact rfl; exact rfl; exact (RJobs_ok (hj.old []) hs.2 hs.1 hok)) | ((with_reducible apply Step.store (k := 0)); exact rfl; exact rfl; exact rfl; exact rfl; (focus (decide +kernel)); exact rfl; exact rfl; (focus (first | omega | (simp [iv, bv]; done) | (simp [iv, bv]; omega))); (focus (first | (simp only [List.nil_append, List.cons_append, List.set_cons_zero, List.set_cons_succ, iv_set, bv_set, iv_rep, bv_rep]; done) | (simp only [List.nil_append, List.cons_append, List.set_cons_zero, List.set_cons_succ, iv_set, bv_set, iv_rep, bv_rep]; rfl) | rfl))) | ((with_reducible apply Step.store (k := 1)); exact rfl; exact rfl; exact rfl; exact rfl; (focus (decide +kernel)); exact rfl; exact rfl; (focus (first | omega | (simp [iv, bv]; done) | (simp [iv, bv]; omega))); (focus (first | (simp only [List.nil_append, List.cons_append, List.set_cons_zero, List.set_cons_succ, iv_set, bv_set, iv_rep, bv_rep]; done) | (simp only [List.nil_append, List.cons_append, List.set_cons_zero, List.set_cons_succ, iv_set, bv_set, iv_rep, bv_rep]; rfl) | rfl))) | ((with_reducible apply Step.store (k := 2)); exact rfl; exact rfl; exact rfl; exact rfl; (focus (decide +kernel)); exact rfl; exact rfl; (focus (first | omega | (simp [iv, bv]; done) | (simp [iv, bv]; omega))); (focus (first | (simp only [List.nil_append, List.cons_append, List.set_cons_zero, List.set_cons_succ, iv_set, bv_set, iv_rep, bv_rep]; done) | (simp only [List.nil_append, List.cons_append, List.set_cons_zero, List.set_cons_succ, iv_set, bv_set, iv_rep, bv_rep]; rfl) | rfl))) | ((with_reducible apply Step.store (k := 3)); exact rfl; exact rfl; exact rfl; exact rfl; (focus (decide +kernel)); exact rfl; exact rfl; (focus (first | omega | (simp [iv, bv]; done) | (simp [iv, bv]; omega))); (focus (first | (simp only [List.nil_append, List.cons_append, List.set_cons_zero, List.set_cons_succ, iv_set, bv_set, iv_rep, bv_rep]; done) | (simp only [List.nil_append, List.cons_append, List.set_cons_zero, List.set_cons_succ, iv_set, bv_set, iv_rep, bv_rep]; rfl) | rfl)))) | (with_reducible refine AWo.nil ?_) | ((with_reducible apply AW.seq)) | ((with_reducible apply Then.n)) | ((with_reducible apply AW.regL)) | ((with_reducible apply AW.block)) | ((with_reducible apply AW.drawL fit); (focus (decide +kernel))) | ((with_reducible apply AW.exit)) | ((with_reducible apply InBlk.n)) | ((with_reducible apply InBlk.hit)) | ((with_reducible apply InBlk.miss); exact rfl) | ((with_reducible apply Then.e)) | ((with_reducible apply AW.skip)) | ((with_reducible apply AW.condT); exact rfl; (focus (first | rfl | (simp only [decide_eq_true_eq, decide_eq_false_iff_not, Bool.not_eq_true', Bool.not_eq_false', Bool.not_true, Bool.not_false]; first | assumption | omega) | (simp; done) | (simp; omega)))) | ((with_reducible apply AW.condF); exact rfl; (focus (first | rfl | (simp only [decide_eq_true_eq, decide_eq_false_iff_not, Bool.not_eq_true', Bool.not_eq_false', Bool.not_true, Bool.not_false]; first | assumption | omega) | (simp; done) | (simp; omega))))))
  (refine AW.retD (l := [(2, _), (3, _)]) (by repeat (first | exact trivial | (refine And.intro ⟨rfl, by (first | exact .int _ _ | exact Ren.of_gv (by first | (simp; done) | omega | (simp; omega)) | exact .bool _ | exact Ren.of_g0 rfl | exact .slice _ _ _ _ (by first | (simp; done) | omega | (simp; omega)) | exact .ptr _ _ (by first | (simp; done) | omega | (simp; omega)) | exact Ren.of_sl (by assumption) (by first | omega | (simp; omega)))⟩ ?_))) ?_; (repeat (first | refine Then.r ?_ | refine InBlk.r ?_)))
  exact ⟨_, rfl, rfl, rfl⟩
set_option maxRecDepth 100000 in
theorem Punctual_ok {m : AM} {v : Value} {j : List Job} (hj : Jobs m v j) (hok : jobsB j = true) : ACall Try.prog 62 #[v] m (Ret (.tuple #[.int .i64 ((mooL j).length : Nat), .int .i64 0]) m) := by
  have hJ := JOk.of hok
  have h40 := hJ.len
  refine ACall.start Try.func62 rfl rfl ?_
  (repeat (first | (with_reducible refine AWo.cons ?_) | ((with_reducible refine Step.id ?_); first | ((with_reducible apply Step.move); exact rfl; exact rfl) | ((with_reducible apply Step.assign); exact rfl; exact rfl) | ((with_reducible apply Step.len); exact rfl; (focus (first | assumption | exact Sl.mk (by omega) | exact gv_sl _ _ | exact Sl.nil _ _ | exact Sl.nil 0 0)); (focus (decide +kernel)); exact rfl) | ((with_reducible apply Step.not); exact rfl; exact rfl) | ((with_reducible apply Step.callR fit); exact rfl; exact Try.func88; exact rfl; exact rfl; exact (jobs_ok (hj.old []) (after_len hJ) (by omega) hok))) | (with_reducible refine AWo.nil ?_) | ((with_reducible apply AW.seq)) | ((with_reducible apply Then.n)) | ((with_reducible apply AW.regL)) | ((with_reducible apply AW.block)) | ((with_reducible apply AW.exit)) | ((with_reducible apply InBlk.n)) | ((with_reducible apply InBlk.hit)) | ((with_reducible apply InBlk.miss); exact rfl) | ((with_reducible apply Then.e)) | ((with_reducible apply AW.skip)) | ((with_reducible apply AW.condT); exact rfl; (focus (first | rfl | (simp only [decide_eq_true_eq, decide_eq_false_iff_not, Bool.not_eq_true', Bool.not_eq_false', Bool.not_true, Bool.not_false]; first | assumption | omega) | (simp; done) | (simp; omega)))) | ((with_reducible apply AW.condF); exact rfl; (focus (first | rfl | (simp only [decide_eq_true_eq, decide_eq_false_iff_not, Bool.not_eq_true', Bool.not_eq_false', Bool.not_true, Bool.not_false]; first | assumption | omega) | (simp; done) | (simp; omega))))))
  ((with_reducible apply Step.callX fit); exact rfl; exact Try.func97; exact rfl; exact rfl; exact (moore_ok (hj.old _) hJ))
  rintro u M hM ⟨hI, q, c, hu⟩
  obtain ⟨wa, wo, w1, w2, w3⟩ := id hI
  obtain ⟨N, hN⟩ : ∃ N, M = m ++ N := by obtain ⟨N, rfl⟩ := hM; exact ⟨N, by simp⟩
  subst hN
  (repeat (first | (with_reducible refine AWo.cons ?_) | ((with_reducible refine Step.id ?_); first | ((with_reducible apply Step.move); exact rfl; exact rfl) | ((with_reducible apply Step.assign); exact rfl; exact rfl) | ((with_reducible apply Step.len); exact rfl; (focus (first | assumption | exact Sl.mk (by omega) | exact gv_sl _ _ | exact Sl.nil _ _ | exact Sl.nil 0 0)); (focus (decide +kernel)); exact rfl) | ((with_reducible apply Step.not); exact rfl; exact rfl)) | (with_reducible refine AWo.nil ?_) | ((with_reducible apply AW.seq)) | ((with_reducible apply Then.n)) | ((with_reducible apply AW.regL)) | ((with_reducible apply AW.block)) | ((with_reducible apply AW.exit)) | ((with_reducible apply InBlk.n)) | ((with_reducible apply InBlk.hit)) | ((with_reducible apply InBlk.miss); exact rfl) | ((with_reducible apply Then.e)) | ((with_reducible apply AW.skip)) | ((with_reducible apply AW.condT); exact rfl; (focus (first | rfl | (simp only [decide_eq_true_eq, decide_eq_false_iff_not, Bool.not_eq_true', Bool.not_eq_false', Bool.not_true, Bool.not_false]; first | assumption | omega) | (simp; done) | (simp; omega)))) | ((with_reducible apply AW.condF); exact rfl; (focus (first | rfl | (simp only [decide_eq_true_eq, decide_eq_false_iff_not, Bool.not_eq_true', Bool.not_eq_false', Bool.not_true, Bool.not_false]; first | assumption | omega) | (simp; done) | (simp; omega))))))
  (refine AW.retX (l := [(2, _), (3, _)]) rfl (by repeat (first | exact trivial | (refine And.intro ⟨rfl, by (first | exact .int _ _ | exact Ren.of_gv (by first | (simp; done) | omega | (simp; omega)) | exact .bool _ | exact Ren.of_g0 rfl | exact .slice _ _ _ _ (by first | (simp; done) | omega | (simp; omega)) | exact .ptr _ _ (by first | (simp; done) | omega | (simp; omega)) | exact Ren.of_sl (by assumption) (by first | omega | (simp; omega)))⟩ ?_))) ?_; (repeat (first | refine Then.r ?_ | refine InBlk.r ?_)))
  exact ⟨_, rfl, rfl, rfl⟩
set_option maxRecDepth 100000 in
theorem Punctual_no {m : AM} {v : Value} {j : List Job} (hj : Jobs m v j) (hs : Short j) (hok : jobsB j = false) : ACall Try.prog 62 #[v] m (Ret (.tuple #[.int .i64 0, .int .i64 2]) m) := by
  refine ACall.start Try.func62 rfl rfl ?_
  (repeat (first | (with_reducible refine AWo.cons ?_) | ((with_reducible refine Step.id ?_); first | ((with_reducible apply Step.move); exact rfl; exact rfl) | ((with_reducible apply Step.assign); exact rfl; exact rfl) | ((with_reducible apply Step.len); exact rfl; (focus (first | assumption | exact Sl.mk (by omega) | exact gv_sl _ _ | exact Sl.nil _ _ | exact Sl.nil 0 0)); (focus (decide +kernel)); exact rfl) | ((with_reducible apply Step.not); exact rfl; exact rfl) | ((with_reducible apply Step.callR fit); exact rfl; exact Try.func88; exact rfl; exact rfl; exact (jobs_ok (hj.old []) hs.2 hs.1 hok))) | (with_reducible refine AWo.nil ?_) | ((with_reducible apply AW.seq)) | ((with_reducible apply Then.n)) | ((with_reducible apply AW.regL)) | ((with_reducible apply AW.block)) | ((with_reducible apply AW.exit)) | ((with_reducible apply InBlk.n)) | ((with_reducible apply InBlk.hit)) | ((with_reducible apply InBlk.miss); exact rfl) | ((with_reducible apply Then.e)) | ((with_reducible apply AW.skip)) | ((with_reducible apply AW.condT); exact rfl; (focus (first | rfl | (simp only [decide_eq_true_eq, decide_eq_false_iff_not, Bool.not_eq_true', Bool.not_eq_false', Bool.not_true, Bool.not_false]; first | assumption | omega) | (simp; done) | (simp; omega)))) | ((with_reducible apply AW.condF); exact rfl; (focus (first | rfl | (simp only [decide_eq_true_eq, decide_eq_false_iff_not, Bool.not_eq_true', Bool.not_eq_false', Bool.not_true, Bool.not_false]; first | assumption | omega) | (simp; done) | (simp; omega))))))
  (refine AW.retD (l := [(2, _), (3, _)]) (by repeat (first | exact trivial | (refine And.intro ⟨rfl, by (first | exact .int _ _ | exact Ren.of_gv (by first | (simp; done) | omega | (simp; omega)) | exact .bool _ | exact Ren.of_g0 rfl | exact .slice _ _ _ _ (by first | (simp; done) | omega | (simp; omega)) | exact .ptr _ _ (by first | (simp; done) | omega | (simp; omega)) | exact Ren.of_sl (by assumption) (by first | omega | (simp; omega)))⟩ ?_))) ?_; (repeat (first | refine Then.r ?_ | refine InBlk.r ?_)))
  exact ⟨_, rfl, rfl, rfl⟩
set_option maxRecDepth 100000 in
theorem RPunctual_no {m : AM} {v : Value} {j : List Job} (hj : Jobs m v j) (hs : Short j) (hok : jobsB j = false) : ACall Try.prog 63 #[v] m (Ret (.tuple #[.int .i64 0, .int .i64 2]) m) := by
  refine ACall.start Try.func63 rfl rfl ?_
  (repeat (first | (with_reducible refine AWo.cons ?_) | ((with_reducible refine Step.id ?_); first | ((with_reducible apply Step.move); exact rfl; exact rfl) | ((with_reducible apply Step.assign); exact rfl; exact rfl) | ((with_reducible apply Step.load); exact rfl; (focus (decide +kernel)); exact rfl; (focus (first | assumption | exact Rd.new rfl (iv_get (by first | omega | (simp; omega))) | exact Rd.new rfl (bv_get (by first | omega | (simp; omega))) | exact Rd.new rfl rfl | exact Rd.old _ (by assumption)))) | ((with_reducible apply Step.ix1z); exact rfl; (focus (first | assumption | exact Sl.mk (by omega) | exact gv_sl _ _ | exact Sl.nil _ _ | exact Sl.nil 0 0)); exact rfl; (focus (decide +kernel)); exact rfl; (focus (omega))) | ((with_reducible apply Step.ix1); exact rfl; (focus (first | assumption | exact Sl.mk (by omega) | exact gv_sl _ _ | exact Sl.nil _ _ | exact Sl.nil 0 0)); exact rfl; (focus (decide +kernel)); exact rfl; (focus (omega))) | ((with_reducible apply Step.field0); exact rfl; (focus (decide +kernel)); exact rfl) | ((with_reducible apply Step.add); exact rfl; exact rfl; (focus (omega)); exact rfl) | ((with_reducible apply Step.sub); exact rfl; exact rfl; (focus (omega)); exact rfl) | ((with_reducible apply Step.lss); exact rfl; exact rfl; exact rfl) | ((with_reducible apply Step.gtr); exact rfl; exact rfl; exact rfl) | ((with_reducible apply Step.geq); exact rfl; exact rfl; exact rfl) | ((with_reducible apply Step.eql); exact rfl; exact rfl; exact rfl) | ((with_reducible apply Step.eqNil); exact rfl; exact rfl; exact rfl; exact rfl) | ((with_reducible apply Step.len); exact rfl; (focus (first | assumption | exact Sl.mk (by omega) | exact gv_sl _ _ | exact Sl.nil _ _ | exact Sl.nil 0 0)); (focus (decide +kernel)); exact rfl) | ((with_reducible apply Step.min); exact rfl; exact rfl; exact rfl) | ((with_reducible apply Step.not); exact rfl; exact rfl) | ((with_reducible apply Step.callR fit); exact rfl; exact Try.func44; exact rfl; exact rfl; exact (RJobs_ok (hj.old []) hs.2 hs.1 hok)) | ((with_reducible apply Step.store (k := 0)); exact rfl; exact rfl; exact rfl; exact rfl; (focus (decide +kernel)); exact rfl; exact rfl; (focus (first | omega | (simp [iv, bv]; done) | (simp [iv, bv]; omega))); (focus (first | (simp only [List.nil_append, List.cons_append, List.set_cons_zero, List.set_cons_succ, iv_set, bv_set, iv_rep, bv_rep]; done) | (simp only [List.nil_append, List.cons_append, List.set_cons_zero, List.set_cons_succ, iv_set, bv_set, iv_rep, bv_rep]; rfl) | rfl))) | ((with_reducible apply Step.store (k := 1)); exact rfl; exact rfl; exact rfl; exact rfl; (focus (decide +kernel)); exact rfl; exact rfl; (focus (first | omega | (simp [iv, bv]; done) | (simp [iv, bv]; omega))); (focus (first | (simp only [List.nil_append, List.cons_append, List.set_cons_zero, List.set_cons_succ, iv_set, bv_set, iv_rep, bv_rep]; done) | (simp only [List.nil_append, List.cons_append, List.set_cons_zero, List.set_cons_succ, iv_set, bv_set, iv_rep, bv_rep]; rfl) | rfl))) | ((with_reducible apply Step.store (k := 2)); exact rfl; exact rfl; exact rfl; exact rfl; (focus (decide +kernel)); exact rfl; exact rfl; (focus (first | omega | (simp [iv, bv]; done) | (simp [iv, bv]; omega))); (focus (first | (simp only [List.nil_append, List.cons_append, List.set_cons_zero, List.set_cons_succ, iv_set, bv_set, iv_rep, bv_rep]; done) | (simp only [List.nil_append, List.cons_append, List.set_cons_zero, List.set_cons_succ, iv_set, bv_set, iv_rep, bv_rep]; rfl) | rfl))) | ((with_reducible apply Step.store (k := 3)); exact rfl; exact rfl; exact rfl; exact rfl; (focus (decide +kernel)); exact rfl; exact rfl; (focus (first | omega | (simp [iv, bv]; done) | (simp [iv, bv]; omega))); (focus (first | (simp only [List.nil_append, List.cons_append, List.set_cons_zero, List.set_cons_succ, iv_set, bv_set, iv_rep, bv_rep]; done) | (simp only [List.nil_append, List.cons_append, List.set_cons_zero, List.set_cons_succ, iv_set, bv_set, iv_rep, bv_rep]; rfl) | rfl)))) | (with_reducible refine AWo.nil ?_) | ((with_reducible apply AW.seq)) | ((with_reducible apply Then.n)) | ((with_reducible apply AW.regL)) | ((with_reducible apply AW.block)) | ((with_reducible apply AW.drawL fit); (focus (decide +kernel))) | ((with_reducible apply AW.exit)) | ((with_reducible apply InBlk.n)) | ((with_reducible apply InBlk.hit)) | ((with_reducible apply InBlk.miss); exact rfl) | ((with_reducible apply Then.e)) | ((with_reducible apply AW.skip)) | ((with_reducible apply AW.condT); exact rfl; (focus (first | rfl | (simp only [decide_eq_true_eq, decide_eq_false_iff_not, Bool.not_eq_true', Bool.not_eq_false', Bool.not_true, Bool.not_false]; first | assumption | omega) | (simp; done) | (simp; omega)))) | ((with_reducible apply AW.condF); exact rfl; (focus (first | rfl | (simp only [decide_eq_true_eq, decide_eq_false_iff_not, Bool.not_eq_true', Bool.not_eq_false', Bool.not_true, Bool.not_false]; first | assumption | omega) | (simp; done) | (simp; omega))))))
  (refine AW.retD (l := [(2, _), (3, _)]) (by repeat (first | exact trivial | (refine And.intro ⟨rfl, by (first | exact .int _ _ | exact Ren.of_gv (by first | (simp; done) | omega | (simp; omega)) | exact .bool _ | exact Ren.of_g0 rfl | exact .slice _ _ _ _ (by first | (simp; done) | omega | (simp; omega)) | exact .ptr _ _ (by first | (simp; done) | omega | (simp; omega)) | exact Ren.of_sl (by assumption) (by first | omega | (simp; omega)))⟩ ?_))) ?_; (repeat (first | refine Then.r ?_ | refine InBlk.r ?_)))
  exact ⟨_, rfl, rfl, rfl⟩
set_option maxHeartbeats 2000000 in
set_option maxRecDepth 100000 in
theorem BenchMoore_ok {m : AM} {v : Value} {j : List Job} (hj : Jobs m v j) (hs : Short j) : ACall Try.prog 17 #[v] m (Ret (.bool true) m) := by
  obtain ⟨a, o, h1, h2, h3⟩ := id hj
  refine ACall.start Try.func17 rfl rfl ?_
  (repeat (first | (with_reducible refine AWo.cons ?_) | ((with_reducible refine Step.id ?_); first | ((with_reducible apply Step.gdU); exact rfl; exact rfl) | ((with_reducible apply Step.gdT); exact rfl; exact rfl; (focus (first | rfl | (simp only [decide_eq_true_eq, decide_eq_false_iff_not, Bool.not_eq_true', Bool.not_eq_false', Bool.not_true, Bool.not_false]; first | assumption | omega) | (simp; done) | (simp; omega)))) | ((with_reducible apply Step.gdF); exact rfl; exact rfl; (focus (first | rfl | (simp only [decide_eq_true_eq, decide_eq_false_iff_not, Bool.not_eq_true', Bool.not_eq_false', Bool.not_true, Bool.not_false]; first | assumption | omega) | (simp; done) | (simp; omega)))) | ((with_reducible apply Step.move); exact rfl; exact rfl) | ((with_reducible apply Step.assign); exact rfl; exact rfl) | ((with_reducible apply Step.eql); exact rfl; exact rfl; exact rfl) | ((with_reducible apply Step.neq); exact rfl; exact rfl; exact rfl) | ((with_reducible apply Step.eqNil); exact rfl; exact rfl; exact rfl; exact rfl) | ((with_reducible apply Step.len); exact rfl; (focus (first | assumption | exact Sl.mk (by omega) | exact gv_sl _ _ | exact Sl.nil _ _ | exact Sl.nil 0 0)); (focus (decide +kernel)); exact rfl) | ((with_reducible apply Step.extract); exact rfl; exact rfl; exact rfl) | ((with_reducible apply Step.pickT); exact rfl; exact rfl; exact rfl; exact rfl; (focus (first | rfl | (simp only [decide_eq_true_eq, decide_eq_false_iff_not, Bool.not_eq_true', Bool.not_eq_false', Bool.not_true, Bool.not_false]; first | assumption | omega) | (simp; done) | (simp; omega)))) | ((with_reducible apply Step.pickF); exact rfl; exact rfl; exact rfl; exact rfl; (focus (first | rfl | (simp only [decide_eq_true_eq, decide_eq_false_iff_not, Bool.not_eq_true', Bool.not_eq_false', Bool.not_true, Bool.not_false]; first | assumption | omega) | (simp; done) | (simp; omega))))) | (with_reducible refine AWo.nil ?_) | ((with_reducible apply AW.seq)) | ((with_reducible apply Then.n)) | ((with_reducible apply AW.regL)) | ((with_reducible apply AW.block)) | ((with_reducible apply AW.exit)) | ((with_reducible apply InBlk.n)) | ((with_reducible apply InBlk.hit)) | ((with_reducible apply InBlk.miss); exact rfl) | ((with_reducible apply Then.e)) | ((with_reducible apply AW.skip)) | ((with_reducible apply AW.condT); exact rfl; (focus (first | rfl | (simp only [decide_eq_true_eq, decide_eq_false_iff_not, Bool.not_eq_true', Bool.not_eq_false', Bool.not_true, Bool.not_false]; first | assumption | omega) | (simp; done) | (simp; omega)))) | ((with_reducible apply AW.condF); exact rfl; (focus (first | rfl | (simp only [decide_eq_true_eq, decide_eq_false_iff_not, Bool.not_eq_true', Bool.not_eq_false', Bool.not_true, Bool.not_false]; first | assumption | omega) | (simp; done) | (simp; omega))))))
  ((with_reducible apply Step.callX fit); exact rfl; exact Try.func34; exact rfl; exact rfl; exact (f34_ok (hj.old []) hs))
  intro v1 M1 hM1 hJ1
  obtain ⟨N1, hN1⟩ : ∃ N, M1 = m ++ N := by obtain ⟨N, rfl⟩ := hM1; exact ⟨N, by simp⟩
  have hj1 : Jobs M1 v j := by rw [hN1]; exact hj.old N1
  cases hok : jobsB j with
  | true =>
    have hJ := JOk.of hok
    have h40 := hJ.len
    rw [conv_self hok] at hJ1
    have hml : (mooL j).length = (mooN j j.length).on.length := srt_len _
    have hlm : (mooL j).length ≤ 40 := by have := (mooN_inv j j.length (Nat.le_refl _)).len; omega
    have rp := fun (M : AM) (h : Jobs M v j) => RPunctual_ok h hs hok
    rw [← hml] at rp
    (repeat (first | (with_reducible refine AWo.cons ?_) | ((with_reducible refine Step.id ?_); first | ((with_reducible apply Step.gdU); exact rfl; exact rfl) | ((with_reducible apply Step.gdT); exact rfl; exact rfl; (focus (first | rfl | (simp only [decide_eq_true_eq, decide_eq_false_iff_not, Bool.not_eq_true', Bool.not_eq_false', Bool.not_true, Bool.not_false]; first | assumption | omega) | (simp; done) | (simp; omega)))) | ((with_reducible apply Step.gdF); exact rfl; exact rfl; (focus (first | rfl | (simp only [decide_eq_true_eq, decide_eq_false_iff_not, Bool.not_eq_true', Bool.not_eq_false', Bool.not_true, Bool.not_false]; first | assumption | omega) | (simp; done) | (simp; omega)))) | ((with_reducible apply Step.move); exact rfl; exact rfl) | ((with_reducible apply Step.assign); exact rfl; exact rfl) | ((with_reducible apply Step.eql); exact rfl; exact rfl; exact rfl) | ((with_reducible apply Step.neq); exact rfl; exact rfl; exact rfl) | ((with_reducible apply Step.eqNil); exact rfl; exact rfl; exact rfl; exact rfl) | ((with_reducible apply Step.len); exact rfl; (focus (first | assumption | exact Sl.mk (by omega) | exact gv_sl _ _ | exact Sl.nil _ _ | exact Sl.nil 0 0)); (focus (decide +kernel)); exact rfl) | ((with_reducible apply Step.extract); exact rfl; exact rfl; exact rfl) | ((with_reducible apply Step.pickT); exact rfl; exact rfl; exact rfl; exact rfl; (focus (first | rfl | (simp only [decide_eq_true_eq, decide_eq_false_iff_not, Bool.not_eq_true', Bool.not_eq_false', Bool.not_true, Bool.not_false]; first | assumption | omega) | (simp; done) | (simp; omega)))) | ((with_reducible apply Step.pickF); exact rfl; exact rfl; exact rfl; exact rfl; (focus (first | rfl | (simp only [decide_eq_true_eq, decide_eq_false_iff_not, Bool.not_eq_true', Bool.not_eq_false', Bool.not_true, Bool.not_false]; first | assumption | omega) | (simp; done) | (simp; omega))))) | (with_reducible refine AWo.nil ?_) | ((with_reducible apply AW.seq)) | ((with_reducible apply Then.n)) | ((with_reducible apply AW.regL)) | ((with_reducible apply AW.block)) | ((with_reducible apply AW.exit)) | ((with_reducible apply InBlk.n)) | ((with_reducible apply InBlk.hit)) | ((with_reducible apply InBlk.miss); exact rfl) | ((with_reducible apply Then.e)) | ((with_reducible apply AW.skip)) | ((with_reducible apply AW.condT); exact rfl; (focus (first | rfl | (simp only [decide_eq_true_eq, decide_eq_false_iff_not, Bool.not_eq_true', Bool.not_eq_false', Bool.not_true, Bool.not_false]; first | assumption | omega) | (simp; done) | (simp; omega)))) | ((with_reducible apply AW.condF); exact rfl; (focus (first | rfl | (simp only [decide_eq_true_eq, decide_eq_false_iff_not, Bool.not_eq_true', Bool.not_eq_false', Bool.not_true, Bool.not_false]; first | assumption | omega) | (simp; done) | (simp; omega))))))
    ((with_reducible apply Step.callX fit); exact rfl; exact Try.func60; exact rfl; exact rfl; exact (Moore_ok (hJ1.old _) hok))
    rintro u M2 hM2 ⟨q, c, rfl, hI⟩
    obtain ⟨N2, hN2⟩ : ∃ N, M2 = m ++ N := by obtain ⟨N, rfl⟩ := hM2; exact ⟨N1 ++ N, by rw [hN1]; simp⟩
    have hj2 : Jobs M2 v j := by rw [hN2]; exact hj.old N2
    (repeat (first | (with_reducible refine AWo.cons ?_) | ((with_reducible refine Step.id ?_); first | ((with_reducible apply Step.gdU); exact rfl; exact rfl) | ((with_reducible apply Step.gdT); exact rfl; exact rfl; (focus (first | rfl | (simp only [decide_eq_true_eq, decide_eq_false_iff_not, Bool.not_eq_true', Bool.not_eq_false', Bool.not_true, Bool.not_false]; first | assumption | omega) | (simp; done) | (simp; omega)))) | ((with_reducible apply Step.gdF); exact rfl; exact rfl; (focus (first | rfl | (simp only [decide_eq_true_eq, decide_eq_false_iff_not, Bool.not_eq_true', Bool.not_eq_false', Bool.not_true, Bool.not_false]; first | assumption | omega) | (simp; done) | (simp; omega)))) | ((with_reducible apply Step.move); exact rfl; exact rfl) | ((with_reducible apply Step.assign); exact rfl; exact rfl) | ((with_reducible apply Step.eql); exact rfl; exact rfl; exact rfl) | ((with_reducible apply Step.neq); exact rfl; exact rfl; exact rfl) | ((with_reducible apply Step.eqNil); exact rfl; exact rfl; exact rfl; exact rfl) | ((with_reducible apply Step.len); exact rfl; (focus (first | assumption | exact Sl.mk (by omega) | exact gv_sl _ _ | exact Sl.nil _ _ | exact Sl.nil 0 0)); (focus (decide +kernel)); exact rfl) | ((with_reducible apply Step.extract); exact rfl; exact rfl; exact rfl) | ((with_reducible apply Step.pickT); exact rfl; exact rfl; exact rfl; exact rfl; (focus (first | rfl | (simp only [decide_eq_true_eq, decide_eq_false_iff_not, Bool.not_eq_true', Bool.not_eq_false', Bool.not_true, Bool.not_false]; first | assumption | omega) | (simp; done) | (simp; omega)))) | ((with_reducible apply Step.pickF); exact rfl; exact rfl; exact rfl; exact rfl; (focus (first | rfl | (simp only [decide_eq_true_eq, decide_eq_false_iff_not, Bool.not_eq_true', Bool.not_eq_false', Bool.not_true, Bool.not_false]; first | assumption | omega) | (simp; done) | (simp; omega)))) | ((with_reducible apply Step.callT fit (k := 0)); exact rfl; exact rfl; exact Try.func61; exact rfl; exact rfl; exact (RMoore_ok (hj2.old _) hs hok); (focus (first | (simp only [List.nil_append, List.cons_append, List.set_cons_zero, List.set_cons_succ, iv_set, bv_set, iv_rep, bv_rep]; done) | (simp only [List.nil_append, List.cons_append, List.set_cons_zero, List.set_cons_succ, iv_set, bv_set, iv_rep, bv_rep]; rfl) | rfl))) | ((with_reducible apply Step.callT fit (k := 1)); exact rfl; exact rfl; exact Try.func61; exact rfl; exact rfl; exact (RMoore_ok (hj2.old _) hs hok); (focus (first | (simp only [List.nil_append, List.cons_append, List.set_cons_zero, List.set_cons_succ, iv_set, bv_set, iv_rep, bv_rep]; done) | (simp only [List.nil_append, List.cons_append, List.set_cons_zero, List.set_cons_succ, iv_set, bv_set, iv_rep, bv_rep]; rfl) | rfl))) | ((with_reducible apply Step.callT fit (k := 2)); exact rfl; exact rfl; exact Try.func61; exact rfl; exact rfl; exact (RMoore_ok (hj2.old _) hs hok); (focus (first | (simp only [List.nil_append, List.cons_append, List.set_cons_zero, List.set_cons_succ, iv_set, bv_set, iv_rep, bv_rep]; done) | (simp only [List.nil_append, List.cons_append, List.set_cons_zero, List.set_cons_succ, iv_set, bv_set, iv_rep, bv_rep]; rfl) | rfl))) | ((with_reducible apply Step.callT fit (k := 3)); exact rfl; exact rfl; exact Try.func61; exact rfl; exact rfl; exact (RMoore_ok (hj2.old _) hs hok); (focus (first | (simp only [List.nil_append, List.cons_append, List.set_cons_zero, List.set_cons_succ, iv_set, bv_set, iv_rep, bv_rep]; done) | (simp only [List.nil_append, List.cons_append, List.set_cons_zero, List.set_cons_succ, iv_set, bv_set, iv_rep, bv_rep]; rfl) | rfl)))) | (with_reducible refine AWo.nil ?_) | ((with_reducible apply AW.seq)) | ((with_reducible apply Then.n)) | ((with_reducible apply AW.regL)) | ((with_reducible apply AW.block)) | ((with_reducible apply AW.exit)) | ((with_reducible apply InBlk.n)) | ((with_reducible apply InBlk.hit)) | ((with_reducible apply InBlk.miss); exact rfl) | ((with_reducible apply Then.e)) | ((with_reducible apply AW.skip)) | ((with_reducible apply AW.condT); exact rfl; (focus (first | rfl | (simp only [decide_eq_true_eq, decide_eq_false_iff_not, Bool.not_eq_true', Bool.not_eq_false', Bool.not_true, Bool.not_false]; first | assumption | omega) | (simp; done) | (simp; omega)))) | ((with_reducible apply AW.condF); exact rfl; (focus (first | rfl | (simp only [decide_eq_true_eq, decide_eq_false_iff_not, Bool.not_eq_true', Bool.not_eq_false', Bool.not_true, Bool.not_false]; first | assumption | omega) | (simp; done) | (simp; omega))))))
    ((with_reducible apply Step.callX fit); exact rfl; exact Try.func34; exact rfl; exact rfl; exact (f34_ok (hj2.old _) hs))
    intro v3 M3 hM3 hJ3
    rw [conv_self hok] at hJ3
    obtain ⟨N3, hN3⟩ := hM3
    have i1 : Ints M3 (.slice q (mooL j).length c) (mooL j) := by rw [hN3]; exact (hI.old _).old N3
    have i2 : Ints M3 (gv (M2.length + 0) (mooL j).length) (mooL j) := by rw [hN3]; exact (gints (k := 0) rfl rfl).old N3
    have j3 : Jobs M3 v j := by rw [hN3]; exact (hj2.old _).old N3
    obtain ⟨wa, wo, w1, w2, w3⟩ := id i1
    obtain ⟨N, hN⟩ : ∃ N, M3 = m ++ N := by rw [hN3, hN2]; exact ⟨_, by simp only [List.append_assoc]; rfl⟩
    clear hN3 hN2
    subst hN
    (repeat (first | (with_reducible refine AWo.cons ?_) | ((with_reducible refine Step.id ?_); first | ((with_reducible apply Step.gdU); exact rfl; exact rfl) | ((with_reducible apply Step.gdT); exact rfl; exact rfl; (focus (first | rfl | (simp only [decide_eq_true_eq, decide_eq_false_iff_not, Bool.not_eq_true', Bool.not_eq_false', Bool.not_true, Bool.not_false]; first | assumption | omega) | (simp; done) | (simp; omega)))) | ((with_reducible apply Step.gdF); exact rfl; exact rfl; (focus (first | rfl | (simp only [decide_eq_true_eq, decide_eq_false_iff_not, Bool.not_eq_true', Bool.not_eq_false', Bool.not_true, Bool.not_false]; first | assumption | omega) | (simp; done) | (simp; omega)))) | ((with_reducible apply Step.move); exact rfl; exact rfl) | ((with_reducible apply Step.assign); exact rfl; exact rfl) | ((with_reducible apply Step.eql); exact rfl; exact rfl; exact rfl) | ((with_reducible apply Step.neq); exact rfl; exact rfl; exact rfl) | ((with_reducible apply Step.eqNil); exact rfl; exact rfl; exact rfl; exact rfl) | ((with_reducible apply Step.len); exact rfl; (focus (first | assumption | exact Sl.mk (by omega) | exact gv_sl _ _ | exact Sl.nil _ _ | exact Sl.nil 0 0)); (focus (decide +kernel)); exact rfl) | ((with_reducible apply Step.extract); exact rfl; exact rfl; exact rfl) | ((with_reducible apply Step.pickT); exact rfl; exact rfl; exact rfl; exact rfl; (focus (first | rfl | (simp only [decide_eq_true_eq, decide_eq_false_iff_not, Bool.not_eq_true', Bool.not_eq_false', Bool.not_true, Bool.not_false]; first | assumption | omega) | (simp; done) | (simp; omega)))) | ((with_reducible apply Step.pickF); exact rfl; exact rfl; exact rfl; exact rfl; (focus (first | rfl | (simp only [decide_eq_true_eq, decide_eq_false_iff_not, Bool.not_eq_true', Bool.not_eq_false', Bool.not_true, Bool.not_false]; first | assumption | omega) | (simp; done) | (simp; omega)))) | ((with_reducible apply Step.callR fit); exact rfl; exact Try.func62; exact rfl; exact rfl; exact (Punctual_ok (hJ3.old _) hok)) | ((with_reducible apply Step.callR fit); exact rfl; exact Try.func63; exact rfl; exact rfl; exact (rp _ (j3.old _))) | ((with_reducible apply Step.callR fit); exact rfl; exact Try.func23; exact rfl; exact rfl; exact (equal_ok (i1.old _) (i2.old _) (by omega) (b := true) (by simp))) | ((with_reducible apply Step.callR fit); exact rfl; exact Try.func24; exact rfl; exact rfl; exact (awake_ok))) | (with_reducible refine AWo.nil ?_) | ((with_reducible apply AW.seq)) | ((with_reducible apply Then.n)) | ((with_reducible apply AW.regL)) | ((with_reducible apply AW.block)) | ((with_reducible apply AW.exit)) | ((with_reducible apply InBlk.n)) | ((with_reducible apply InBlk.hit)) | ((with_reducible apply InBlk.miss); exact rfl) | ((with_reducible apply Then.e)) | ((with_reducible apply AW.skip)) | ((with_reducible apply AW.condT); exact rfl; (focus (first | rfl | (simp only [decide_eq_true_eq, decide_eq_false_iff_not, Bool.not_eq_true', Bool.not_eq_false', Bool.not_true, Bool.not_false]; first | assumption | omega) | (simp; done) | (simp; omega)))) | ((with_reducible apply AW.condF); exact rfl; (focus (first | rfl | (simp only [decide_eq_true_eq, decide_eq_false_iff_not, Bool.not_eq_true', Bool.not_eq_false', Bool.not_true, Bool.not_false]; first | assumption | omega) | (simp; done) | (simp; omega))))))
    (refine AW.retX (l := [(2, _)]) rfl (by repeat (first | exact trivial | (refine And.intro ⟨rfl, by (first | exact .int _ _ | exact Ren.of_gv (by first | (simp; done) | omega | (simp; omega)) | exact .bool _ | exact Ren.of_g0 rfl | exact .slice _ _ _ _ (by first | (simp; done) | omega | (simp; omega)) | exact .ptr _ _ (by first | (simp; done) | omega | (simp; omega)) | exact Ren.of_sl (by assumption) (by first | omega | (simp; omega)))⟩ ?_))) ?_; (repeat (first | refine Then.r ?_ | refine InBlk.r ?_)))
    exact ⟨_, rfl, by simp, rfl⟩
  | false =>
    have hno := conv_not hok
    (repeat (first | (with_reducible refine AWo.cons ?_) | ((with_reducible refine Step.id ?_); first | ((with_reducible apply Step.gdU); exact rfl; exact rfl) | ((with_reducible apply Step.gdT); exact rfl; exact rfl; (focus (first | rfl | (simp only [decide_eq_true_eq, decide_eq_false_iff_not, Bool.not_eq_true', Bool.not_eq_false', Bool.not_true, Bool.not_false]; first | assumption | omega) | (simp; done) | (simp; omega)))) | ((with_reducible apply Step.gdF); exact rfl; exact rfl; (focus (first | rfl | (simp only [decide_eq_true_eq, decide_eq_false_iff_not, Bool.not_eq_true', Bool.not_eq_false', Bool.not_true, Bool.not_false]; first | assumption | omega) | (simp; done) | (simp; omega)))) | ((with_reducible apply Step.move); exact rfl; exact rfl) | ((with_reducible apply Step.assign); exact rfl; exact rfl) | ((with_reducible apply Step.eql); exact rfl; exact rfl; exact rfl) | ((with_reducible apply Step.neq); exact rfl; exact rfl; exact rfl) | ((with_reducible apply Step.eqNil); exact rfl; exact rfl; exact rfl; exact rfl) | ((with_reducible apply Step.len); exact rfl; (focus (first | assumption | exact Sl.mk (by omega) | exact gv_sl _ _ | exact Sl.nil _ _ | exact Sl.nil 0 0)); (focus (decide +kernel)); exact rfl) | ((with_reducible apply Step.extract); exact rfl; exact rfl; exact rfl) | ((with_reducible apply Step.pickT); exact rfl; exact rfl; exact rfl; exact rfl; (focus (first | rfl | (simp only [decide_eq_true_eq, decide_eq_false_iff_not, Bool.not_eq_true', Bool.not_eq_false', Bool.not_true, Bool.not_false]; first | assumption | omega) | (simp; done) | (simp; omega)))) | ((with_reducible apply Step.pickF); exact rfl; exact rfl; exact rfl; exact rfl; (focus (first | rfl | (simp only [decide_eq_true_eq, decide_eq_false_iff_not, Bool.not_eq_true', Bool.not_eq_false', Bool.not_true, Bool.not_false]; first | assumption | omega) | (simp; done) | (simp; omega)))) | ((with_reducible apply Step.callR fit); exact rfl; exact Try.func60; exact rfl; exact rfl; exact (Moore_no (hJ1.old _) (conv_short j) hno)) | ((with_reducible apply Step.callR fit); exact rfl; exact Try.func61; exact rfl; exact rfl; exact (RMoore_no (hj1.old _) hs hok))) | (with_reducible refine AWo.nil ?_) | ((with_reducible apply AW.seq)) | ((with_reducible apply Then.n)) | ((with_reducible apply AW.regL)) | ((with_reducible apply AW.block)) | ((with_reducible apply AW.exit)) | ((with_reducible apply InBlk.n)) | ((with_reducible apply InBlk.hit)) | ((with_reducible apply InBlk.miss); exact rfl) | ((with_reducible apply Then.e)) | ((with_reducible apply AW.skip)) | ((with_reducible apply AW.condT); exact rfl; (focus (first | rfl | (simp only [decide_eq_true_eq, decide_eq_false_iff_not, Bool.not_eq_true', Bool.not_eq_false', Bool.not_true, Bool.not_false]; first | assumption | omega) | (simp; done) | (simp; omega)))) | ((with_reducible apply AW.condF); exact rfl; (focus (first | rfl | (simp only [decide_eq_true_eq, decide_eq_false_iff_not, Bool.not_eq_true', Bool.not_eq_false', Bool.not_true, Bool.not_false]; first | assumption | omega) | (simp; done) | (simp; omega))))))
    ((with_reducible apply Step.callX fit); exact rfl; exact Try.func34; exact rfl; exact rfl; exact (f34_ok (hj1.old _) hs))
    intro v3 M3 hM3 hJ3
    obtain ⟨N, hN⟩ : ∃ N, M3 = m ++ N := by obtain ⟨N, rfl⟩ := hM3; exact ⟨N1 ++ N, by rw [hN1]; simp⟩
    have j3 : Jobs M3 v j := by rw [hN]; exact hj.old N
    subst hN
    (repeat (first | (with_reducible refine AWo.cons ?_) | ((with_reducible refine Step.id ?_); first | ((with_reducible apply Step.gdU); exact rfl; exact rfl) | ((with_reducible apply Step.gdT); exact rfl; exact rfl; (focus (first | rfl | (simp only [decide_eq_true_eq, decide_eq_false_iff_not, Bool.not_eq_true', Bool.not_eq_false', Bool.not_true, Bool.not_false]; first | assumption | omega) | (simp; done) | (simp; omega)))) | ((with_reducible apply Step.gdF); exact rfl; exact rfl; (focus (first | rfl | (simp only [decide_eq_true_eq, decide_eq_false_iff_not, Bool.not_eq_true', Bool.not_eq_false', Bool.not_true, Bool.not_false]; first | assumption | omega) | (simp; done) | (simp; omega)))) | ((with_reducible apply Step.move); exact rfl; exact rfl) | ((with_reducible apply Step.assign); exact rfl; exact rfl) | ((with_reducible apply Step.eql); exact rfl; exact rfl; exact rfl) | ((with_reducible apply Step.neq); exact rfl; exact rfl; exact rfl) | ((with_reducible apply Step.eqNil); exact rfl; exact rfl; exact rfl; exact rfl) | ((with_reducible apply Step.len); exact rfl; (focus (first | assumption | exact Sl.mk (by omega) | exact gv_sl _ _ | exact Sl.nil _ _ | exact Sl.nil 0 0)); (focus (decide +kernel)); exact rfl) | ((with_reducible apply Step.extract); exact rfl; exact rfl; exact rfl) | ((with_reducible apply Step.pickT); exact rfl; exact rfl; exact rfl; exact rfl; (focus (first | rfl | (simp only [decide_eq_true_eq, decide_eq_false_iff_not, Bool.not_eq_true', Bool.not_eq_false', Bool.not_true, Bool.not_false]; first | assumption | omega) | (simp; done) | (simp; omega)))) | ((with_reducible apply Step.pickF); exact rfl; exact rfl; exact rfl; exact rfl; (focus (first | rfl | (simp only [decide_eq_true_eq, decide_eq_false_iff_not, Bool.not_eq_true', Bool.not_eq_false', Bool.not_true, Bool.not_false]; first | assumption | omega) | (simp; done) | (simp; omega)))) | ((with_reducible apply Step.callR fit); exact rfl; exact Try.func62; exact rfl; exact rfl; exact (Punctual_no (hJ3.old _) (conv_short j) hno)) | ((with_reducible apply Step.callR fit); exact rfl; exact Try.func63; exact rfl; exact rfl; exact (RPunctual_no (j3.old _) hs hok)) | ((with_reducible apply Step.callR fit); exact rfl; exact Try.func23; exact rfl; exact rfl; exact (equal_ok (ints_nil (by simp; omega)) (ints_nil (by simp; omega)) (by simp) (b := true) rfl)) | ((with_reducible apply Step.callR fit); exact rfl; exact Try.func24; exact rfl; exact rfl; exact (awake_ok))) | (with_reducible refine AWo.nil ?_) | ((with_reducible apply AW.seq)) | ((with_reducible apply Then.n)) | ((with_reducible apply AW.regL)) | ((with_reducible apply AW.block)) | ((with_reducible apply AW.exit)) | ((with_reducible apply InBlk.n)) | ((with_reducible apply InBlk.hit)) | ((with_reducible apply InBlk.miss); exact rfl) | ((with_reducible apply Then.e)) | ((with_reducible apply AW.skip)) | ((with_reducible apply AW.condT); exact rfl; (focus (first | rfl | (simp only [decide_eq_true_eq, decide_eq_false_iff_not, Bool.not_eq_true', Bool.not_eq_false', Bool.not_true, Bool.not_false]; first | assumption | omega) | (simp; done) | (simp; omega)))) | ((with_reducible apply AW.condF); exact rfl; (focus (first | rfl | (simp only [decide_eq_true_eq, decide_eq_false_iff_not, Bool.not_eq_true', Bool.not_eq_false', Bool.not_true, Bool.not_false]; first | assumption | omega) | (simp; done) | (simp; omega))))))
    (refine AW.retX (l := [(2, _)]) rfl (by repeat (first | exact trivial | (refine And.intro ⟨rfl, by (first | exact .int _ _ | exact Ren.of_gv (by first | (simp; done) | omega | (simp; omega)) | exact .bool _ | exact Ren.of_g0 rfl | exact .slice _ _ _ _ (by first | (simp; done) | omega | (simp; omega)) | exact .ptr _ _ (by first | (simp; done) | omega | (simp; omega)) | exact Ren.of_sl (by assumption) (by first | omega | (simp; omega)))⟩ ?_))) ?_; (repeat (first | refine Then.r ?_ | refine InBlk.r ?_)))
    exact ⟨_, rfl, rfl, rfl⟩
end Go.Proofs.Ytmomjannlnafcaa.Abs
namespace Go.Proofs.Ytmomjannlnafcaa.Abs
set_option linter.unusedSimpArgs false
set_option linter.unusedVariables false
open Go.RowKit
open Go.Proofs.Ytmomjannlnafcaa.Sim
open Go.ChangeShapes Go.WideShapes Go.Deep
def plN (bs : List AR) : Pl := fun i => (bs[i]?).bind mkP
def mkV2 (i : Nat) : Value → Value
  | .slice (some ⟨_, _, some k⟩) _ _ => .slice (some ⟨i, 0, some k⟩) 0 0
  | .slice (some ⟨_, _, none⟩) n _ => .slice (some ⟨i, 0, none⟩) n n
  | v => v
def mkB2 : AR → Option Blk
  | (.slice (some _) _ (_ + 1), c) => some { cells := c, kind := .ro }
  | _ => none
/-- A slice of the input, with its cells as the abstract memory has them; or what is no block. -/
def OkB (W : World) (R : Pl) (a : AR) : Prop := g0 a.1 = true ∨ (∃ x, a.1 = .slice (some x) 0 0) ∨
  ∃ b o n cap, a.1 = .slice (some ⟨b, o, none⟩) n (cap + 1) ∧ n ≤ cap + 1 ∧ b < W.heap.size ∧ ∀ j x, a.2[j]? = some x → ∃ x', W.cell? ⟨b, o + j, none⟩ = some x' ∧ Rel R x x'
theorem relN {W : World} {R : Pl} {bs : List AR} {i : Nat} {a : AR} (hi : bs[i]? = some a) (h : OkB W R a) : Rel (plN bs) (mkV2 i a.1) a.1 := by
  obtain ⟨v, c⟩ := a
  rcases h with h1 | ⟨⟨b, o, sp⟩, h1⟩ | ⟨b, o, n, cap, h1, h2, h3, h4⟩
  · simp only at h1 ⊢
    cases v with
    | slice x n cap => cases x with
      | none => exact g0_rel h1
      | some x => simp [g0] at h1
    | _ => exact g0_rel h1
  · simp only at h1 ⊢
    subst h1
    cases sp with
    | none =>
      have := Rel.slice (R := plN bs) i 0 0 0 ⟨b, o, 0 - 0⟩ (by simp [plN, hi, mkP]) (Nat.le_refl _)
      simpa [mkV2] using this
    | some k =>
      have := Rel.sliceSpot (R := plN bs) i 0 k ⟨b, o, 0 - 0⟩ (by simp [plN, hi, mkP])
      simpa [mkV2] using this
  · simp only at h1 ⊢
    subst h1
    have := Rel.slice (R := plN bs) i 0 n n ⟨b, o, cap + 1 - n⟩ (by simp [plN, hi, mkP]) (Nat.le_refl _)
    rw [show n + (cap + 1 - n) = cap + 1 by omega] at this
    simpa [mkV2] using this
def mkVs2 : Nat → List AR → List Value
  | _, [] => []
  | i, a :: l => mkV2 i a.1 :: mkVs2 (i + 1) l
theorem mkVs2_get : ∀ (l : List AR) (i k : Nat), (mkVs2 i l)[k]? = (l[k]?).map fun a => mkV2 (i + k) a.1
  | [], i, k => by simp [mkVs2]
  | a :: l, i, 0 => by simp [mkVs2]
  | a :: l, i, k + 1 => by simp only [mkVs2, List.getElem?_cons_succ, mkVs2_get l (i + 1) k]; congr 1; funext x; congr 1; omega
theorem mkVs2_len : ∀ (l : List AR) (i : Nat), (mkVs2 i l).length = l.length
  | [], _ => rfl
  | a :: l, i => by simp [mkVs2, mkVs2_len l (i + 1)]
theorem mkB2_none {W : World} {R : Pl} {a : AR} {b : Blk} (h : OkB W R a) (hb : mkB2 a = some b) : ∃ bb o n cap, a.1 = .slice (some ⟨bb, o, none⟩) n (cap + 1) ∧ b = { cells := a.2, kind := .ro } ∧ bb < W.heap.size ∧ ∀ j x, a.2[j]? = some x → ∃ x', W.cell? ⟨bb, o + j, none⟩ = some x' ∧ Rel R x x' := by
  obtain ⟨v, c⟩ := a
  rcases h with h1 | ⟨x, h1⟩ | ⟨bb, o, n, cap, h1, h2, h3, h4⟩
  · simp only at h1
    cases v with
    | slice x n cap => cases x with
      | none => simp [mkB2] at hb
      | some x => simp [g0] at h1
    | _ => simp [mkB2] at hb
  · simp only at h1
    subst h1
    simp [mkB2] at hb
  · simp only at h1
    subst h1
    simp only [mkB2, Option.some.injEq] at hb
    exact ⟨bb, o, n, cap, rfl, hb.symm, h3, h4⟩
theorem top_callN {P : Program} {f : FuncId} {W : World} (bs : List AR) (na : Nat) (h : ∀ a ∈ bs, OkB W (plN bs) a) (hc : ACall P f ((mkVs2 0 bs).take na).toArray (bs.map mkB2) (Ret (.bool true) (bs.map mkB2))) :
    Calls P f ((bs.take na).map (·.1)).toArray W fun e w' => e = .returned (.bool true) ∧ Below W.heap.size W w' := by
  have hm : MRep W.heap.size (plN bs) (bs.map mkB2) W := by
    refine ⟨fun i hi => ?_, fun i b hi => ?_, fun i j b c p q hi hj hb _ _ _ _ => ?_⟩
    · simp only [List.length_map] at hi
      simp [plN, List.getElem?_eq_none hi]
    · rw [List.getElem?_map] at hi
      cases ha : bs[i]? with
      | none => rw [ha] at hi; cases hi
      | some a =>
        rw [ha] at hi
        simp only [Option.map_some, Option.some.injEq] at hi
        obtain ⟨bb, o, n, cap, h1, rfl, h3, h4⟩ := mkB2_none (h _ (List.mem_of_getElem? ha)) hi
        obtain ⟨v, c⟩ := a
        simp only at h1 h4
        subst h1
        refine ⟨⟨bb, o, cap + 1 - n⟩, by simp [plN, ha, mkP], h3, ?_⟩
        exact ⟨fun e => by simp at e, fun j x hj => h4 j x hj⟩
    · rw [List.getElem?_map] at hi
      cases ha : bs[i]? with
      | none => rw [ha] at hi; cases hi
      | some a =>
        rw [ha] at hi
        simp only [Option.map_some, Option.some.injEq] at hi
        obtain ⟨bb, o, n, cap, h1, rfl, _⟩ := mkB2_none (h _ (List.mem_of_getElem? ha)) hi
        cases hb
  have hargs : Rels (plN bs) ((mkVs2 0 bs).take na).toArray ((bs.take na).map (·.1)).toArray := by
    refine ⟨by simp [mkVs2_len], fun i hi => ?_⟩
    simp only [List.size_toArray, List.length_take, mkVs2_len] at hi
    have hib : i < bs.length := by omega
    have ha : bs[i]? = some bs[i] := List.getElem?_eq_getElem hib
    have e1 : ((mkVs2 0 bs).take na).toArray.getD i undef = mkV2 i bs[i].1 := by
      simp [mkVs2_get, ha, List.getElem?_take, show i < na by omega]
    have e2 : ((bs.take na).map (·.1)).toArray.getD i undef = bs[i].1 := by simp [List.getElem?_take, show i < na by omega, ha]
    rw [e1, e2]
    exact relN ha (h _ (List.mem_of_getElem? ha))
  refine (hc W.heap.size (plN bs) W _ (Nat.le_refl _) hm hargs).mono ?_
  rintro e w' ⟨v, v', R', m', rfl, k1, k2, rfl, rfl⟩
  cases k1
  exact ⟨rfl, k2.below hm (Nat.le_refl _)⟩
section
variable {H : Type} {enc : TypeId × Value → H} {P : Program} {w : World} {base : Nat} {held : Bool}
theorem cell_some {a : Addr} {v : Value} (h : w.cell? a = some v) : a.spot = none ∧ a.block < w.heap.size := by
  unfold World.cell? at h
  cases hb : w.heap[a.block]? with
  | none => rw [hb] at h; cases h
  | some o =>
    refine ⟨?_, (Array.getElem?_eq_some_iff.1 hb).1⟩
    rw [hb] at h
    cases o with
    | cells c ty fz =>
      simp only at h
      split at h
      · cases h
      · rename_i hs
        cases hsp : a.spot with
        | none => rfl
        | some k => rw [hsp] at hs; simp at hs
    | _ => cases h
/-- A slice of ints that the input shows, wherever it stands. -/
theorem ints_sl {T e : TypeId} {fuel : Nat} {v : Value} {d : DataW H × List MemPlace} (ht : P.underlying T = some (.slice e)) (he : P.underlying e = some (.int .i64)) (hce : P.cellsOf e = 1) (h : DataW.trod enc P w base (fun _ => true) held fuel T [v] = some d) :
    ∃ l : List Int, l.length ≤ maxLen ∧ (∀ R, OkB w R (v, iv l)) ∧ ∀ (bs : List AR) (i : Nat), bs[i]? = some (v, iv l) → Ints (bs.map mkB2) (mkV2 i v) l := by
  rcases open_ints ht he hce h with ⟨hcs, _⟩ | ⟨x, n, c, zs, hcs, _, hl, hm, hz, _, hcell, _⟩
  · obtain rfl : v = .slice none 0 0 := by simpa using hcs
    refine ⟨[], Nat.zero_le _, fun R => .inl rfl, fun bs i hi => ⟨i, 0, .inl ⟨rfl, rfl⟩, by simp; exact (List.getElem?_eq_some_iff.1 hi).1, fun k hk => by simp at hk⟩⟩
  · obtain rfl : v = .slice (some x) n c := by simpa using hcs
    rw [if_pos rfl] at hz
    have hlen : (zs.take n).length = n := by simp; omega
    cases c with
    | zero =>
      obtain rfl : n = 0 := by omega
      have e0 : zs.take 0 = [] := by simp
      refine ⟨[], Nat.zero_le _, fun R => .inr (.inl ⟨x, rfl⟩), fun bs i hi => ?_⟩
      have hlt : i < (bs.map mkB2).length := by simp; exact (List.getElem?_eq_some_iff.1 hi).1
      obtain ⟨b, o, sp⟩ := x
      cases sp with
      | none => exact ⟨i, 0, Sl.mk (Nat.le_refl _), hlt, fun k hk => by simp at hk⟩
      | some k => exact ⟨i, 0, .inr (.inr ⟨rfl, 0, k, rfl⟩), hlt, fun k hk => by simp at hk⟩
    | succ c =>
      obtain ⟨b, o, sp⟩ := x
      have h0 := cell_some (hcell 0 (by omega))
      obtain rfl : sp = none := h0.1
      have hb : b < w.heap.size := h0.2
      refine ⟨zs.take n, by omega, fun R => .inr (.inr ⟨b, o, n, c, rfl, hl, hb, fun j x hj => ?_⟩), fun bs i hi => ?_⟩
      · simp only [iv, List.getElem?_map] at hj
        by_cases hjn : j < n
        · rw [List.getElem?_take, if_pos hjn, List.getElem?_eq_getElem (by omega)] at hj
          simp only [Option.map_some, Option.some.injEq] at hj
          have := hcell j (by omega)
          rw [Addr.add_lit] at this
          refine ⟨_, this, ?_⟩
          rw [← hj]
          simp only [List.getD_eq_getElem?_getD, List.getElem?_eq_getElem (show j < zs.length by omega), Option.getD_some]
          exact .int _ _
        · rw [List.getElem?_take, if_neg hjn] at hj
          cases hj
      · have hM : (bs.map mkB2)[i]? = some (some { cells := iv (zs.take n), kind := .ro }) := by rw [List.getElem?_map, hi]; rfl
        exact ints_at hM rfl n hlen.symm
end
end Go.Proofs.Ytmomjannlnafcaa.Abs
namespace Go.Proofs.Ytmomjannlnafcaa.Abs
set_option linter.unusedSimpArgs false
set_option linter.unusedVariables false
open Go.RowKit
open Go.Proofs.Ytmomjannlnafcaa.Sim
open Go.Proofs
open Go.ChangeShapes Go.WideShapes Go.Deep
/-- The cells of n jobs; the After of job k lies in block e0 + k. -/
def jobCs (F : Nat → Job) (s : Nat → Value) (e0 n : Nat) : List Value := (List.range n).flatMap fun k => (F k).cells (mkV2 (e0 + k) (s k))
theorem jobCs_succ (F : Nat → Job) (s : Nat → Value) (e0 n : Nat) : jobCs F s e0 (n + 1) = jobCs F s e0 n ++ (F n).cells (mkV2 (e0 + n) (s n)) := by
  simp [jobCs, List.range_succ, List.flatMap_append]
theorem jobCs_len (F : Nat → Job) (s : Nat → Value) (e0 : Nat) : ∀ n, (jobCs F s e0 n).length = n * 4
  | 0 => rfl
  | n + 1 => by rw [jobCs_succ, List.length_append, jobCs_len F s e0 n]; simp [Job.cells]; omega
theorem jobCs_get (F : Nat → Job) (s : Nat → Value) (e0 : Nat) : ∀ n k, k < n → ∀ q v, ((F k).cells (mkV2 (e0 + k) (s k)))[q]? = some v → (jobCs F s e0 n)[k * 4 + q]? = some v
  | 0, k, h, _, _, _ => by omega
  | n + 1, k, h, q, v, hq => by
    have hq4 : q < 4 := by have := (List.getElem?_eq_some_iff.1 hq).1; simpa [Job.cells] using this
    rw [jobCs_succ]
    rcases Nat.lt_succ_iff_lt_or_eq.1 h with h' | h'
    · rw [List.getElem?_append_left (by rw [jobCs_len]; omega)]
      exact jobCs_get F s e0 n k h' q v hq
    · subst h'
      rw [List.getElem?_append_right (by rw [jobCs_len]; omega), jobCs_len, Nat.add_sub_cancel_left]
      exact hq
theorem cells4 (x : Job) (w : Value) (q : Nat) (v : Value) (h : (x.cells w)[q]? = some v) : q = 0 ∧ v = .int .i64 x.time ∨ q = 1 ∧ v = .int .i64 x.due ∨ q = 2 ∧ v = .int .i64 x.weight ∨ q = 3 ∧ v = w := by
  match q, h with
  | 0, h => simp [Job.cells] at h; exact .inl ⟨rfl, h.symm⟩
  | 1, h => simp [Job.cells] at h; exact .inr (.inl ⟨rfl, h.symm⟩)
  | 2, h => simp [Job.cells] at h; exact .inr (.inr (.inl ⟨rfl, h.symm⟩))
  | 3, h => simp [Job.cells] at h; exact .inr (.inr (.inr ⟨rfl, h.symm⟩))
  | q + 4, h => simp [Job.cells] at h
section
variable {H : Type} {enc : TypeId × Value → H} {P : Program} {w : World} {base : Nat} {held : Bool}
theorem arg_jobs {r : Reach} {b0 : Nat} {T e tS tI : TypeId} {fs : Array Field} {a : Option Addr} {n c : Nat} {d : DataW H} {p : List MemPlace} (ht : P.underlying T = some (.slice e)) (he : P.underlying e = some (.struct fs)) (hone : oneCellFields P fs = true) (hC : P.cellsOf e = fs.size) (hsz : fs.size = 4)
    (hI : ∀ j f, j < 3 → fs[j]? = some f → P.underlying f.type = some (.int .i64)) (hS : ∀ f, fs[3]? = some f → f.type = tS) (hS1 : P.underlying tS = some (.slice tI)) (hS2 : P.underlying tI = some (.int .i64)) (hS3 : P.cellsOf tI = 1)
    (hok : Value.okWide P w r b0 T (.slice a n c)) (h : DataW.Trod enc P w base (fun _ => true) held T (.slice a n c) d p) :
    ∃ (F : Nat → Job) (s : Nat → Value), n ≤ maxLen ∧ (∀ k, (F k).after.length ≤ maxLen) ∧ (∀ R k, OkB w R (s k, iv (F k).after)) ∧
      (∀ (bs : List AR) (e0 : Nat), (∀ k, k < n → bs[e0 + k]? = some (s k, iv (F k).after)) → OkB w (plN bs) (.slice a n c, jobCs F s e0 n)) ∧
      (∀ (bs : List AR) (i e0 : Nat), bs[i]? = some (.slice a n c, jobCs F s e0 n) → (∀ k, k < n → bs[e0 + k]? = some (s k, iv (F k).after)) → Jobs (bs.map mkB2) (mkV2 i (.slice a n c)) ((List.range n).map F)) := by
  obtain ⟨fuel, h⟩ := h
  rcases ok_slice ht hok with ⟨rfl, rfl, rfl⟩ | ⟨b, o, rfl, hle, hlt⟩
  · exact ⟨fun _ => default, fun _ => .slice none 0 0, by unfold maxLen; omega, fun _ => by show ([] : List Int).length ≤ _; simp, fun R k => .inl rfl, fun bs e0 _ => .inl rfl, fun bs i e0 hi _ =>
      ⟨i, 0, .inl ⟨rfl, rfl⟩, by simp; exact (List.getElem?_eq_some_iff.1 hi).1, fun k hk => by simp at hk⟩⟩
  · rcases open_slice_fields ht he hone hC h with ⟨hcs, _⟩ | ⟨x, l, cap, m, D, Pl, hcs, _, hl, hm, hmm, _, hrow⟩
    · simp [Value.cells] at hcs
    · simp [Value.cells] at hcs
      obtain ⟨rfl, rfl, rfl⟩ := hcs
      rw [if_pos rfl] at hmm
      have key : ∀ k : Nat, ∃ q : Job × Value, q.1.after.length ≤ maxLen ∧ (∀ R, OkB w R (q.2, iv q.1.after)) ∧ (∀ (bs : List AR) (i : Nat), bs[i]? = some (q.2, iv q.1.after) → Ints (bs.map mkB2) (mkV2 i q.2) q.1.after) ∧
          (k < n → w.cell? ⟨b, o + (k * 4 + 0), none⟩ = some (.int .i64 q.1.time) ∧ w.cell? ⟨b, o + (k * 4 + 1), none⟩ = some (.int .i64 q.1.due) ∧ w.cell? ⟨b, o + (k * 4 + 2), none⟩ = some (.int .i64 q.1.weight) ∧ w.cell? ⟨b, o + (k * 4 + 3), none⟩ = some q.2) := fun k => by
        by_cases hk : k < n
        · obtain ⟨ys, nn, _, _, _, hf⟩ := hrow k (by omega)
          rw [hsz] at hf
          have fi : ∀ j, j < 3 → ∃ z : Int, w.cell? ⟨b, o + (k * 4 + j), none⟩ = some (.int .i64 z) := fun j hj => by
            have hfj : fs[j]? = some (fs[j]'(by omega)) := Array.getElem?_eq_getElem (by omega)
            obtain ⟨v, y, h1, _, h3⟩ := hf j _ hfj
            obtain ⟨z, hz, _⟩ := DataW.trod_int (hI j _ hj hfj) h3
            simp at hz
            subst hz
            rw [Addr.add_lit] at h1
            exact ⟨z, h1⟩
          obtain ⟨z0, g0'⟩ := fi 0 (by omega)
          obtain ⟨z1, g1'⟩ := fi 1 (by omega)
          obtain ⟨z2, g2'⟩ := fi 2 (by omega)
          have hf3 : fs[3]? = some (fs[3]'(by omega)) := Array.getElem?_eq_getElem (by omega)
          obtain ⟨v, y, h1, _, h3⟩ := hf 3 _ hf3
          rw [hS _ hf3] at h3
          rw [Addr.add_lit] at h1
          obtain ⟨l, l1, l2, l3⟩ := ints_sl hS1 hS2 hS3 h3
          exact ⟨(⟨z0, z1, z2, l⟩, v), l1, l2, l3, fun _ => ⟨g0', g1', g2', h1⟩⟩
        · exact ⟨(default, .slice none 0 0), by show ([] : List Int).length ≤ _; simp, fun R => .inl rfl, fun bs i hi => ⟨i, 0, .inl ⟨rfl, rfl⟩, by simp; exact (List.getElem?_eq_some_iff.1 hi).1, fun k hk => by simp [default, instInhabitedJob] at hk⟩, fun h => absurd h hk⟩
      obtain ⟨G, hG⟩ := Classical.axiomOfChoice key
      refine ⟨fun k => (G k).1, fun k => (G k).2, by omega, fun k => (hG k).1, fun R k => (hG k).2.1 R, fun bs e0 hbs => ?_, fun bs i e0 hi hbs => ?_⟩
      · cases c with
        | zero =>
          obtain rfl : n = 0 := by omega
          exact .inr (.inl ⟨⟨b, o, none⟩, rfl⟩)
        | succ c =>
          refine .inr (.inr ⟨b, o, n, c, rfl, hle, hlt, fun j x hj => ?_⟩)
          have hjl := (List.getElem?_eq_some_iff.1 hj).1
          simp only [jobCs_len] at hjl
          have hk : j / 4 < n := by omega
          have hj4 : j % 4 < 4 := Nat.mod_lt _ (by omega)
          have e : j = j / 4 * 4 + j % 4 := by omega
          generalize hkk : j / 4 = k at *
          generalize hqq : j % 4 = q at *
          subst e
          have hcells : ∃ v, ((G k).1.cells (mkV2 (e0 + k) (G k).2))[q]? = some v := ⟨_, List.getElem?_eq_getElem (by simpa [Job.cells] using hj4)⟩
          obtain ⟨v, hv⟩ := hcells
          have hget := jobCs_get (fun k => (G k).1) (fun k => (G k).2) e0 n k hk q v hv
          simp only at hj
          rw [hget] at hj
          injection hj with hj
          subst hj
          obtain ⟨c0, c1, c2, c3⟩ := (hG k).2.2.2 hk
          rcases cells4 _ _ _ _ hv with ⟨rfl, rfl⟩ | ⟨rfl, rfl⟩ | ⟨rfl, rfl⟩ | ⟨rfl, rfl⟩
          · exact ⟨_, c0, .int _ _⟩
          · exact ⟨_, c1, .int _ _⟩
          · exact ⟨_, c2, .int _ _⟩
          · exact ⟨_, c3, relN (hbs k hk) ((hG k).2.1 (fun _ => none))⟩
      · have hlen : i < (bs.map mkB2).length := by simp; exact (List.getElem?_eq_some_iff.1 hi).1
        refine ⟨i, 0, by simpa [mkV2] using Sl.mk (Nat.le_refl n), hlen, fun k hk => ?_⟩
        have hk' : k < n := by simpa using hk
        have eg : ((List.range n).map fun k => (G k).1).getD k default = (G k).1 := by simp [hk']
        rw [eg]
        refine ⟨mkV2 (e0 + k) (G k).2, ?_, (hG k).2.2.1 bs (e0 + k) (hbs k hk')⟩
        cases c with
        | zero => omega
        | succ c =>
          refine ⟨{ cells := jobCs (fun k => (G k).1) (fun k => (G k).2) e0 n, kind := .ro }, by rw [List.getElem?_map, hi]; rfl, fun j v hj => ?_⟩
          rw [Nat.zero_add]
          exact jobCs_get _ _ e0 n k hk' j v hj
end
end Go.Proofs.Ytmomjannlnafcaa.Abs
namespace Go.Proofs.Ytmomjannlnafcaa.Abs
set_option linter.unusedSimpArgs false
set_option linter.unusedVariables false
open Go.RowKit
open Go.Proofs.Ytmomjannlnafcaa.Sim
open Go.Proofs
theorem short_rows {F : Nat → Job} {n : Nat} (h : n ≤ maxLen) (hF : ∀ k, (F k).after.length ≤ maxLen) : Short ((List.range n).map F) := by
  unfold maxLen at *
  refine ⟨by simp; omega, fun k hk => ?_⟩
  have hk' : k < n := by simpa using hk
  have e : ((List.range n).map F).getD k default = F k := by simp [hk']
  rw [e]
  have := hF k
  omega
end Go.Proofs.Ytmomjannlnafcaa.Abs
