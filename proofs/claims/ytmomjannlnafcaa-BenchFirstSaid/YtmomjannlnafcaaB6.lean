/- Chapter 8: Span and Turning, the program's and the reference's. -/
import Derived.Test.YtmomjannlnafcaaP1
namespace Go.Proofs.Ytmomjannlnafcaa.Abs
set_option linter.unusedSimpArgs false
set_option linter.unusedVariables false
open Go.RowKit
open Go.Proofs.Ytmomjannlnafcaa.Sim
open Go.Proofs
-- function 93
set_option maxRecDepth 100000 in
theorem f93_ok {m : AM} (x : Two) : ACall Try.prog 93 #[.agg x.cells.toArray] m (Ret (.int .i64 x.sew) m) := by
  refine ACall.start Try.func93 rfl rfl ?_
  (repeat (first | (with_reducible refine AWo.cons ?_) | ((with_reducible refine Step.id ?_); first | ((with_reducible apply Step.assign); exact rfl; exact rfl) | ((with_reducible apply Step.load); exact rfl; (focus (decide +kernel)); exact rfl; (focus (exact Rd.new rfl rfl))) | ((with_reducible apply Step.field (k := 1)); exact rfl; (focus (decide +kernel)); exact rfl) | ((with_reducible apply Step.box 0); exact rfl; exact rfl; (focus (kernel_rfl)); exact rfl; (focus (first | (simp only [List.nil_append, List.cons_append, List.set_cons_zero, List.set_cons_succ, iv_set, bv_set, iv_rep, bv_rep]; done) | (simp only [List.nil_append, List.cons_append, List.set_cons_zero, List.set_cons_succ, iv_set, bv_set, iv_rep, bv_rep]; rfl) | rfl)))) | (with_reducible refine AWo.nil ?_) | ((with_reducible apply AW.seq)) | ((with_reducible apply Then.n)) | ((with_reducible apply AW.regL))))
  (refine AW.retD (l := [(2, _)]) (by repeat (first | exact trivial | (refine And.intro ⟨rfl, by (exact .int _ _)⟩ ?_))) ?_; (repeat (first | refine Then.r ?_ | refine InBlk.r ?_)))
  exact ⟨_, rfl, rfl, rfl⟩
-- function 92
set_option maxRecDepth 100000 in
theorem f92_ok {m : AM} {v : Value} {j : List Two} (hj : Twos m v j) (hlim : tlim j) (hlen : j.length ≤ 1000) : ACall Try.prog 92 #[v, .func (.func 93) #[] #[]] m (Ret (.int .i64 (sumI (j.map (·.sew)))) m) := by
  obtain ⟨a, o, h1, h2, h3⟩ := hj
  have hf := Try.func93
  have hb : Try.f93.body = some _ := rfl
  refine ACall.start Try.func92 rfl rfl ?_
  (repeat (first | (with_reducible refine AWo.cons ?_) | ((with_reducible refine Step.id ?_); first | ((with_reducible apply Step.move); exact rfl; exact rfl) | ((with_reducible apply Step.assign); exact rfl; exact rfl) | ((with_reducible apply Step.len); exact rfl; (focus (assumption)); (focus (decide +kernel)); exact rfl)) | (with_reducible refine AWo.nil ?_) | ((with_reducible apply AW.seq)) | ((with_reducible apply Then.n)) | ((with_reducible apply AW.regL)) | ((with_reducible apply AW.block))))
  refine AW.loopT (fun n t L => ∃ (k : Nat) (s : Int), n = j.length - k ∧ k ≤ j.length ∧ s = sumI ((j.take k).map (·.sew)) ∧ 0 ≤ s ∧ s ≤ 10000 * k ∧ L = [] ∧
    t = [(1, .func (.func 93) #[] #[]), (5, .int .i64 s), (8, v), (9, .int .i64 (j.length : Nat)), (10, .int .i64 (k : Nat))]) ⟨_, _, _, (Or.inl ⟨rfl, (by repeat (first | exact trivial | (refine And.intro rfl ?_)))⟩), 0, 0, rfl, Nat.zero_le _, by simp [sumI], by omega, by omega, rfl, rfl⟩ ?_
  rintro n t L ⟨k, s, rfl, hk, es, e1, e2, rfl, rfl⟩
  rcases Nat.lt_or_ge k j.length with hlt | hge
  · have ts := take_snoc j k default hlt
    obtain ⟨c1, c2, c3, c4⟩ := hlim k hlt
    have es' : sumI ((j.take (k + 1)).map (·.sew)) = s + (j.getD k default).sew := by rw [ts, List.map_append, sumI_app, ← es]; simp [sumI]
    (repeat (first | (with_reducible refine AWo.cons ?_) | ((with_reducible refine Step.id ?_); first | ((with_reducible apply Step.move); exact rfl; exact rfl) | ((with_reducible apply Step.assign); exact rfl; exact rfl) | ((with_reducible apply Step.loadL (n := 2)); exact rfl; (focus (decide +kernel)); (focus (decide +kernel)); exact rfl; (focus (first | exact RdL.new rfl rfl | exact RdL.old _ (h3 _ hlt))); exact rfl; exact rfl) | ((with_reducible apply Step.ix (s := 2)); exact rfl; (focus (assumption)); exact rfl; (focus (decide +kernel)); exact rfl; (focus (omega))) | ((with_reducible apply Step.add); exact rfl; exact rfl; (focus (omega)); exact rfl) | ((with_reducible apply Step.lss); exact rfl; exact rfl; exact rfl) | ((with_reducible apply Step.callV fit); exact rfl; exact rfl; exact hf; exact hb; exact rfl; exact (f93_ok _)) | ((with_reducible apply Step.alloc 0); exact rfl; exact ze75; exact rfl; (focus (first | (simp only [List.nil_append, List.cons_append, List.set_cons_zero, List.set_cons_succ, iv_set, bv_set, iv_rep, bv_rep]; done) | (simp only [List.nil_append, List.cons_append, List.set_cons_zero, List.set_cons_succ, iv_set, bv_set, iv_rep, bv_rep]; rfl) | rfl))) | ((with_reducible apply Step.storeA (k := 0) (n := 2)); exact rfl; exact rfl; exact rfl; exact rfl; (focus (decide +kernel)); exact rfl; (focus (kernel_rfl)); exact rfl; (focus (first | (simp only [List.nil_append, List.cons_append, List.set_cons_zero, List.set_cons_succ, iv_set, bv_set, iv_rep, bv_rep]; done) | (simp only [List.nil_append, List.cons_append, List.set_cons_zero, List.set_cons_succ, iv_set, bv_set, iv_rep, bv_rep]; rfl) | rfl)))) | (with_reducible refine AWo.nil ?_) | ((with_reducible apply AW.seq)) | ((with_reducible apply Then.n)) | ((with_reducible apply AW.regL)) | ((with_reducible apply AW.block)) | ((with_reducible apply InBlk.n)) | ((with_reducible apply AW.skip)) | ((with_reducible apply AW.condT); exact rfl; (focus ((simp only [decide_eq_true_eq, decide_eq_false_iff_not, Bool.not_eq_true', Bool.not_eq_false', Bool.not_true, Bool.not_false]; first | assumption | omega))))))
    exact ⟨_, _, _, by omega, (Back.trim rfl rfl (by repeat (exact CellsOk.nil)) (by repeat (first | exact trivial | (refine And.intro ⟨rfl, by (first | exact .int _ _ | exact Ren.of_g0 rfl | exact Ren.of_sl (by assumption) (by first | omega | (simp; omega)))⟩ ?_)))), k + 1, _, rfl, by omega, es'.symm, by omega, by omega, rfl, rfl⟩
  · (repeat (first | (with_reducible refine AWo.cons ?_) | ((with_reducible refine Step.id ?_); first | ((with_reducible apply Step.move); exact rfl; exact rfl) | ((with_reducible apply Step.assign); exact rfl; exact rfl) | ((with_reducible apply Step.lss); exact rfl; exact rfl; exact rfl)) | (with_reducible refine AWo.nil ?_) | ((with_reducible apply AW.seq)) | ((with_reducible apply Then.n)) | ((with_reducible apply AW.regL)) | ((with_reducible apply AW.exit)) | ((with_reducible apply InBlk.hit)) | ((with_reducible apply Then.e)) | ((with_reducible apply AW.condF); exact rfl; (focus ((simp only [decide_eq_true_eq, decide_eq_false_iff_not, Bool.not_eq_true', Bool.not_eq_false', Bool.not_true, Bool.not_false]; first | assumption | omega))))))
    obtain rfl : k = j.length := by omega
    rw [List.take_length] at es
    (refine AW.retD (l := [(4, _)]) (by repeat (first | exact trivial | (refine And.intro ⟨rfl, by (exact .int _ _)⟩ ?_))) ?_; (repeat (first | refine Then.r ?_ | refine InBlk.r ?_)))
    exact ⟨_, rfl, by rw [es], rfl⟩
-- function 51
set_option maxRecDepth 100000 in
theorem Span_ok {m : AM} {v w : Value} {j : List Two} {l : List Int} (hj : Twos m v j) (hl : Ints m w l) (hlen : j.length ≤ 1000) {q : Int × Int} (hq : spanR j l = q) : ACall Try.prog 51 #[v, w] m (Ret (.tuple #[.int .i64 q.1, .int .i64 q.2]) m) := by
  subst hq
  obtain ⟨a, o, h1, h2, h3⟩ := id hj
  obtain ⟨b, u, k1, k2, k3⟩ := id hl
  refine ACall.start Try.func51 rfl rfl ?_
  cases ht : twosB j with
  | false =>
    (repeat (first | (with_reducible refine AWo.cons ?_) | ((with_reducible refine Step.id ?_); first | ((with_reducible apply Step.move); exact rfl; exact rfl) | ((with_reducible apply Step.assign); exact rfl; exact rfl) | ((with_reducible apply Step.not); exact rfl; exact rfl) | ((with_reducible apply Step.callR fit); exact rfl; exact Try.func65; exact rfl; exact rfl; exact (twos_ok (hj.old []) (by omega) ht))) | (with_reducible refine AWo.nil ?_) | ((with_reducible apply AW.seq)) | ((with_reducible apply Then.n)) | ((with_reducible apply AW.regL)) | ((with_reducible apply AW.block)) | ((with_reducible apply AW.condT); exact rfl; (focus (rfl)))))
    (refine AW.retD (l := [(4, _), (5, _)]) (by repeat (first | exact trivial | (refine And.intro ⟨rfl, by (exact .int _ _)⟩ ?_))) ?_; (repeat (first | refine Then.r ?_ | refine InBlk.r ?_)))
    exact ⟨_, rfl, by simp [spanR, ht], rfl⟩
  | true =>
    obtain ⟨hlim, h40⟩ := tlim_of ht
    cases ho : orderB l j.length with
    | false =>
      (repeat (first | (with_reducible refine AWo.cons ?_) | ((with_reducible refine Step.id ?_); first | ((with_reducible apply Step.move); exact rfl; exact rfl) | ((with_reducible apply Step.assign); exact rfl; exact rfl) | ((with_reducible apply Step.len); exact rfl; (focus (assumption)); (focus (decide +kernel)); exact rfl) | ((with_reducible apply Step.not); exact rfl; exact rfl) | ((with_reducible apply Step.callR fit); exact rfl; exact Try.func65; exact rfl; exact rfl; exact (twos_ok (hj.old []) (by omega) ht)) | ((with_reducible apply Step.callR fit); exact rfl; exact Try.func90; exact rfl; exact rfl; exact (order_ok j.length (hl.old []) (by omega) ho))) | (with_reducible refine AWo.nil ?_) | ((with_reducible apply AW.seq)) | ((with_reducible apply Then.n)) | ((with_reducible apply AW.regL)) | ((with_reducible apply AW.block)) | ((with_reducible apply AW.condT); exact rfl; (focus (rfl))) | ((with_reducible apply AW.condF); exact rfl; (focus (rfl)))))
      (refine AW.retD (l := [(4, _), (5, _)]) (by repeat (first | exact trivial | (refine And.intro ⟨rfl, by (exact .int _ _)⟩ ?_))) ?_; (repeat (first | refine Then.r ?_ | refine InBlk.r ?_)))
      exact ⟨_, rfl, by simp [spanR, ht, ho], rfl⟩
    | true =>
      obtain ⟨o1, o2, o3⟩ := orderB_iff.1 ho
      have hn := nat_ok hl ho
      (repeat (first | (with_reducible refine AWo.cons ?_) | ((with_reducible refine Step.id ?_); first | ((with_reducible apply Step.move); exact rfl; exact rfl) | ((with_reducible apply Step.assign); exact rfl; exact rfl) | ((with_reducible apply Step.len); exact rfl; (focus (assumption)); (focus (decide +kernel)); exact rfl) | ((with_reducible apply Step.not); exact rfl; exact rfl) | ((with_reducible apply Step.callR fit); exact rfl; exact Try.func65; exact rfl; exact rfl; exact (twos_ok (hj.old []) (by omega) ht)) | ((with_reducible apply Step.callR fit); exact rfl; exact Try.func90; exact rfl; exact rfl; exact (order_ok j.length (hl.old []) (by omega) ho)) | ((with_reducible apply Step.callR fit); exact rfl; exact Try.func91; exact rfl; exact rfl; exact (span_ok (hj.old []) (hn.old []) (nat_lt ho) hlim (by rw [nat_len]; omega)))) | (with_reducible refine AWo.nil ?_) | ((with_reducible apply AW.seq)) | ((with_reducible apply Then.n)) | ((with_reducible apply AW.regL)) | ((with_reducible apply AW.block)) | ((with_reducible apply InBlk.n)) | ((with_reducible apply AW.skip)) | ((with_reducible apply AW.condF); exact rfl; (focus (rfl)))))
      (refine AW.retD (l := [(4, _), (5, _)]) (by repeat (first | exact trivial | (refine And.intro ⟨rfl, by (exact .int _ _)⟩ ?_))) ?_; (repeat (first | refine Then.r ?_ | refine InBlk.r ?_)))
      exact ⟨_, rfl, by simp [spanR, ht, ho], rfl⟩
end Go.Proofs.Ytmomjannlnafcaa.Abs
