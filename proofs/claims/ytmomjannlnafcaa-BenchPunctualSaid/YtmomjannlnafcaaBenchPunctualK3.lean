/- Proved here: what the proof of BenchPunctual rests on, part 3 of 4. Conditions: those that each theorem names. -/
import Derived.Test.YtmomjannlnafcaaBenchPunctualK2
namespace Go.Proofs.Ytmomjannlnafcaa.Abs
set_option linter.unusedSimpArgs false
set_option linter.unusedVariables false
open Go.RowKit
open Go.Proofs.Ytmomjannlnafcaa.Sim
open Go.Proofs
structure Job where
  time : Int
  due : Int
  weight : Int
  after : List Int
instance : Inhabited Job := ⟨⟨0, 0, 0, []⟩⟩
def Job.cells (x : Job) (w : Value) : List Value := [.int .i64 x.time, .int .i64 x.due, .int .i64 x.weight, w]
def Jobs (m : AM) (v : Value) (j : List Job) : Prop := ∃ a o, Sl v a o j.length ∧ a < m.length ∧ ∀ k, k < j.length → ∃ w, RdL m a (o + k * 4) ((j.getD k default).cells w) ∧ Ints m w (j.getD k default).after
theorem Jobs.old {m : AM} {v : Value} {j : List Job} (L : AM) (h : Jobs m v j) : Jobs (m ++ L) v j := by
  obtain ⟨a, o, h1, h2, h3⟩ := h
  refine ⟨a, o, h1, by simp; omega, fun k hk => ?_⟩
  obtain ⟨w, k1, k2⟩ := h3 k hk
  exact ⟨w, k1.old L, k2.old L⟩
/-- Place i of an After is right. -/
def risOk (n : Nat) (l : List Int) (i : Nat) : Bool := decide (0 ≤ l.getD i 0 ∧ l.getD i 0 < n ∧ (i = 0 ∨ l.getD (i - 1) 0 < l.getD i 0))
def risB (n : Nat) (l : List Int) : Bool := (List.range l.length).all (risOk n l)
def numsB (x : Job) : Bool := decide (1 ≤ x.time ∧ x.time ≤ 10000 ∧ 0 ≤ x.due ∧ x.due ≤ 1000000 ∧ 0 ≤ x.weight ∧ x.weight ≤ 1000)
def jobB (n : Nat) (x : Job) : Bool := numsB x && risB n x.after
def jobsB (j : List Job) : Bool := decide (j.length ≤ 40) && j.all (jobB j.length)
theorem jobsB_not {j : List Job} {k : Nat} (hk : k < j.length) (h : jobB j.length (j.getD k default) = false) : jobsB j = false := by
  have : j.all (jobB j.length) = false := by
    rw [List.all_eq_false]
    exact ⟨j.getD k default, by simp [hk], by rw [h]; exact Bool.false_ne_true⟩
  simp [jobsB, this]
theorem risB_not {n : Nat} {l : List Int} {i : Nat} (hi : i < l.length) (h : risOk n l i = false) : risB n l = false := by
  unfold risB
  rw [List.all_eq_false]
  exact ⟨i, by simpa using hi, by rw [h]; exact Bool.false_ne_true⟩
theorem ze60 : zeroB Try.prog 60 = some #[.int .i64 0, .int .i64 0, .int .i64 0, .slice none 0 0] := by kernel_rfl
theorem ze87 : zeroB Try.prog 87 = some #[.int .i64 0, .int .i64 0, .int .i64 0, .slice none 0 0] := by kernel_rfl
theorem Sl.one {v : Value} {a o n : Nat} (h : Sl v a o n) : v.oneCell' = true := h.cells.2
theorem job_one {x y z : Int} {w : Value} (h : w.oneCell' = true) : (Value.agg #[.int .i64 x, .int .i64 y, .int .i64 z, w]).cells.all (·.oneCell') = true := by
  simpa [Value.cells, Value.oneCell'] using h
set_option maxHeartbeats 1000000 in
set_option maxRecDepth 100000 in
theorem jobs_ok {m : AM} {v : Value} {j : List Job} (hj : Jobs m v j) (hafter : ∀ k, k < j.length → (j.getD k default).after.length ≤ 9223372036854775807) (hlen : j.length ≤ 9223372036854775807) {b : Bool} (hb : jobsB j = b) : ACall Try.prog 88 #[v] m (Ret (.bool b) m) := by
  subst hb
  obtain ⟨a, o, h1, h2, h3⟩ := hj
  refine ACall.start Try.func88 rfl rfl ?_
  by_cases h40 : (40 : Int) < (j.length : Int)
  · (repeat (first | (with_reducible refine AWo.cons ?_) | ((with_reducible refine Step.id ?_); first | ((with_reducible apply Step.move); exact rfl; exact rfl) | ((with_reducible apply Step.assign); exact rfl; exact rfl) | ((with_reducible apply Step.gtr); exact rfl; exact rfl; exact rfl) | ((with_reducible apply Step.len); exact rfl; (focus (assumption)); (focus (decide +kernel)); exact rfl)) | (with_reducible refine AWo.nil ?_) | ((with_reducible apply AW.seq)) | ((with_reducible apply Then.n)) | ((with_reducible apply AW.regL)) | ((with_reducible apply AW.condT); exact rfl; (focus ((simp only [decide_eq_true_eq, decide_eq_false_iff_not, Bool.not_eq_true', Bool.not_eq_false', Bool.not_true, Bool.not_false]; first | assumption | omega))))))
    (refine AW.retD (l := [(2, _)]) (by repeat (first | exact trivial | (refine And.intro ⟨rfl, by (exact .bool _)⟩ ?_))) ?_; (repeat (first | refine Then.r ?_ | refine InBlk.r ?_)))
    exact ⟨_, rfl, by simp [jobsB]; omega, rfl⟩
  · (repeat (first | (with_reducible refine AWo.cons ?_) | ((with_reducible refine Step.id ?_); first | ((with_reducible apply Step.move); exact rfl; exact rfl) | ((with_reducible apply Step.assign); exact rfl; exact rfl) | ((with_reducible apply Step.gtr); exact rfl; exact rfl; exact rfl) | ((with_reducible apply Step.len); exact rfl; (focus (assumption)); (focus (decide +kernel)); exact rfl)) | (with_reducible refine AWo.nil ?_) | ((with_reducible apply AW.seq)) | ((with_reducible apply Then.n)) | ((with_reducible apply AW.regL)) | ((with_reducible apply AW.block)) | ((with_reducible apply AW.skip)) | ((with_reducible apply AW.condF); exact rfl; (focus ((simp only [decide_eq_true_eq, decide_eq_false_iff_not, Bool.not_eq_true', Bool.not_eq_false', Bool.not_true, Bool.not_false]; first | assumption | omega))))))
    refine AW.loopT (fun n t L => ∃ k : Nat, n = j.length - k ∧ k ≤ j.length ∧ (j.take k).all (jobB j.length) = true ∧ L = [] ∧
      t = [(0, v), (10, v), (11, .int .i64 (j.length : Nat)), (12, .int .i64 (k : Nat))]) ⟨_, _, _, (Or.inl ⟨rfl, (by repeat (first | exact trivial | (refine And.intro rfl ?_)))⟩), 0, rfl, Nat.zero_le _, by simp, rfl, rfl⟩ ?_
    rintro n t L ⟨k, rfl, hk, hall, rfl, rfl⟩
    rcases Nat.lt_or_ge k j.length with hlt | hge
    · have ts := take_snoc j k default hlt
      have bad := jobsB_not (j := j) (k := k) hlt
      obtain ⟨w, hr, hw⟩ := h3 k hlt
      have hal := hafter k hlt
      obtain ⟨wa, wo, w1, w2, w3⟩ := hw
      have hone := w1.one
      have good : jobB j.length (j.getD k default) = true → (j.take (k + 1)).all (jobB j.length) = true := fun e => by rw [ts, List.all_append, hall]; simp only [List.all_cons, List.all_nil, e]; rfl
      generalize j.getD k default = x at *
      obtain ⟨x1, x2, x3, l⟩ := x
      have hw1 := job_one (x := x1) (y := x2) (z := x3) hone
      simp only [Job.cells] at *
      cases hx : numsB ⟨x1, x2, x3, l⟩ with
      | false =>
        rw [bad (by simp [jobB, hx])]
        simp only [numsB, decide_eq_false_iff_not] at hx
        by_cases c1 : x1 < 1
        · (repeat (first | (with_reducible refine AWo.cons ?_) | ((with_reducible refine Step.id ?_); first | ((with_reducible apply Step.gdF); exact rfl; exact rfl; (focus (first | rfl | (simp only [decide_eq_true_eq, decide_eq_false_iff_not, Bool.not_eq_true', Bool.not_eq_false', Bool.not_true, Bool.not_false]; first | assumption | omega)))) | ((with_reducible apply Step.move); exact rfl; exact rfl) | ((with_reducible apply Step.assign); exact rfl; exact rfl) | ((with_reducible apply Step.load); exact rfl; (focus (decide +kernel)); exact rfl; (focus (exact Rd.new rfl rfl))) | ((with_reducible apply Step.loadL (n := 4)); exact rfl; (focus (decide +kernel)); (focus (decide +kernel)); exact rfl; (focus (exact RdL.old _ (by assumption))); exact rfl; exact rfl) | ((with_reducible apply Step.ix (s := 4)); exact rfl; (focus (assumption)); exact rfl; (focus (decide +kernel)); exact rfl; (focus (omega))) | ((with_reducible apply Step.field0); exact rfl; (focus (decide +kernel)); exact rfl) | ((with_reducible apply Step.lss); exact rfl; exact rfl; exact rfl) | ((with_reducible apply Step.pickT); exact rfl; exact rfl; exact rfl; exact rfl; (focus (first | rfl | (simp only [decide_eq_true_eq, decide_eq_false_iff_not, Bool.not_eq_true', Bool.not_eq_false', Bool.not_true, Bool.not_false]; first | assumption | omega)))) | ((with_reducible apply Step.alloc 0); exact rfl; exact ze87; exact rfl; (focus (first | (simp only [List.nil_append, List.cons_append, List.set_cons_zero, List.set_cons_succ, iv_set, bv_set, iv_rep, bv_rep]; done) | (simp only [List.nil_append, List.cons_append, List.set_cons_zero, List.set_cons_succ, iv_set, bv_set, iv_rep, bv_rep]; rfl) | rfl))) | ((with_reducible apply Step.storeA (k := 0) (n := 4)); exact rfl; exact rfl; exact rfl; exact rfl; (focus (decide +kernel)); exact rfl; (focus (first | assumption | exact hw1)); exact rfl; (focus (first | (simp only [List.nil_append, List.cons_append, List.set_cons_zero, List.set_cons_succ, iv_set, bv_set, iv_rep, bv_rep]; done) | (simp only [List.nil_append, List.cons_append, List.set_cons_zero, List.set_cons_succ, iv_set, bv_set, iv_rep, bv_rep]; rfl) | rfl)))) | (with_reducible refine AWo.nil ?_) | ((with_reducible apply AW.seq)) | ((with_reducible apply Then.n)) | ((with_reducible apply AW.regL)) | ((with_reducible apply AW.block)) | ((with_reducible apply AW.skip)) | ((with_reducible apply AW.condT); exact rfl; (focus (first | rfl | (simp only [decide_eq_true_eq, decide_eq_false_iff_not, Bool.not_eq_true', Bool.not_eq_false', Bool.not_true, Bool.not_false]; first | assumption | omega))))))
          (refine AW.retD (l := [(2, _)]) (by repeat (first | exact trivial | (refine And.intro ⟨rfl, by (exact .bool _)⟩ ?_))) ?_; (repeat (first | refine Then.r ?_ | refine InBlk.r ?_)))
          exact ⟨_, rfl, rfl, rfl⟩
        · by_cases c2 : 10000 < x1
          · (repeat (first | (with_reducible refine AWo.cons ?_) | ((with_reducible refine Step.id ?_); first | ((with_reducible apply Step.gdT); exact rfl; exact rfl; (focus ((simp only [decide_eq_true_eq, decide_eq_false_iff_not, Bool.not_eq_true', Bool.not_eq_false', Bool.not_true, Bool.not_false]; first | assumption | omega)))) | ((with_reducible apply Step.gdF); exact rfl; exact rfl; (focus (first | rfl | (simp only [decide_eq_true_eq, decide_eq_false_iff_not, Bool.not_eq_true', Bool.not_eq_false', Bool.not_true, Bool.not_false]; first | assumption | omega)))) | ((with_reducible apply Step.move); exact rfl; exact rfl) | ((with_reducible apply Step.assign); exact rfl; exact rfl) | ((with_reducible apply Step.load); exact rfl; (focus (decide +kernel)); exact rfl; (focus (exact Rd.new rfl rfl))) | ((with_reducible apply Step.loadL (n := 4)); exact rfl; (focus (decide +kernel)); (focus (decide +kernel)); exact rfl; (focus (exact RdL.old _ (by assumption))); exact rfl; exact rfl) | ((with_reducible apply Step.ix (s := 4)); exact rfl; (focus (assumption)); exact rfl; (focus (decide +kernel)); exact rfl; (focus (omega))) | ((with_reducible apply Step.field0); exact rfl; (focus (decide +kernel)); exact rfl) | ((with_reducible apply Step.lss); exact rfl; exact rfl; exact rfl) | ((with_reducible apply Step.gtr); exact rfl; exact rfl; exact rfl) | ((with_reducible apply Step.pickT); exact rfl; exact rfl; exact rfl; exact rfl; (focus (first | rfl | (simp only [decide_eq_true_eq, decide_eq_false_iff_not, Bool.not_eq_true', Bool.not_eq_false', Bool.not_true, Bool.not_false]; first | assumption | omega)))) | ((with_reducible apply Step.pickF); exact rfl; exact rfl; exact rfl; exact rfl; (focus ((simp only [decide_eq_true_eq, decide_eq_false_iff_not, Bool.not_eq_true', Bool.not_eq_false', Bool.not_true, Bool.not_false]; first | assumption | omega)))) | ((with_reducible apply Step.alloc 0); exact rfl; exact ze87; exact rfl; (focus (first | (simp only [List.nil_append, List.cons_append, List.set_cons_zero, List.set_cons_succ, iv_set, bv_set, iv_rep, bv_rep]; done) | (simp only [List.nil_append, List.cons_append, List.set_cons_zero, List.set_cons_succ, iv_set, bv_set, iv_rep, bv_rep]; rfl) | rfl))) | ((with_reducible apply Step.storeA (k := 0) (n := 4)); exact rfl; exact rfl; exact rfl; exact rfl; (focus (decide +kernel)); exact rfl; (focus (first | assumption | exact hw1)); exact rfl; (focus (first | (simp only [List.nil_append, List.cons_append, List.set_cons_zero, List.set_cons_succ, iv_set, bv_set, iv_rep, bv_rep]; done) | (simp only [List.nil_append, List.cons_append, List.set_cons_zero, List.set_cons_succ, iv_set, bv_set, iv_rep, bv_rep]; rfl) | rfl)))) | (with_reducible refine AWo.nil ?_) | ((with_reducible apply AW.seq)) | ((with_reducible apply Then.n)) | ((with_reducible apply AW.regL)) | ((with_reducible apply AW.block)) | ((with_reducible apply AW.skip)) | ((with_reducible apply AW.condT); exact rfl; (focus (first | rfl | (simp only [decide_eq_true_eq, decide_eq_false_iff_not, Bool.not_eq_true', Bool.not_eq_false', Bool.not_true, Bool.not_false]; first | assumption | omega))))))
            (refine AW.retD (l := [(2, _)]) (by repeat (first | exact trivial | (refine And.intro ⟨rfl, by (exact .bool _)⟩ ?_))) ?_; (repeat (first | refine Then.r ?_ | refine InBlk.r ?_)))
            exact ⟨_, rfl, rfl, rfl⟩
          · by_cases c3 : x2 < 0
            · (repeat (first | (with_reducible refine AWo.cons ?_) | ((with_reducible refine Step.id ?_); first | ((with_reducible apply Step.gdT); exact rfl; exact rfl; (focus ((simp only [decide_eq_true_eq, decide_eq_false_iff_not, Bool.not_eq_true', Bool.not_eq_false', Bool.not_true, Bool.not_false]; first | assumption | omega)))) | ((with_reducible apply Step.gdF); exact rfl; exact rfl; (focus (first | rfl | (simp only [decide_eq_true_eq, decide_eq_false_iff_not, Bool.not_eq_true', Bool.not_eq_false', Bool.not_true, Bool.not_false]; first | assumption | omega)))) | ((with_reducible apply Step.move); exact rfl; exact rfl) | ((with_reducible apply Step.assign); exact rfl; exact rfl) | ((with_reducible apply Step.load); exact rfl; (focus (decide +kernel)); exact rfl; (focus (exact Rd.new rfl rfl))) | ((with_reducible apply Step.loadL (n := 4)); exact rfl; (focus (decide +kernel)); (focus (decide +kernel)); exact rfl; (focus (exact RdL.old _ (by assumption))); exact rfl; exact rfl) | ((with_reducible apply Step.ix (s := 4)); exact rfl; (focus (assumption)); exact rfl; (focus (decide +kernel)); exact rfl; (focus (omega))) | ((with_reducible apply Step.field0); exact rfl; (focus (decide +kernel)); exact rfl) | ((with_reducible apply Step.field (k := 1)); exact rfl; (focus (decide +kernel)); exact rfl) | ((with_reducible apply Step.lss); exact rfl; exact rfl; exact rfl) | ((with_reducible apply Step.gtr); exact rfl; exact rfl; exact rfl) | ((with_reducible apply Step.pickT); exact rfl; exact rfl; exact rfl; exact rfl; (focus (first | rfl | (simp only [decide_eq_true_eq, decide_eq_false_iff_not, Bool.not_eq_true', Bool.not_eq_false', Bool.not_true, Bool.not_false]; first | assumption | omega)))) | ((with_reducible apply Step.pickF); exact rfl; exact rfl; exact rfl; exact rfl; (focus ((simp only [decide_eq_true_eq, decide_eq_false_iff_not, Bool.not_eq_true', Bool.not_eq_false', Bool.not_true, Bool.not_false]; first | assumption | omega)))) | ((with_reducible apply Step.alloc 0); exact rfl; exact ze87; exact rfl; (focus (first | (simp only [List.nil_append, List.cons_append, List.set_cons_zero, List.set_cons_succ, iv_set, bv_set, iv_rep, bv_rep]; done) | (simp only [List.nil_append, List.cons_append, List.set_cons_zero, List.set_cons_succ, iv_set, bv_set, iv_rep, bv_rep]; rfl) | rfl))) | ((with_reducible apply Step.storeA (k := 0) (n := 4)); exact rfl; exact rfl; exact rfl; exact rfl; (focus (decide +kernel)); exact rfl; (focus (first | assumption | exact hw1)); exact rfl; (focus (first | (simp only [List.nil_append, List.cons_append, List.set_cons_zero, List.set_cons_succ, iv_set, bv_set, iv_rep, bv_rep]; done) | (simp only [List.nil_append, List.cons_append, List.set_cons_zero, List.set_cons_succ, iv_set, bv_set, iv_rep, bv_rep]; rfl) | rfl)))) | (with_reducible refine AWo.nil ?_) | ((with_reducible apply AW.seq)) | ((with_reducible apply Then.n)) | ((with_reducible apply AW.regL)) | ((with_reducible apply AW.block)) | ((with_reducible apply AW.skip)) | ((with_reducible apply AW.condT); exact rfl; (focus (first | rfl | (simp only [decide_eq_true_eq, decide_eq_false_iff_not, Bool.not_eq_true', Bool.not_eq_false', Bool.not_true, Bool.not_false]; first | assumption | omega))))))
              (refine AW.retD (l := [(2, _)]) (by repeat (first | exact trivial | (refine And.intro ⟨rfl, by (exact .bool _)⟩ ?_))) ?_; (repeat (first | refine Then.r ?_ | refine InBlk.r ?_)))
              exact ⟨_, rfl, rfl, rfl⟩
            · by_cases c4 : 1000000 < x2
              · (repeat (first | (with_reducible refine AWo.cons ?_) | ((with_reducible refine Step.id ?_); first | ((with_reducible apply Step.gdT); exact rfl; exact rfl; (focus ((simp only [decide_eq_true_eq, decide_eq_false_iff_not, Bool.not_eq_true', Bool.not_eq_false', Bool.not_true, Bool.not_false]; first | assumption | omega)))) | ((with_reducible apply Step.gdF); exact rfl; exact rfl; (focus (first | rfl | (simp only [decide_eq_true_eq, decide_eq_false_iff_not, Bool.not_eq_true', Bool.not_eq_false', Bool.not_true, Bool.not_false]; first | assumption | omega)))) | ((with_reducible apply Step.move); exact rfl; exact rfl) | ((with_reducible apply Step.assign); exact rfl; exact rfl) | ((with_reducible apply Step.load); exact rfl; (focus (decide +kernel)); exact rfl; (focus (exact Rd.new rfl rfl))) | ((with_reducible apply Step.loadL (n := 4)); exact rfl; (focus (decide +kernel)); (focus (decide +kernel)); exact rfl; (focus (exact RdL.old _ (by assumption))); exact rfl; exact rfl) | ((with_reducible apply Step.ix (s := 4)); exact rfl; (focus (assumption)); exact rfl; (focus (decide +kernel)); exact rfl; (focus (omega))) | ((with_reducible apply Step.field0); exact rfl; (focus (decide +kernel)); exact rfl) | ((with_reducible apply Step.field (k := 1)); exact rfl; (focus (decide +kernel)); exact rfl) | ((with_reducible apply Step.lss); exact rfl; exact rfl; exact rfl) | ((with_reducible apply Step.gtr); exact rfl; exact rfl; exact rfl) | ((with_reducible apply Step.pickT); exact rfl; exact rfl; exact rfl; exact rfl; (focus (first | rfl | (simp only [decide_eq_true_eq, decide_eq_false_iff_not, Bool.not_eq_true', Bool.not_eq_false', Bool.not_true, Bool.not_false]; first | assumption | omega)))) | ((with_reducible apply Step.pickF); exact rfl; exact rfl; exact rfl; exact rfl; (focus ((simp only [decide_eq_true_eq, decide_eq_false_iff_not, Bool.not_eq_true', Bool.not_eq_false', Bool.not_true, Bool.not_false]; first | assumption | omega)))) | ((with_reducible apply Step.alloc 0); exact rfl; exact ze87; exact rfl; (focus (first | (simp only [List.nil_append, List.cons_append, List.set_cons_zero, List.set_cons_succ, iv_set, bv_set, iv_rep, bv_rep]; done) | (simp only [List.nil_append, List.cons_append, List.set_cons_zero, List.set_cons_succ, iv_set, bv_set, iv_rep, bv_rep]; rfl) | rfl))) | ((with_reducible apply Step.storeA (k := 0) (n := 4)); exact rfl; exact rfl; exact rfl; exact rfl; (focus (decide +kernel)); exact rfl; (focus (first | assumption | exact hw1)); exact rfl; (focus (first | (simp only [List.nil_append, List.cons_append, List.set_cons_zero, List.set_cons_succ, iv_set, bv_set, iv_rep, bv_rep]; done) | (simp only [List.nil_append, List.cons_append, List.set_cons_zero, List.set_cons_succ, iv_set, bv_set, iv_rep, bv_rep]; rfl) | rfl)))) | (with_reducible refine AWo.nil ?_) | ((with_reducible apply AW.seq)) | ((with_reducible apply Then.n)) | ((with_reducible apply AW.regL)) | ((with_reducible apply AW.block)) | ((with_reducible apply AW.skip)) | ((with_reducible apply AW.condT); exact rfl; (focus (first | rfl | (simp only [decide_eq_true_eq, decide_eq_false_iff_not, Bool.not_eq_true', Bool.not_eq_false', Bool.not_true, Bool.not_false]; first | assumption | omega))))))
                (refine AW.retD (l := [(2, _)]) (by repeat (first | exact trivial | (refine And.intro ⟨rfl, by (exact .bool _)⟩ ?_))) ?_; (repeat (first | refine Then.r ?_ | refine InBlk.r ?_)))
                exact ⟨_, rfl, rfl, rfl⟩
              · by_cases c5 : x3 < 0
                · (repeat (first | (with_reducible refine AWo.cons ?_) | ((with_reducible refine Step.id ?_); first | ((with_reducible apply Step.gdT); exact rfl; exact rfl; (focus ((simp only [decide_eq_true_eq, decide_eq_false_iff_not, Bool.not_eq_true', Bool.not_eq_false', Bool.not_true, Bool.not_false]; first | assumption | omega)))) | ((with_reducible apply Step.gdF); exact rfl; exact rfl; (focus ((simp only [decide_eq_true_eq, decide_eq_false_iff_not, Bool.not_eq_true', Bool.not_eq_false', Bool.not_true, Bool.not_false]; first | assumption | omega)))) | ((with_reducible apply Step.move); exact rfl; exact rfl) | ((with_reducible apply Step.assign); exact rfl; exact rfl) | ((with_reducible apply Step.load); exact rfl; (focus (decide +kernel)); exact rfl; (focus (exact Rd.new rfl rfl))) | ((with_reducible apply Step.loadL (n := 4)); exact rfl; (focus (decide +kernel)); (focus (decide +kernel)); exact rfl; (focus (exact RdL.old _ (by assumption))); exact rfl; exact rfl) | ((with_reducible apply Step.ix (s := 4)); exact rfl; (focus (assumption)); exact rfl; (focus (decide +kernel)); exact rfl; (focus (omega))) | ((with_reducible apply Step.field0); exact rfl; (focus (decide +kernel)); exact rfl) | ((with_reducible apply Step.field (k := 1)); exact rfl; (focus (decide +kernel)); exact rfl) | ((with_reducible apply Step.field (k := 2)); exact rfl; (focus (decide +kernel)); exact rfl) | ((with_reducible apply Step.lss); exact rfl; exact rfl; exact rfl) | ((with_reducible apply Step.gtr); exact rfl; exact rfl; exact rfl) | ((with_reducible apply Step.pickT); exact rfl; exact rfl; exact rfl; exact rfl; (focus ((simp only [decide_eq_true_eq, decide_eq_false_iff_not, Bool.not_eq_true', Bool.not_eq_false', Bool.not_true, Bool.not_false]; first | assumption | omega)))) | ((with_reducible apply Step.pickF); exact rfl; exact rfl; exact rfl; exact rfl; (focus ((simp only [decide_eq_true_eq, decide_eq_false_iff_not, Bool.not_eq_true', Bool.not_eq_false', Bool.not_true, Bool.not_false]; first | assumption | omega)))) | ((with_reducible apply Step.alloc 0); exact rfl; exact ze87; exact rfl; (focus (first | (simp only [List.nil_append, List.cons_append, List.set_cons_zero, List.set_cons_succ, iv_set, bv_set, iv_rep, bv_rep]; done) | (simp only [List.nil_append, List.cons_append, List.set_cons_zero, List.set_cons_succ, iv_set, bv_set, iv_rep, bv_rep]; rfl) | rfl))) | ((with_reducible apply Step.storeA (k := 0) (n := 4)); exact rfl; exact rfl; exact rfl; exact rfl; (focus (decide +kernel)); exact rfl; (focus (first | assumption | exact hw1)); exact rfl; (focus (first | (simp only [List.nil_append, List.cons_append, List.set_cons_zero, List.set_cons_succ, iv_set, bv_set, iv_rep, bv_rep]; done) | (simp only [List.nil_append, List.cons_append, List.set_cons_zero, List.set_cons_succ, iv_set, bv_set, iv_rep, bv_rep]; rfl) | rfl)))) | (with_reducible refine AWo.nil ?_) | ((with_reducible apply AW.seq)) | ((with_reducible apply Then.n)) | ((with_reducible apply AW.regL)) | ((with_reducible apply AW.block)) | ((with_reducible apply AW.skip)) | ((with_reducible apply AW.condT); exact rfl; (focus (first | rfl | (simp only [decide_eq_true_eq, decide_eq_false_iff_not, Bool.not_eq_true', Bool.not_eq_false', Bool.not_true, Bool.not_false]; first | assumption | omega))))))
                  (refine AW.retD (l := [(2, _)]) (by repeat (first | exact trivial | (refine And.intro ⟨rfl, by (exact .bool _)⟩ ?_))) ?_; (repeat (first | refine Then.r ?_ | refine InBlk.r ?_)))
                  exact ⟨_, rfl, rfl, rfl⟩
                · have c6 : 1000 < x3 := by omega
                  (repeat (first | (with_reducible refine AWo.cons ?_) | ((with_reducible refine Step.id ?_); first | ((with_reducible apply Step.gdT); exact rfl; exact rfl; (focus ((simp only [decide_eq_true_eq, decide_eq_false_iff_not, Bool.not_eq_true', Bool.not_eq_false', Bool.not_true, Bool.not_false]; first | assumption | omega)))) | ((with_reducible apply Step.move); exact rfl; exact rfl) | ((with_reducible apply Step.assign); exact rfl; exact rfl) | ((with_reducible apply Step.load); exact rfl; (focus (decide +kernel)); exact rfl; (focus (exact Rd.new rfl rfl))) | ((with_reducible apply Step.loadL (n := 4)); exact rfl; (focus (decide +kernel)); (focus (decide +kernel)); exact rfl; (focus (exact RdL.old _ (by assumption))); exact rfl; exact rfl) | ((with_reducible apply Step.ix (s := 4)); exact rfl; (focus (assumption)); exact rfl; (focus (decide +kernel)); exact rfl; (focus (omega))) | ((with_reducible apply Step.field0); exact rfl; (focus (decide +kernel)); exact rfl) | ((with_reducible apply Step.field (k := 1)); exact rfl; (focus (decide +kernel)); exact rfl) | ((with_reducible apply Step.field (k := 2)); exact rfl; (focus (decide +kernel)); exact rfl) | ((with_reducible apply Step.lss); exact rfl; exact rfl; exact rfl) | ((with_reducible apply Step.gtr); exact rfl; exact rfl; exact rfl) | ((with_reducible apply Step.pickF); exact rfl; exact rfl; exact rfl; exact rfl; (focus ((simp only [decide_eq_true_eq, decide_eq_false_iff_not, Bool.not_eq_true', Bool.not_eq_false', Bool.not_true, Bool.not_false]; first | assumption | omega)))) | ((with_reducible apply Step.alloc 0); exact rfl; exact ze87; exact rfl; (focus (first | (simp only [List.nil_append, List.cons_append, List.set_cons_zero, List.set_cons_succ, iv_set, bv_set, iv_rep, bv_rep]; done) | (simp only [List.nil_append, List.cons_append, List.set_cons_zero, List.set_cons_succ, iv_set, bv_set, iv_rep, bv_rep]; rfl) | rfl))) | ((with_reducible apply Step.storeA (k := 0) (n := 4)); exact rfl; exact rfl; exact rfl; exact rfl; (focus (decide +kernel)); exact rfl; (focus (first | assumption | exact hw1)); exact rfl; (focus (first | (simp only [List.nil_append, List.cons_append, List.set_cons_zero, List.set_cons_succ, iv_set, bv_set, iv_rep, bv_rep]; done) | (simp only [List.nil_append, List.cons_append, List.set_cons_zero, List.set_cons_succ, iv_set, bv_set, iv_rep, bv_rep]; rfl) | rfl)))) | (with_reducible refine AWo.nil ?_) | ((with_reducible apply AW.seq)) | ((with_reducible apply Then.n)) | ((with_reducible apply AW.regL)) | ((with_reducible apply AW.block)) | ((with_reducible apply AW.skip)) | ((with_reducible apply AW.condT); exact rfl; (focus ((simp only [decide_eq_true_eq, decide_eq_false_iff_not, Bool.not_eq_true', Bool.not_eq_false', Bool.not_true, Bool.not_false]; first | assumption | omega))))))
                  (refine AW.retD (l := [(2, _)]) (by repeat (first | exact trivial | (refine And.intro ⟨rfl, by (exact .bool _)⟩ ?_))) ?_; (repeat (first | refine Then.r ?_ | refine InBlk.r ?_)))
                  exact ⟨_, rfl, rfl, rfl⟩
      | true =>
        have hx' := hx
        simp only [numsB, decide_eq_true_eq] at hx'
        obtain ⟨c1, c2, c3, c4, c5, c6⟩ := hx'
        (repeat (first | (with_reducible refine AWo.cons ?_) | ((with_reducible refine Step.id ?_); first | ((with_reducible apply Step.gdT); exact rfl; exact rfl; (focus ((simp only [decide_eq_true_eq, decide_eq_false_iff_not, Bool.not_eq_true', Bool.not_eq_false', Bool.not_true, Bool.not_false]; first | assumption | omega)))) | ((with_reducible apply Step.move); exact rfl; exact rfl) | ((with_reducible apply Step.load); exact rfl; (focus (decide +kernel)); exact rfl; (focus (exact Rd.new rfl rfl))) | ((with_reducible apply Step.loadL (n := 4)); exact rfl; (focus (decide +kernel)); (focus (decide +kernel)); exact rfl; (focus (exact RdL.old _ (by assumption))); exact rfl; exact rfl) | ((with_reducible apply Step.ix (s := 4)); exact rfl; (focus (assumption)); exact rfl; (focus (decide +kernel)); exact rfl; (focus (omega))) | ((with_reducible apply Step.field0); exact rfl; (focus (decide +kernel)); exact rfl) | ((with_reducible apply Step.field (k := 1)); exact rfl; (focus (decide +kernel)); exact rfl) | ((with_reducible apply Step.field (k := 2)); exact rfl; (focus (decide +kernel)); exact rfl) | ((with_reducible apply Step.field (k := 3)); exact rfl; (focus (decide +kernel)); exact rfl) | ((with_reducible apply Step.lss); exact rfl; exact rfl; exact rfl) | ((with_reducible apply Step.gtr); exact rfl; exact rfl; exact rfl) | ((with_reducible apply Step.len); exact rfl; (focus (assumption)); (focus (decide +kernel)); exact rfl) | ((with_reducible apply Step.pickF); exact rfl; exact rfl; exact rfl; exact rfl; (focus ((simp only [decide_eq_true_eq, decide_eq_false_iff_not, Bool.not_eq_true', Bool.not_eq_false', Bool.not_true, Bool.not_false]; first | assumption | omega)))) | ((with_reducible apply Step.alloc 0); exact rfl; exact ze87; exact rfl; (focus (first | (simp only [List.nil_append, List.cons_append, List.set_cons_zero, List.set_cons_succ, iv_set, bv_set, iv_rep, bv_rep]; done) | (simp only [List.nil_append, List.cons_append, List.set_cons_zero, List.set_cons_succ, iv_set, bv_set, iv_rep, bv_rep]; rfl) | rfl))) | ((with_reducible apply Step.storeA (k := 0) (n := 4)); exact rfl; exact rfl; exact rfl; exact rfl; (focus (decide +kernel)); exact rfl; (focus (first | assumption | exact hw1)); exact rfl; (focus (first | (simp only [List.nil_append, List.cons_append, List.set_cons_zero, List.set_cons_succ, iv_set, bv_set, iv_rep, bv_rep]; done) | (simp only [List.nil_append, List.cons_append, List.set_cons_zero, List.set_cons_succ, iv_set, bv_set, iv_rep, bv_rep]; rfl) | rfl)))) | (with_reducible refine AWo.nil ?_) | ((with_reducible apply AW.seq)) | ((with_reducible apply Then.n)) | ((with_reducible apply AW.regL)) | ((with_reducible apply AW.block)) | ((with_reducible apply AW.skip)) | ((with_reducible apply AW.condT); exact rfl; (focus ((simp only [decide_eq_true_eq, decide_eq_false_iff_not, Bool.not_eq_true', Bool.not_eq_false', Bool.not_true, Bool.not_false]; first | assumption | omega)))) | ((with_reducible apply AW.condF); exact rfl; (focus ((simp only [decide_eq_true_eq, decide_eq_false_iff_not, Bool.not_eq_true', Bool.not_eq_false', Bool.not_true, Bool.not_false]; first | assumption | omega))))))
        refine AW.loopT (fun n t L => ∃ i : Nat, n = l.length - i ∧ i ≤ l.length ∧ (∀ q, q < i → risOk j.length l q = true) ∧ L = [some { cells := [.int .i64 x1, .int .i64 x2, .int .i64 x3, w] }] ∧
          t = [(0, v), (10, v), (11, .int .i64 (j.length : Nat)), (12, .int .i64 (k : Nat)), (4, .pointer (some ⟨m.length + 0, 0, none⟩)), (45, w), (46, .int .i64 (l.length : Nat)), (47, .int .i64 (i : Nat))]) ⟨_, _, _, (Or.inl ⟨rfl, (by repeat (first | exact trivial | (refine And.intro rfl ?_)))⟩), 0, rfl, Nat.zero_le _, by omega, rfl, rfl⟩ ?_
        rintro n t L ⟨i, rfl, hi, hris, rfl, rfl⟩
        rcases Nat.lt_or_ge i l.length with hlt2 | hge2
        · have hri := w3 i hlt2
          have badi : risOk j.length l i = false → jobsB j = false := fun e => bad (by simp [jobB, risB_not hlt2 e])
          have next : risOk j.length l i = true → ∀ q, q < i + 1 → risOk j.length l q = true := fun e q hq => by
            rcases Nat.lt_succ_iff_lt_or_eq.1 hq with h | h
            · exact hris q h
            · rw [h]; exact e
          by_cases d1 : l.getD i 0 < 0
          · rw [badi (by simp only [risOk, decide_eq_false_iff_not]; omega)]
            (repeat (first | (with_reducible refine AWo.cons ?_) | ((with_reducible refine Step.id ?_); first | ((with_reducible apply Step.gdU); exact rfl; exact rfl) | ((with_reducible apply Step.gdF); exact rfl; exact rfl; (focus (first | rfl | (simp only [decide_eq_true_eq, decide_eq_false_iff_not, Bool.not_eq_true', Bool.not_eq_false', Bool.not_true, Bool.not_false]; first | assumption | omega)))) | ((with_reducible apply Step.move); exact rfl; exact rfl) | ((with_reducible apply Step.assign); exact rfl; exact rfl) | ((with_reducible apply Step.load); exact rfl; (focus (decide +kernel)); exact rfl; (focus (exact Rd.old _ (by assumption)))) | ((with_reducible apply Step.ix1); exact rfl; (focus (assumption)); exact rfl; (focus (decide +kernel)); exact rfl; (focus (omega))) | ((with_reducible apply Step.lss); exact rfl; exact rfl; exact rfl) | ((with_reducible apply Step.pickT); exact rfl; exact rfl; exact rfl; exact rfl; (focus (first | rfl | (simp only [decide_eq_true_eq, decide_eq_false_iff_not, Bool.not_eq_true', Bool.not_eq_false', Bool.not_true, Bool.not_false]; first | assumption | omega))))) | (with_reducible refine AWo.nil ?_) | ((with_reducible apply AW.seq)) | ((with_reducible apply Then.n)) | ((with_reducible apply AW.regL)) | ((with_reducible apply AW.block)) | ((with_reducible apply AW.skip)) | ((with_reducible apply AW.condT); exact rfl; (focus (first | rfl | (simp only [decide_eq_true_eq, decide_eq_false_iff_not, Bool.not_eq_true', Bool.not_eq_false', Bool.not_true, Bool.not_false]; first | assumption | omega))))))
            (refine AW.retD (l := [(2, _)]) (by repeat (first | exact trivial | (refine And.intro ⟨rfl, by (exact .bool _)⟩ ?_))) ?_; (repeat (first | refine Then.r ?_ | refine InBlk.r ?_)))
            exact ⟨_, rfl, rfl, rfl⟩
          · by_cases d2 : (j.length : Int) ≤ l.getD i 0
            · rw [badi (by simp only [risOk, decide_eq_false_iff_not]; omega)]
              (repeat (first | (with_reducible refine AWo.cons ?_) | ((with_reducible refine Step.id ?_); first | ((with_reducible apply Step.gdU); exact rfl; exact rfl) | ((with_reducible apply Step.gdT); exact rfl; exact rfl; (focus ((simp only [decide_eq_true_eq, decide_eq_false_iff_not, Bool.not_eq_true', Bool.not_eq_false', Bool.not_true, Bool.not_false]; first | assumption | omega)))) | ((with_reducible apply Step.gdF); exact rfl; exact rfl; (focus ((simp only [decide_eq_true_eq, decide_eq_false_iff_not, Bool.not_eq_true', Bool.not_eq_false', Bool.not_true, Bool.not_false]; first | assumption | omega)))) | ((with_reducible apply Step.move); exact rfl; exact rfl) | ((with_reducible apply Step.assign); exact rfl; exact rfl) | ((with_reducible apply Step.load); exact rfl; (focus (decide +kernel)); exact rfl; (focus (exact Rd.old _ (by assumption)))) | ((with_reducible apply Step.ix1); exact rfl; (focus (assumption)); exact rfl; (focus (decide +kernel)); exact rfl; (focus (omega))) | ((with_reducible apply Step.lss); exact rfl; exact rfl; exact rfl) | ((with_reducible apply Step.geq); exact rfl; exact rfl; exact rfl) | ((with_reducible apply Step.len); exact rfl; (focus (assumption)); (focus (decide +kernel)); exact rfl) | ((with_reducible apply Step.pickT); exact rfl; exact rfl; exact rfl; exact rfl; (focus ((simp only [decide_eq_true_eq, decide_eq_false_iff_not, Bool.not_eq_true', Bool.not_eq_false', Bool.not_true, Bool.not_false]; first | assumption | omega)))) | ((with_reducible apply Step.pickF); exact rfl; exact rfl; exact rfl; exact rfl; (focus ((simp only [decide_eq_true_eq, decide_eq_false_iff_not, Bool.not_eq_true', Bool.not_eq_false', Bool.not_true, Bool.not_false]; first | assumption | omega))))) | (with_reducible refine AWo.nil ?_) | ((with_reducible apply AW.seq)) | ((with_reducible apply Then.n)) | ((with_reducible apply AW.regL)) | ((with_reducible apply AW.block)) | ((with_reducible apply AW.skip)) | ((with_reducible apply AW.condT); exact rfl; (focus (first | rfl | (simp only [decide_eq_true_eq, decide_eq_false_iff_not, Bool.not_eq_true', Bool.not_eq_false', Bool.not_true, Bool.not_false]; first | assumption | omega))))))
              (refine AW.retD (l := [(2, _)]) (by repeat (first | exact trivial | (refine And.intro ⟨rfl, by (exact .bool _)⟩ ?_))) ?_; (repeat (first | refine Then.r ?_ | refine InBlk.r ?_)))
              exact ⟨_, rfl, rfl, rfl⟩
            · by_cases d3 : (i : Int) > 0
              · have hrp := w3 (i - 1) (by omega)
                have ep : ((i : Nat) : Int) - 1 = ((i - 1 : Nat) : Int) := by omega
                by_cases d4 : l.getD i 0 ≤ l.getD (i - 1) 0
                · rw [badi (by simp only [risOk, decide_eq_false_iff_not]; omega)]
                  (repeat (first | (with_reducible refine AWo.cons ?_) | ((with_reducible refine Step.id ?_); first | ((with_reducible apply Step.gdT); exact rfl; exact rfl; (focus ((simp only [decide_eq_true_eq, decide_eq_false_iff_not, Bool.not_eq_true', Bool.not_eq_false', Bool.not_true, Bool.not_false]; first | assumption | omega)))) | ((with_reducible apply Step.move); exact rfl; exact rfl) | ((with_reducible apply Step.assign); exact rfl; exact rfl) | ((with_reducible apply Step.load); exact rfl; (focus (decide +kernel)); exact rfl; (focus (first | exact Rd.new rfl rfl | exact Rd.old _ (by assumption)))) | ((with_reducible apply Step.ix1); exact rfl; (focus (assumption)); exact rfl; (focus (decide +kernel)); exact rfl; (focus (omega))) | ((with_reducible apply Step.field (k := 3)); exact rfl; (focus (decide +kernel)); exact rfl) | ((with_reducible apply Step.subE); exact rfl; exact rfl; (focus (assumption)); (focus (omega)); exact rfl) | ((with_reducible apply Step.lss); exact rfl; exact rfl; exact rfl) | ((with_reducible apply Step.leq); exact rfl; exact rfl; exact rfl) | ((with_reducible apply Step.gtr); exact rfl; exact rfl; exact rfl) | ((with_reducible apply Step.geq); exact rfl; exact rfl; exact rfl) | ((with_reducible apply Step.len); exact rfl; (focus (assumption)); (focus (decide +kernel)); exact rfl) | ((with_reducible apply Step.pickT); exact rfl; exact rfl; exact rfl; exact rfl; (focus ((simp only [decide_eq_true_eq, decide_eq_false_iff_not, Bool.not_eq_true', Bool.not_eq_false', Bool.not_true, Bool.not_false]; first | assumption | omega)))) | ((with_reducible apply Step.pickF); exact rfl; exact rfl; exact rfl; exact rfl; (focus ((simp only [decide_eq_true_eq, decide_eq_false_iff_not, Bool.not_eq_true', Bool.not_eq_false', Bool.not_true, Bool.not_false]; first | assumption | omega))))) | (with_reducible refine AWo.nil ?_) | ((with_reducible apply AW.seq)) | ((with_reducible apply Then.n)) | ((with_reducible apply AW.regL)) | ((with_reducible apply AW.block)) | ((with_reducible apply AW.skip)) | ((with_reducible apply AW.condT); exact rfl; (focus ((simp only [decide_eq_true_eq, decide_eq_false_iff_not, Bool.not_eq_true', Bool.not_eq_false', Bool.not_true, Bool.not_false]; first | assumption | omega))))))
                  (refine AW.retD (l := [(2, _)]) (by repeat (first | exact trivial | (refine And.intro ⟨rfl, by (exact .bool _)⟩ ?_))) ?_; (repeat (first | refine Then.r ?_ | refine InBlk.r ?_)))
                  exact ⟨_, rfl, rfl, rfl⟩
                · have e := next (by simp only [risOk, decide_eq_true_eq]; omega)
                  (repeat (first | (with_reducible refine AWo.cons ?_) | ((with_reducible refine Step.id ?_); first | ((with_reducible apply Step.gdT); exact rfl; exact rfl; (focus ((simp only [decide_eq_true_eq, decide_eq_false_iff_not, Bool.not_eq_true', Bool.not_eq_false', Bool.not_true, Bool.not_false]; first | assumption | omega)))) | ((with_reducible apply Step.move); exact rfl; exact rfl) | ((with_reducible apply Step.assign); exact rfl; exact rfl) | ((with_reducible apply Step.load); exact rfl; (focus (decide +kernel)); exact rfl; (focus (first | exact Rd.new rfl rfl | exact Rd.old _ (by assumption)))) | ((with_reducible apply Step.ix1); exact rfl; (focus (assumption)); exact rfl; (focus (decide +kernel)); exact rfl; (focus (omega))) | ((with_reducible apply Step.field (k := 3)); exact rfl; (focus (decide +kernel)); exact rfl) | ((with_reducible apply Step.subE); exact rfl; exact rfl; (focus (assumption)); (focus (omega)); exact rfl) | ((with_reducible apply Step.add); exact rfl; exact rfl; (focus (omega)); exact rfl) | ((with_reducible apply Step.lss); exact rfl; exact rfl; exact rfl) | ((with_reducible apply Step.leq); exact rfl; exact rfl; exact rfl) | ((with_reducible apply Step.gtr); exact rfl; exact rfl; exact rfl) | ((with_reducible apply Step.geq); exact rfl; exact rfl; exact rfl) | ((with_reducible apply Step.len); exact rfl; (focus (assumption)); (focus (decide +kernel)); exact rfl) | ((with_reducible apply Step.pickT); exact rfl; exact rfl; exact rfl; exact rfl; (focus ((simp only [decide_eq_true_eq, decide_eq_false_iff_not, Bool.not_eq_true', Bool.not_eq_false', Bool.not_true, Bool.not_false]; first | assumption | omega)))) | ((with_reducible apply Step.pickF); exact rfl; exact rfl; exact rfl; exact rfl; (focus ((simp only [decide_eq_true_eq, decide_eq_false_iff_not, Bool.not_eq_true', Bool.not_eq_false', Bool.not_true, Bool.not_false]; first | assumption | omega))))) | (with_reducible refine AWo.nil ?_) | ((with_reducible apply AW.seq)) | ((with_reducible apply Then.n)) | ((with_reducible apply AW.regL)) | ((with_reducible apply AW.block)) | ((with_reducible apply InBlk.n)) | ((with_reducible apply AW.skip)) | ((with_reducible apply AW.condT); exact rfl; (focus ((simp only [decide_eq_true_eq, decide_eq_false_iff_not, Bool.not_eq_true', Bool.not_eq_false', Bool.not_true, Bool.not_false]; first | assumption | omega)))) | ((with_reducible apply AW.condF); exact rfl; (focus ((simp only [decide_eq_true_eq, decide_eq_false_iff_not, Bool.not_eq_true', Bool.not_eq_false', Bool.not_true, Bool.not_false]; first | assumption | omega))))))
                  exact ⟨_, _, _, by omega, (Or.inl ⟨rfl, (by repeat (first | exact trivial | (refine And.intro rfl ?_)))⟩), i + 1, rfl, by omega, e, rfl, rfl⟩
              · have e := next (by simp only [risOk, decide_eq_true_eq]; omega)
                (repeat (first | (with_reducible refine AWo.cons ?_) | ((with_reducible refine Step.id ?_); first | ((with_reducible apply Step.gdT); exact rfl; exact rfl; (focus ((simp only [decide_eq_true_eq, decide_eq_false_iff_not, Bool.not_eq_true', Bool.not_eq_false', Bool.not_true, Bool.not_false]; first | assumption | omega)))) | ((with_reducible apply Step.gdF); exact rfl; exact rfl; (focus ((simp only [decide_eq_true_eq, decide_eq_false_iff_not, Bool.not_eq_true', Bool.not_eq_false', Bool.not_true, Bool.not_false]; first | assumption | omega)))) | ((with_reducible apply Step.move); exact rfl; exact rfl) | ((with_reducible apply Step.assign); exact rfl; exact rfl) | ((with_reducible apply Step.load); exact rfl; (focus (decide +kernel)); exact rfl; (focus (exact Rd.old _ (by assumption)))) | ((with_reducible apply Step.ix1); exact rfl; (focus (assumption)); exact rfl; (focus (decide +kernel)); exact rfl; (focus (omega))) | ((with_reducible apply Step.add); exact rfl; exact rfl; (focus (omega)); exact rfl) | ((with_reducible apply Step.lss); exact rfl; exact rfl; exact rfl) | ((with_reducible apply Step.gtr); exact rfl; exact rfl; exact rfl) | ((with_reducible apply Step.geq); exact rfl; exact rfl; exact rfl) | ((with_reducible apply Step.len); exact rfl; (focus (assumption)); (focus (decide +kernel)); exact rfl) | ((with_reducible apply Step.pickF); exact rfl; exact rfl; exact rfl; exact rfl; (focus ((simp only [decide_eq_true_eq, decide_eq_false_iff_not, Bool.not_eq_true', Bool.not_eq_false', Bool.not_true, Bool.not_false]; first | assumption | omega))))) | (with_reducible refine AWo.nil ?_) | ((with_reducible apply AW.seq)) | ((with_reducible apply Then.n)) | ((with_reducible apply AW.regL)) | ((with_reducible apply AW.block)) | ((with_reducible apply InBlk.n)) | ((with_reducible apply AW.skip)) | ((with_reducible apply AW.condT); exact rfl; (focus ((simp only [decide_eq_true_eq, decide_eq_false_iff_not, Bool.not_eq_true', Bool.not_eq_false', Bool.not_true, Bool.not_false]; first | assumption | omega)))) | ((with_reducible apply AW.condF); exact rfl; (focus (rfl)))))
                exact ⟨_, _, _, by omega, (Or.inl ⟨rfl, (by repeat (first | exact trivial | (refine And.intro rfl ?_)))⟩), i + 1, rfl, by omega, e, rfl, rfl⟩
        · have e := good (by
            simp only [jobB, hx, Bool.true_and, risB, List.all_eq_true, List.mem_range]
            intro q hq; exact hris q (by omega))
          (repeat (first | (with_reducible refine AWo.cons ?_) | ((with_reducible refine Step.id ?_); first | ((with_reducible apply Step.move); exact rfl; exact rfl) | ((with_reducible apply Step.add); exact rfl; exact rfl; (focus (omega)); exact rfl) | ((with_reducible apply Step.lss); exact rfl; exact rfl; exact rfl)) | (with_reducible refine AWo.nil ?_) | ((with_reducible apply AW.seq)) | ((with_reducible apply Then.n)) | ((with_reducible apply AW.regL)) | ((with_reducible apply AW.exit)) | ((with_reducible apply InBlk.n)) | ((with_reducible apply InBlk.hit)) | ((with_reducible apply Then.e)) | ((with_reducible apply AW.condF); exact rfl; (focus ((simp only [decide_eq_true_eq, decide_eq_false_iff_not, Bool.not_eq_true', Bool.not_eq_false', Bool.not_true, Bool.not_false]; first | assumption | omega))))))
          exact ⟨_, _, _, by omega, (Back.trim rfl rfl (by repeat (exact CellsOk.nil)) (by repeat (first | exact trivial | (refine And.intro ⟨rfl, by (first | exact .int _ _ | exact Ren.of_sl (by assumption) (by first | omega | (simp; omega)))⟩ ?_)))), k + 1, rfl, by omega, e, rfl, rfl⟩
    · (repeat (first | (with_reducible refine AWo.cons ?_) | ((with_reducible refine Step.id ?_); first | ((with_reducible apply Step.assign); exact rfl; exact rfl) | ((with_reducible apply Step.lss); exact rfl; exact rfl; exact rfl)) | (with_reducible refine AWo.nil ?_) | ((with_reducible apply AW.seq)) | ((with_reducible apply Then.n)) | ((with_reducible apply AW.regL)) | ((with_reducible apply AW.exit)) | ((with_reducible apply InBlk.hit)) | ((with_reducible apply Then.e)) | ((with_reducible apply AW.condF); exact rfl; (focus ((simp only [decide_eq_true_eq, decide_eq_false_iff_not, Bool.not_eq_true', Bool.not_eq_false', Bool.not_true, Bool.not_false]; first | assumption | omega))))))
      (refine AW.retD (l := [(2, _)]) (by repeat (first | exact trivial | (refine And.intro ⟨rfl, by (exact .bool _)⟩ ?_))) ?_; (repeat (first | refine Then.r ?_ | refine InBlk.r ?_)))
      rw [List.take_of_length_le hge] at hall
      exact ⟨_, rfl, by simp [jobsB, hall]; omega, rfl⟩
set_option maxHeartbeats 1000000 in
set_option maxRecDepth 100000 in
theorem RJobs_ok {m : AM} {v : Value} {j : List Job} (hj : Jobs m v j) (hafter : ∀ k, k < j.length → (j.getD k default).after.length ≤ 9223372036854775807) (hlen : j.length ≤ 9223372036854775807) {b : Bool} (hb : jobsB j = b) : ACall Try.prog 44 #[v] m (Ret (.bool b) m) := by
  subst hb
  obtain ⟨a, o, h1, h2, h3⟩ := hj
  refine ACall.start Try.func44 rfl rfl ?_
  by_cases h40 : (40 : Int) < (j.length : Int)
  · (repeat (first | (with_reducible refine AWo.cons ?_) | ((with_reducible refine Step.id ?_); first | ((with_reducible apply Step.move); exact rfl; exact rfl) | ((with_reducible apply Step.assign); exact rfl; exact rfl) | ((with_reducible apply Step.gtr); exact rfl; exact rfl; exact rfl) | ((with_reducible apply Step.len); exact rfl; (focus (assumption)); (focus (decide +kernel)); exact rfl)) | (with_reducible refine AWo.nil ?_) | ((with_reducible apply AW.seq)) | ((with_reducible apply Then.n)) | ((with_reducible apply AW.regL)) | ((with_reducible apply AW.condT); exact rfl; (focus ((simp only [decide_eq_true_eq, decide_eq_false_iff_not, Bool.not_eq_true', Bool.not_eq_false', Bool.not_true, Bool.not_false]; first | assumption | omega))))))
    (refine AW.retD (l := [(2, _)]) (by repeat (first | exact trivial | (refine And.intro ⟨rfl, by (exact .bool _)⟩ ?_))) ?_; (repeat (first | refine Then.r ?_ | refine InBlk.r ?_)))
    exact ⟨_, rfl, by simp [jobsB]; omega, rfl⟩
  · (repeat (first | (with_reducible refine AWo.cons ?_) | ((with_reducible refine Step.id ?_); first | ((with_reducible apply Step.move); exact rfl; exact rfl) | ((with_reducible apply Step.assign); exact rfl; exact rfl) | ((with_reducible apply Step.gtr); exact rfl; exact rfl; exact rfl) | ((with_reducible apply Step.len); exact rfl; (focus (assumption)); (focus (decide +kernel)); exact rfl)) | (with_reducible refine AWo.nil ?_) | ((with_reducible apply AW.seq)) | ((with_reducible apply Then.n)) | ((with_reducible apply AW.regL)) | ((with_reducible apply AW.block)) | ((with_reducible apply AW.skip)) | ((with_reducible apply AW.condF); exact rfl; (focus ((simp only [decide_eq_true_eq, decide_eq_false_iff_not, Bool.not_eq_true', Bool.not_eq_false', Bool.not_true, Bool.not_false]; first | assumption | omega))))))
    refine AW.loopT (fun n t L => ∃ k : Nat, n = j.length - k ∧ k ≤ j.length ∧ (j.take k).all (jobB j.length) = true ∧ L = [] ∧
      t = [(0, v), (10, v), (11, .int .i64 (j.length : Nat)), (12, .int .i64 (k : Nat))]) ⟨_, _, _, (Or.inl ⟨rfl, (by repeat (first | exact trivial | (refine And.intro rfl ?_)))⟩), 0, rfl, Nat.zero_le _, by simp, rfl, rfl⟩ ?_
    rintro n t L ⟨k, rfl, hk, hall, rfl, rfl⟩
    rcases Nat.lt_or_ge k j.length with hlt | hge
    · have ts := take_snoc j k default hlt
      have bad := jobsB_not (j := j) (k := k) hlt
      obtain ⟨w, hr, hw⟩ := h3 k hlt
      have hal := hafter k hlt
      obtain ⟨wa, wo, w1, w2, w3⟩ := hw
      have hone := w1.one
      have good : jobB j.length (j.getD k default) = true → (j.take (k + 1)).all (jobB j.length) = true := fun e => by rw [ts, List.all_append, hall]; simp only [List.all_cons, List.all_nil, e]; rfl
      generalize j.getD k default = x at *
      obtain ⟨x1, x2, x3, l⟩ := x
      have hw1 := job_one (x := x1) (y := x2) (z := x3) hone
      simp only [Job.cells] at *
      cases hx : numsB ⟨x1, x2, x3, l⟩ with
      | false =>
        rw [bad (by simp [jobB, hx])]
        simp only [numsB, decide_eq_false_iff_not] at hx
        by_cases c1 : x1 < 1
        · (repeat (first | (with_reducible refine AWo.cons ?_) | ((with_reducible refine Step.id ?_); first | ((with_reducible apply Step.gdF); exact rfl; exact rfl; (focus (first | rfl | (simp only [decide_eq_true_eq, decide_eq_false_iff_not, Bool.not_eq_true', Bool.not_eq_false', Bool.not_true, Bool.not_false]; first | assumption | omega)))) | ((with_reducible apply Step.move); exact rfl; exact rfl) | ((with_reducible apply Step.assign); exact rfl; exact rfl) | ((with_reducible apply Step.load); exact rfl; (focus (decide +kernel)); exact rfl; (focus (exact Rd.new rfl rfl))) | ((with_reducible apply Step.loadL (n := 4)); exact rfl; (focus (decide +kernel)); (focus (decide +kernel)); exact rfl; (focus (exact RdL.old _ (by assumption))); exact rfl; exact rfl) | ((with_reducible apply Step.ix (s := 4)); exact rfl; (focus (assumption)); exact rfl; (focus (decide +kernel)); exact rfl; (focus (omega))) | ((with_reducible apply Step.field0); exact rfl; (focus (decide +kernel)); exact rfl) | ((with_reducible apply Step.lss); exact rfl; exact rfl; exact rfl) | ((with_reducible apply Step.pickT); exact rfl; exact rfl; exact rfl; exact rfl; (focus (first | rfl | (simp only [decide_eq_true_eq, decide_eq_false_iff_not, Bool.not_eq_true', Bool.not_eq_false', Bool.not_true, Bool.not_false]; first | assumption | omega)))) | ((with_reducible apply Step.alloc 0); exact rfl; exact ze60; exact rfl; (focus (first | (simp only [List.nil_append, List.cons_append, List.set_cons_zero, List.set_cons_succ, iv_set, bv_set, iv_rep, bv_rep]; done) | (simp only [List.nil_append, List.cons_append, List.set_cons_zero, List.set_cons_succ, iv_set, bv_set, iv_rep, bv_rep]; rfl) | rfl))) | ((with_reducible apply Step.storeA (k := 0) (n := 4)); exact rfl; exact rfl; exact rfl; exact rfl; (focus (decide +kernel)); exact rfl; (focus (first | assumption | exact hw1)); exact rfl; (focus (first | (simp only [List.nil_append, List.cons_append, List.set_cons_zero, List.set_cons_succ, iv_set, bv_set, iv_rep, bv_rep]; done) | (simp only [List.nil_append, List.cons_append, List.set_cons_zero, List.set_cons_succ, iv_set, bv_set, iv_rep, bv_rep]; rfl) | rfl)))) | (with_reducible refine AWo.nil ?_) | ((with_reducible apply AW.seq)) | ((with_reducible apply Then.n)) | ((with_reducible apply AW.regL)) | ((with_reducible apply AW.block)) | ((with_reducible apply AW.skip)) | ((with_reducible apply AW.condT); exact rfl; (focus (first | rfl | (simp only [decide_eq_true_eq, decide_eq_false_iff_not, Bool.not_eq_true', Bool.not_eq_false', Bool.not_true, Bool.not_false]; first | assumption | omega))))))
          (refine AW.retD (l := [(2, _)]) (by repeat (first | exact trivial | (refine And.intro ⟨rfl, by (exact .bool _)⟩ ?_))) ?_; (repeat (first | refine Then.r ?_ | refine InBlk.r ?_)))
          exact ⟨_, rfl, rfl, rfl⟩
        · by_cases c2 : 10000 < x1
          · (repeat (first | (with_reducible refine AWo.cons ?_) | ((with_reducible refine Step.id ?_); first | ((with_reducible apply Step.gdT); exact rfl; exact rfl; (focus ((simp only [decide_eq_true_eq, decide_eq_false_iff_not, Bool.not_eq_true', Bool.not_eq_false', Bool.not_true, Bool.not_false]; first | assumption | omega)))) | ((with_reducible apply Step.gdF); exact rfl; exact rfl; (focus (first | rfl | (simp only [decide_eq_true_eq, decide_eq_false_iff_not, Bool.not_eq_true', Bool.not_eq_false', Bool.not_true, Bool.not_false]; first | assumption | omega)))) | ((with_reducible apply Step.move); exact rfl; exact rfl) | ((with_reducible apply Step.assign); exact rfl; exact rfl) | ((with_reducible apply Step.load); exact rfl; (focus (decide +kernel)); exact rfl; (focus (exact Rd.new rfl rfl))) | ((with_reducible apply Step.loadL (n := 4)); exact rfl; (focus (decide +kernel)); (focus (decide +kernel)); exact rfl; (focus (exact RdL.old _ (by assumption))); exact rfl; exact rfl) | ((with_reducible apply Step.ix (s := 4)); exact rfl; (focus (assumption)); exact rfl; (focus (decide +kernel)); exact rfl; (focus (omega))) | ((with_reducible apply Step.field0); exact rfl; (focus (decide +kernel)); exact rfl) | ((with_reducible apply Step.lss); exact rfl; exact rfl; exact rfl) | ((with_reducible apply Step.gtr); exact rfl; exact rfl; exact rfl) | ((with_reducible apply Step.pickT); exact rfl; exact rfl; exact rfl; exact rfl; (focus (first | rfl | (simp only [decide_eq_true_eq, decide_eq_false_iff_not, Bool.not_eq_true', Bool.not_eq_false', Bool.not_true, Bool.not_false]; first | assumption | omega)))) | ((with_reducible apply Step.pickF); exact rfl; exact rfl; exact rfl; exact rfl; (focus ((simp only [decide_eq_true_eq, decide_eq_false_iff_not, Bool.not_eq_true', Bool.not_eq_false', Bool.not_true, Bool.not_false]; first | assumption | omega)))) | ((with_reducible apply Step.alloc 0); exact rfl; exact ze60; exact rfl; (focus (first | (simp only [List.nil_append, List.cons_append, List.set_cons_zero, List.set_cons_succ, iv_set, bv_set, iv_rep, bv_rep]; done) | (simp only [List.nil_append, List.cons_append, List.set_cons_zero, List.set_cons_succ, iv_set, bv_set, iv_rep, bv_rep]; rfl) | rfl))) | ((with_reducible apply Step.storeA (k := 0) (n := 4)); exact rfl; exact rfl; exact rfl; exact rfl; (focus (decide +kernel)); exact rfl; (focus (first | assumption | exact hw1)); exact rfl; (focus (first | (simp only [List.nil_append, List.cons_append, List.set_cons_zero, List.set_cons_succ, iv_set, bv_set, iv_rep, bv_rep]; done) | (simp only [List.nil_append, List.cons_append, List.set_cons_zero, List.set_cons_succ, iv_set, bv_set, iv_rep, bv_rep]; rfl) | rfl)))) | (with_reducible refine AWo.nil ?_) | ((with_reducible apply AW.seq)) | ((with_reducible apply Then.n)) | ((with_reducible apply AW.regL)) | ((with_reducible apply AW.block)) | ((with_reducible apply AW.skip)) | ((with_reducible apply AW.condT); exact rfl; (focus (first | rfl | (simp only [decide_eq_true_eq, decide_eq_false_iff_not, Bool.not_eq_true', Bool.not_eq_false', Bool.not_true, Bool.not_false]; first | assumption | omega))))))
            (refine AW.retD (l := [(2, _)]) (by repeat (first | exact trivial | (refine And.intro ⟨rfl, by (exact .bool _)⟩ ?_))) ?_; (repeat (first | refine Then.r ?_ | refine InBlk.r ?_)))
            exact ⟨_, rfl, rfl, rfl⟩
          · by_cases c3 : x2 < 0
            · (repeat (first | (with_reducible refine AWo.cons ?_) | ((with_reducible refine Step.id ?_); first | ((with_reducible apply Step.gdT); exact rfl; exact rfl; (focus ((simp only [decide_eq_true_eq, decide_eq_false_iff_not, Bool.not_eq_true', Bool.not_eq_false', Bool.not_true, Bool.not_false]; first | assumption | omega)))) | ((with_reducible apply Step.gdF); exact rfl; exact rfl; (focus (first | rfl | (simp only [decide_eq_true_eq, decide_eq_false_iff_not, Bool.not_eq_true', Bool.not_eq_false', Bool.not_true, Bool.not_false]; first | assumption | omega)))) | ((with_reducible apply Step.move); exact rfl; exact rfl) | ((with_reducible apply Step.assign); exact rfl; exact rfl) | ((with_reducible apply Step.load); exact rfl; (focus (decide +kernel)); exact rfl; (focus (exact Rd.new rfl rfl))) | ((with_reducible apply Step.loadL (n := 4)); exact rfl; (focus (decide +kernel)); (focus (decide +kernel)); exact rfl; (focus (exact RdL.old _ (by assumption))); exact rfl; exact rfl) | ((with_reducible apply Step.ix (s := 4)); exact rfl; (focus (assumption)); exact rfl; (focus (decide +kernel)); exact rfl; (focus (omega))) | ((with_reducible apply Step.field0); exact rfl; (focus (decide +kernel)); exact rfl) | ((with_reducible apply Step.field (k := 1)); exact rfl; (focus (decide +kernel)); exact rfl) | ((with_reducible apply Step.lss); exact rfl; exact rfl; exact rfl) | ((with_reducible apply Step.gtr); exact rfl; exact rfl; exact rfl) | ((with_reducible apply Step.pickT); exact rfl; exact rfl; exact rfl; exact rfl; (focus (first | rfl | (simp only [decide_eq_true_eq, decide_eq_false_iff_not, Bool.not_eq_true', Bool.not_eq_false', Bool.not_true, Bool.not_false]; first | assumption | omega)))) | ((with_reducible apply Step.pickF); exact rfl; exact rfl; exact rfl; exact rfl; (focus ((simp only [decide_eq_true_eq, decide_eq_false_iff_not, Bool.not_eq_true', Bool.not_eq_false', Bool.not_true, Bool.not_false]; first | assumption | omega)))) | ((with_reducible apply Step.alloc 0); exact rfl; exact ze60; exact rfl; (focus (first | (simp only [List.nil_append, List.cons_append, List.set_cons_zero, List.set_cons_succ, iv_set, bv_set, iv_rep, bv_rep]; done) | (simp only [List.nil_append, List.cons_append, List.set_cons_zero, List.set_cons_succ, iv_set, bv_set, iv_rep, bv_rep]; rfl) | rfl))) | ((with_reducible apply Step.storeA (k := 0) (n := 4)); exact rfl; exact rfl; exact rfl; exact rfl; (focus (decide +kernel)); exact rfl; (focus (first | assumption | exact hw1)); exact rfl; (focus (first | (simp only [List.nil_append, List.cons_append, List.set_cons_zero, List.set_cons_succ, iv_set, bv_set, iv_rep, bv_rep]; done) | (simp only [List.nil_append, List.cons_append, List.set_cons_zero, List.set_cons_succ, iv_set, bv_set, iv_rep, bv_rep]; rfl) | rfl)))) | (with_reducible refine AWo.nil ?_) | ((with_reducible apply AW.seq)) | ((with_reducible apply Then.n)) | ((with_reducible apply AW.regL)) | ((with_reducible apply AW.block)) | ((with_reducible apply AW.skip)) | ((with_reducible apply AW.condT); exact rfl; (focus (first | rfl | (simp only [decide_eq_true_eq, decide_eq_false_iff_not, Bool.not_eq_true', Bool.not_eq_false', Bool.not_true, Bool.not_false]; first | assumption | omega))))))
              (refine AW.retD (l := [(2, _)]) (by repeat (first | exact trivial | (refine And.intro ⟨rfl, by (exact .bool _)⟩ ?_))) ?_; (repeat (first | refine Then.r ?_ | refine InBlk.r ?_)))
              exact ⟨_, rfl, rfl, rfl⟩
            · by_cases c4 : 1000000 < x2
              · (repeat (first | (with_reducible refine AWo.cons ?_) | ((with_reducible refine Step.id ?_); first | ((with_reducible apply Step.gdT); exact rfl; exact rfl; (focus ((simp only [decide_eq_true_eq, decide_eq_false_iff_not, Bool.not_eq_true', Bool.not_eq_false', Bool.not_true, Bool.not_false]; first | assumption | omega)))) | ((with_reducible apply Step.gdF); exact rfl; exact rfl; (focus (first | rfl | (simp only [decide_eq_true_eq, decide_eq_false_iff_not, Bool.not_eq_true', Bool.not_eq_false', Bool.not_true, Bool.not_false]; first | assumption | omega)))) | ((with_reducible apply Step.move); exact rfl; exact rfl) | ((with_reducible apply Step.assign); exact rfl; exact rfl) | ((with_reducible apply Step.load); exact rfl; (focus (decide +kernel)); exact rfl; (focus (exact Rd.new rfl rfl))) | ((with_reducible apply Step.loadL (n := 4)); exact rfl; (focus (decide +kernel)); (focus (decide +kernel)); exact rfl; (focus (exact RdL.old _ (by assumption))); exact rfl; exact rfl) | ((with_reducible apply Step.ix (s := 4)); exact rfl; (focus (assumption)); exact rfl; (focus (decide +kernel)); exact rfl; (focus (omega))) | ((with_reducible apply Step.field0); exact rfl; (focus (decide +kernel)); exact rfl) | ((with_reducible apply Step.field (k := 1)); exact rfl; (focus (decide +kernel)); exact rfl) | ((with_reducible apply Step.lss); exact rfl; exact rfl; exact rfl) | ((with_reducible apply Step.gtr); exact rfl; exact rfl; exact rfl) | ((with_reducible apply Step.pickT); exact rfl; exact rfl; exact rfl; exact rfl; (focus (first | rfl | (simp only [decide_eq_true_eq, decide_eq_false_iff_not, Bool.not_eq_true', Bool.not_eq_false', Bool.not_true, Bool.not_false]; first | assumption | omega)))) | ((with_reducible apply Step.pickF); exact rfl; exact rfl; exact rfl; exact rfl; (focus ((simp only [decide_eq_true_eq, decide_eq_false_iff_not, Bool.not_eq_true', Bool.not_eq_false', Bool.not_true, Bool.not_false]; first | assumption | omega)))) | ((with_reducible apply Step.alloc 0); exact rfl; exact ze60; exact rfl; (focus (first | (simp only [List.nil_append, List.cons_append, List.set_cons_zero, List.set_cons_succ, iv_set, bv_set, iv_rep, bv_rep]; done) | (simp only [List.nil_append, List.cons_append, List.set_cons_zero, List.set_cons_succ, iv_set, bv_set, iv_rep, bv_rep]; rfl) | rfl))) | ((with_reducible apply Step.storeA (k := 0) (n := 4)); exact rfl; exact rfl; exact rfl; exact rfl; (focus (decide +kernel)); exact rfl; (focus (first | assumption | exact hw1)); exact rfl; (focus (first | (simp only [List.nil_append, List.cons_append, List.set_cons_zero, List.set_cons_succ, iv_set, bv_set, iv_rep, bv_rep]; done) | (simp only [List.nil_append, List.cons_append, List.set_cons_zero, List.set_cons_succ, iv_set, bv_set, iv_rep, bv_rep]; rfl) | rfl)))) | (with_reducible refine AWo.nil ?_) | ((with_reducible apply AW.seq)) | ((with_reducible apply Then.n)) | ((with_reducible apply AW.regL)) | ((with_reducible apply AW.block)) | ((with_reducible apply AW.skip)) | ((with_reducible apply AW.condT); exact rfl; (focus (first | rfl | (simp only [decide_eq_true_eq, decide_eq_false_iff_not, Bool.not_eq_true', Bool.not_eq_false', Bool.not_true, Bool.not_false]; first | assumption | omega))))))
                (refine AW.retD (l := [(2, _)]) (by repeat (first | exact trivial | (refine And.intro ⟨rfl, by (exact .bool _)⟩ ?_))) ?_; (repeat (first | refine Then.r ?_ | refine InBlk.r ?_)))
                exact ⟨_, rfl, rfl, rfl⟩
              · by_cases c5 : x3 < 0
                · (repeat (first | (with_reducible refine AWo.cons ?_) | ((with_reducible refine Step.id ?_); first | ((with_reducible apply Step.gdT); exact rfl; exact rfl; (focus ((simp only [decide_eq_true_eq, decide_eq_false_iff_not, Bool.not_eq_true', Bool.not_eq_false', Bool.not_true, Bool.not_false]; first | assumption | omega)))) | ((with_reducible apply Step.gdF); exact rfl; exact rfl; (focus ((simp only [decide_eq_true_eq, decide_eq_false_iff_not, Bool.not_eq_true', Bool.not_eq_false', Bool.not_true, Bool.not_false]; first | assumption | omega)))) | ((with_reducible apply Step.move); exact rfl; exact rfl) | ((with_reducible apply Step.assign); exact rfl; exact rfl) | ((with_reducible apply Step.load); exact rfl; (focus (decide +kernel)); exact rfl; (focus (exact Rd.new rfl rfl))) | ((with_reducible apply Step.loadL (n := 4)); exact rfl; (focus (decide +kernel)); (focus (decide +kernel)); exact rfl; (focus (exact RdL.old _ (by assumption))); exact rfl; exact rfl) | ((with_reducible apply Step.ix (s := 4)); exact rfl; (focus (assumption)); exact rfl; (focus (decide +kernel)); exact rfl; (focus (omega))) | ((with_reducible apply Step.field0); exact rfl; (focus (decide +kernel)); exact rfl) | ((with_reducible apply Step.field (k := 1)); exact rfl; (focus (decide +kernel)); exact rfl) | ((with_reducible apply Step.field (k := 2)); exact rfl; (focus (decide +kernel)); exact rfl) | ((with_reducible apply Step.lss); exact rfl; exact rfl; exact rfl) | ((with_reducible apply Step.gtr); exact rfl; exact rfl; exact rfl) | ((with_reducible apply Step.pickT); exact rfl; exact rfl; exact rfl; exact rfl; (focus ((simp only [decide_eq_true_eq, decide_eq_false_iff_not, Bool.not_eq_true', Bool.not_eq_false', Bool.not_true, Bool.not_false]; first | assumption | omega)))) | ((with_reducible apply Step.pickF); exact rfl; exact rfl; exact rfl; exact rfl; (focus ((simp only [decide_eq_true_eq, decide_eq_false_iff_not, Bool.not_eq_true', Bool.not_eq_false', Bool.not_true, Bool.not_false]; first | assumption | omega)))) | ((with_reducible apply Step.alloc 0); exact rfl; exact ze60; exact rfl; (focus (first | (simp only [List.nil_append, List.cons_append, List.set_cons_zero, List.set_cons_succ, iv_set, bv_set, iv_rep, bv_rep]; done) | (simp only [List.nil_append, List.cons_append, List.set_cons_zero, List.set_cons_succ, iv_set, bv_set, iv_rep, bv_rep]; rfl) | rfl))) | ((with_reducible apply Step.storeA (k := 0) (n := 4)); exact rfl; exact rfl; exact rfl; exact rfl; (focus (decide +kernel)); exact rfl; (focus (first | assumption | exact hw1)); exact rfl; (focus (first | (simp only [List.nil_append, List.cons_append, List.set_cons_zero, List.set_cons_succ, iv_set, bv_set, iv_rep, bv_rep]; done) | (simp only [List.nil_append, List.cons_append, List.set_cons_zero, List.set_cons_succ, iv_set, bv_set, iv_rep, bv_rep]; rfl) | rfl)))) | (with_reducible refine AWo.nil ?_) | ((with_reducible apply AW.seq)) | ((with_reducible apply Then.n)) | ((with_reducible apply AW.regL)) | ((with_reducible apply AW.block)) | ((with_reducible apply AW.skip)) | ((with_reducible apply AW.condT); exact rfl; (focus (first | rfl | (simp only [decide_eq_true_eq, decide_eq_false_iff_not, Bool.not_eq_true', Bool.not_eq_false', Bool.not_true, Bool.not_false]; first | assumption | omega))))))
                  (refine AW.retD (l := [(2, _)]) (by repeat (first | exact trivial | (refine And.intro ⟨rfl, by (exact .bool _)⟩ ?_))) ?_; (repeat (first | refine Then.r ?_ | refine InBlk.r ?_)))
                  exact ⟨_, rfl, rfl, rfl⟩
                · have c6 : 1000 < x3 := by omega
                  (repeat (first | (with_reducible refine AWo.cons ?_) | ((with_reducible refine Step.id ?_); first | ((with_reducible apply Step.gdT); exact rfl; exact rfl; (focus ((simp only [decide_eq_true_eq, decide_eq_false_iff_not, Bool.not_eq_true', Bool.not_eq_false', Bool.not_true, Bool.not_false]; first | assumption | omega)))) | ((with_reducible apply Step.move); exact rfl; exact rfl) | ((with_reducible apply Step.assign); exact rfl; exact rfl) | ((with_reducible apply Step.load); exact rfl; (focus (decide +kernel)); exact rfl; (focus (exact Rd.new rfl rfl))) | ((with_reducible apply Step.loadL (n := 4)); exact rfl; (focus (decide +kernel)); (focus (decide +kernel)); exact rfl; (focus (exact RdL.old _ (by assumption))); exact rfl; exact rfl) | ((with_reducible apply Step.ix (s := 4)); exact rfl; (focus (assumption)); exact rfl; (focus (decide +kernel)); exact rfl; (focus (omega))) | ((with_reducible apply Step.field0); exact rfl; (focus (decide +kernel)); exact rfl) | ((with_reducible apply Step.field (k := 1)); exact rfl; (focus (decide +kernel)); exact rfl) | ((with_reducible apply Step.field (k := 2)); exact rfl; (focus (decide +kernel)); exact rfl) | ((with_reducible apply Step.lss); exact rfl; exact rfl; exact rfl) | ((with_reducible apply Step.gtr); exact rfl; exact rfl; exact rfl) | ((with_reducible apply Step.pickF); exact rfl; exact rfl; exact rfl; exact rfl; (focus ((simp only [decide_eq_true_eq, decide_eq_false_iff_not, Bool.not_eq_true', Bool.not_eq_false', Bool.not_true, Bool.not_false]; first | assumption | omega)))) | ((with_reducible apply Step.alloc 0); exact rfl; exact ze60; exact rfl; (focus (first | (simp only [List.nil_append, List.cons_append, List.set_cons_zero, List.set_cons_succ, iv_set, bv_set, iv_rep, bv_rep]; done) | (simp only [List.nil_append, List.cons_append, List.set_cons_zero, List.set_cons_succ, iv_set, bv_set, iv_rep, bv_rep]; rfl) | rfl))) | ((with_reducible apply Step.storeA (k := 0) (n := 4)); exact rfl; exact rfl; exact rfl; exact rfl; (focus (decide +kernel)); exact rfl; (focus (first | assumption | exact hw1)); exact rfl; (focus (first | (simp only [List.nil_append, List.cons_append, List.set_cons_zero, List.set_cons_succ, iv_set, bv_set, iv_rep, bv_rep]; done) | (simp only [List.nil_append, List.cons_append, List.set_cons_zero, List.set_cons_succ, iv_set, bv_set, iv_rep, bv_rep]; rfl) | rfl)))) | (with_reducible refine AWo.nil ?_) | ((with_reducible apply AW.seq)) | ((with_reducible apply Then.n)) | ((with_reducible apply AW.regL)) | ((with_reducible apply AW.block)) | ((with_reducible apply AW.skip)) | ((with_reducible apply AW.condT); exact rfl; (focus ((simp only [decide_eq_true_eq, decide_eq_false_iff_not, Bool.not_eq_true', Bool.not_eq_false', Bool.not_true, Bool.not_false]; first | assumption | omega))))))
                  (refine AW.retD (l := [(2, _)]) (by repeat (first | exact trivial | (refine And.intro ⟨rfl, by (exact .bool _)⟩ ?_))) ?_; (repeat (first | refine Then.r ?_ | refine InBlk.r ?_)))
                  exact ⟨_, rfl, rfl, rfl⟩
      | true =>
        have hx' := hx
        simp only [numsB, decide_eq_true_eq] at hx'
        obtain ⟨c1, c2, c3, c4, c5, c6⟩ := hx'
        (repeat (first | (with_reducible refine AWo.cons ?_) | ((with_reducible refine Step.id ?_); first | ((with_reducible apply Step.gdT); exact rfl; exact rfl; (focus ((simp only [decide_eq_true_eq, decide_eq_false_iff_not, Bool.not_eq_true', Bool.not_eq_false', Bool.not_true, Bool.not_false]; first | assumption | omega)))) | ((with_reducible apply Step.move); exact rfl; exact rfl) | ((with_reducible apply Step.load); exact rfl; (focus (decide +kernel)); exact rfl; (focus (exact Rd.new rfl rfl))) | ((with_reducible apply Step.loadL (n := 4)); exact rfl; (focus (decide +kernel)); (focus (decide +kernel)); exact rfl; (focus (exact RdL.old _ (by assumption))); exact rfl; exact rfl) | ((with_reducible apply Step.ix (s := 4)); exact rfl; (focus (assumption)); exact rfl; (focus (decide +kernel)); exact rfl; (focus (omega))) | ((with_reducible apply Step.field0); exact rfl; (focus (decide +kernel)); exact rfl) | ((with_reducible apply Step.field (k := 1)); exact rfl; (focus (decide +kernel)); exact rfl) | ((with_reducible apply Step.field (k := 2)); exact rfl; (focus (decide +kernel)); exact rfl) | ((with_reducible apply Step.field (k := 3)); exact rfl; (focus (decide +kernel)); exact rfl) | ((with_reducible apply Step.lss); exact rfl; exact rfl; exact rfl) | ((with_reducible apply Step.gtr); exact rfl; exact rfl; exact rfl) | ((with_reducible apply Step.len); exact rfl; (focus (assumption)); (focus (decide +kernel)); exact rfl) | ((with_reducible apply Step.pickF); exact rfl; exact rfl; exact rfl; exact rfl; (focus ((simp only [decide_eq_true_eq, decide_eq_false_iff_not, Bool.not_eq_true', Bool.not_eq_false', Bool.not_true, Bool.not_false]; first | assumption | omega)))) | ((with_reducible apply Step.alloc 0); exact rfl; exact ze60; exact rfl; (focus (first | (simp only [List.nil_append, List.cons_append, List.set_cons_zero, List.set_cons_succ, iv_set, bv_set, iv_rep, bv_rep]; done) | (simp only [List.nil_append, List.cons_append, List.set_cons_zero, List.set_cons_succ, iv_set, bv_set, iv_rep, bv_rep]; rfl) | rfl))) | ((with_reducible apply Step.storeA (k := 0) (n := 4)); exact rfl; exact rfl; exact rfl; exact rfl; (focus (decide +kernel)); exact rfl; (focus (first | assumption | exact hw1)); exact rfl; (focus (first | (simp only [List.nil_append, List.cons_append, List.set_cons_zero, List.set_cons_succ, iv_set, bv_set, iv_rep, bv_rep]; done) | (simp only [List.nil_append, List.cons_append, List.set_cons_zero, List.set_cons_succ, iv_set, bv_set, iv_rep, bv_rep]; rfl) | rfl)))) | (with_reducible refine AWo.nil ?_) | ((with_reducible apply AW.seq)) | ((with_reducible apply Then.n)) | ((with_reducible apply AW.regL)) | ((with_reducible apply AW.block)) | ((with_reducible apply AW.skip)) | ((with_reducible apply AW.condT); exact rfl; (focus ((simp only [decide_eq_true_eq, decide_eq_false_iff_not, Bool.not_eq_true', Bool.not_eq_false', Bool.not_true, Bool.not_false]; first | assumption | omega)))) | ((with_reducible apply AW.condF); exact rfl; (focus ((simp only [decide_eq_true_eq, decide_eq_false_iff_not, Bool.not_eq_true', Bool.not_eq_false', Bool.not_true, Bool.not_false]; first | assumption | omega))))))
        refine AW.loopT (fun n t L => ∃ i : Nat, n = l.length - i ∧ i ≤ l.length ∧ (∀ q, q < i → risOk j.length l q = true) ∧ L = [some { cells := [.int .i64 x1, .int .i64 x2, .int .i64 x3, w] }] ∧
          t = [(0, v), (10, v), (11, .int .i64 (j.length : Nat)), (12, .int .i64 (k : Nat)), (4, .pointer (some ⟨m.length + 0, 0, none⟩)), (45, w), (46, .int .i64 (l.length : Nat)), (47, .int .i64 (i : Nat))]) ⟨_, _, _, (Or.inl ⟨rfl, (by repeat (first | exact trivial | (refine And.intro rfl ?_)))⟩), 0, rfl, Nat.zero_le _, by omega, rfl, rfl⟩ ?_
        rintro n t L ⟨i, rfl, hi, hris, rfl, rfl⟩
        rcases Nat.lt_or_ge i l.length with hlt2 | hge2
        · have hri := w3 i hlt2
          have badi : risOk j.length l i = false → jobsB j = false := fun e => bad (by simp [jobB, risB_not hlt2 e])
          have next : risOk j.length l i = true → ∀ q, q < i + 1 → risOk j.length l q = true := fun e q hq => by
            rcases Nat.lt_succ_iff_lt_or_eq.1 hq with h | h
            · exact hris q h
            · rw [h]; exact e
          by_cases d1 : l.getD i 0 < 0
          · rw [badi (by simp only [risOk, decide_eq_false_iff_not]; omega)]
            (repeat (first | (with_reducible refine AWo.cons ?_) | ((with_reducible refine Step.id ?_); first | ((with_reducible apply Step.gdU); exact rfl; exact rfl) | ((with_reducible apply Step.gdF); exact rfl; exact rfl; (focus (first | rfl | (simp only [decide_eq_true_eq, decide_eq_false_iff_not, Bool.not_eq_true', Bool.not_eq_false', Bool.not_true, Bool.not_false]; first | assumption | omega)))) | ((with_reducible apply Step.move); exact rfl; exact rfl) | ((with_reducible apply Step.assign); exact rfl; exact rfl) | ((with_reducible apply Step.load); exact rfl; (focus (decide +kernel)); exact rfl; (focus (exact Rd.old _ (by assumption)))) | ((with_reducible apply Step.ix1); exact rfl; (focus (assumption)); exact rfl; (focus (decide +kernel)); exact rfl; (focus (omega))) | ((with_reducible apply Step.lss); exact rfl; exact rfl; exact rfl) | ((with_reducible apply Step.pickT); exact rfl; exact rfl; exact rfl; exact rfl; (focus (first | rfl | (simp only [decide_eq_true_eq, decide_eq_false_iff_not, Bool.not_eq_true', Bool.not_eq_false', Bool.not_true, Bool.not_false]; first | assumption | omega))))) | (with_reducible refine AWo.nil ?_) | ((with_reducible apply AW.seq)) | ((with_reducible apply Then.n)) | ((with_reducible apply AW.regL)) | ((with_reducible apply AW.block)) | ((with_reducible apply AW.skip)) | ((with_reducible apply AW.condT); exact rfl; (focus (first | rfl | (simp only [decide_eq_true_eq, decide_eq_false_iff_not, Bool.not_eq_true', Bool.not_eq_false', Bool.not_true, Bool.not_false]; first | assumption | omega))))))
            (refine AW.retD (l := [(2, _)]) (by repeat (first | exact trivial | (refine And.intro ⟨rfl, by (exact .bool _)⟩ ?_))) ?_; (repeat (first | refine Then.r ?_ | refine InBlk.r ?_)))
            exact ⟨_, rfl, rfl, rfl⟩
          · by_cases d2 : (j.length : Int) ≤ l.getD i 0
            · rw [badi (by simp only [risOk, decide_eq_false_iff_not]; omega)]
              (repeat (first | (with_reducible refine AWo.cons ?_) | ((with_reducible refine Step.id ?_); first | ((with_reducible apply Step.gdU); exact rfl; exact rfl) | ((with_reducible apply Step.gdT); exact rfl; exact rfl; (focus ((simp only [decide_eq_true_eq, decide_eq_false_iff_not, Bool.not_eq_true', Bool.not_eq_false', Bool.not_true, Bool.not_false]; first | assumption | omega)))) | ((with_reducible apply Step.gdF); exact rfl; exact rfl; (focus ((simp only [decide_eq_true_eq, decide_eq_false_iff_not, Bool.not_eq_true', Bool.not_eq_false', Bool.not_true, Bool.not_false]; first | assumption | omega)))) | ((with_reducible apply Step.move); exact rfl; exact rfl) | ((with_reducible apply Step.assign); exact rfl; exact rfl) | ((with_reducible apply Step.load); exact rfl; (focus (decide +kernel)); exact rfl; (focus (exact Rd.old _ (by assumption)))) | ((with_reducible apply Step.ix1); exact rfl; (focus (assumption)); exact rfl; (focus (decide +kernel)); exact rfl; (focus (omega))) | ((with_reducible apply Step.lss); exact rfl; exact rfl; exact rfl) | ((with_reducible apply Step.geq); exact rfl; exact rfl; exact rfl) | ((with_reducible apply Step.len); exact rfl; (focus (assumption)); (focus (decide +kernel)); exact rfl) | ((with_reducible apply Step.pickT); exact rfl; exact rfl; exact rfl; exact rfl; (focus ((simp only [decide_eq_true_eq, decide_eq_false_iff_not, Bool.not_eq_true', Bool.not_eq_false', Bool.not_true, Bool.not_false]; first | assumption | omega)))) | ((with_reducible apply Step.pickF); exact rfl; exact rfl; exact rfl; exact rfl; (focus ((simp only [decide_eq_true_eq, decide_eq_false_iff_not, Bool.not_eq_true', Bool.not_eq_false', Bool.not_true, Bool.not_false]; first | assumption | omega))))) | (with_reducible refine AWo.nil ?_) | ((with_reducible apply AW.seq)) | ((with_reducible apply Then.n)) | ((with_reducible apply AW.regL)) | ((with_reducible apply AW.block)) | ((with_reducible apply AW.skip)) | ((with_reducible apply AW.condT); exact rfl; (focus (first | rfl | (simp only [decide_eq_true_eq, decide_eq_false_iff_not, Bool.not_eq_true', Bool.not_eq_false', Bool.not_true, Bool.not_false]; first | assumption | omega))))))
              (refine AW.retD (l := [(2, _)]) (by repeat (first | exact trivial | (refine And.intro ⟨rfl, by (exact .bool _)⟩ ?_))) ?_; (repeat (first | refine Then.r ?_ | refine InBlk.r ?_)))
              exact ⟨_, rfl, rfl, rfl⟩
            · by_cases d3 : (i : Int) > 0
              · have hrp := w3 (i - 1) (by omega)
                have ep : ((i : Nat) : Int) - 1 = ((i - 1 : Nat) : Int) := by omega
                by_cases d4 : l.getD i 0 ≤ l.getD (i - 1) 0
                · rw [badi (by simp only [risOk, decide_eq_false_iff_not]; omega)]
                  (repeat (first | (with_reducible refine AWo.cons ?_) | ((with_reducible refine Step.id ?_); first | ((with_reducible apply Step.gdT); exact rfl; exact rfl; (focus ((simp only [decide_eq_true_eq, decide_eq_false_iff_not, Bool.not_eq_true', Bool.not_eq_false', Bool.not_true, Bool.not_false]; first | assumption | omega)))) | ((with_reducible apply Step.move); exact rfl; exact rfl) | ((with_reducible apply Step.assign); exact rfl; exact rfl) | ((with_reducible apply Step.load); exact rfl; (focus (decide +kernel)); exact rfl; (focus (first | exact Rd.new rfl rfl | exact Rd.old _ (by assumption)))) | ((with_reducible apply Step.ix1); exact rfl; (focus (assumption)); exact rfl; (focus (decide +kernel)); exact rfl; (focus (omega))) | ((with_reducible apply Step.field (k := 3)); exact rfl; (focus (decide +kernel)); exact rfl) | ((with_reducible apply Step.subE); exact rfl; exact rfl; (focus (assumption)); (focus (omega)); exact rfl) | ((with_reducible apply Step.lss); exact rfl; exact rfl; exact rfl) | ((with_reducible apply Step.gtr); exact rfl; exact rfl; exact rfl) | ((with_reducible apply Step.geq); exact rfl; exact rfl; exact rfl) | ((with_reducible apply Step.len); exact rfl; (focus (assumption)); (focus (decide +kernel)); exact rfl) | ((with_reducible apply Step.pickT); exact rfl; exact rfl; exact rfl; exact rfl; (focus ((simp only [decide_eq_true_eq, decide_eq_false_iff_not, Bool.not_eq_true', Bool.not_eq_false', Bool.not_true, Bool.not_false]; first | assumption | omega)))) | ((with_reducible apply Step.pickF); exact rfl; exact rfl; exact rfl; exact rfl; (focus ((simp only [decide_eq_true_eq, decide_eq_false_iff_not, Bool.not_eq_true', Bool.not_eq_false', Bool.not_true, Bool.not_false]; first | assumption | omega))))) | (with_reducible refine AWo.nil ?_) | ((with_reducible apply AW.seq)) | ((with_reducible apply Then.n)) | ((with_reducible apply AW.regL)) | ((with_reducible apply AW.block)) | ((with_reducible apply AW.skip)) | ((with_reducible apply AW.condT); exact rfl; (focus ((simp only [decide_eq_true_eq, decide_eq_false_iff_not, Bool.not_eq_true', Bool.not_eq_false', Bool.not_true, Bool.not_false]; first | assumption | omega))))))
                  (refine AW.retD (l := [(2, _)]) (by repeat (first | exact trivial | (refine And.intro ⟨rfl, by (exact .bool _)⟩ ?_))) ?_; (repeat (first | refine Then.r ?_ | refine InBlk.r ?_)))
                  exact ⟨_, rfl, rfl, rfl⟩
                · have e := next (by simp only [risOk, decide_eq_true_eq]; omega)
                  (repeat (first | (with_reducible refine AWo.cons ?_) | ((with_reducible refine Step.id ?_); first | ((with_reducible apply Step.gdT); exact rfl; exact rfl; (focus ((simp only [decide_eq_true_eq, decide_eq_false_iff_not, Bool.not_eq_true', Bool.not_eq_false', Bool.not_true, Bool.not_false]; first | assumption | omega)))) | ((with_reducible apply Step.move); exact rfl; exact rfl) | ((with_reducible apply Step.assign); exact rfl; exact rfl) | ((with_reducible apply Step.load); exact rfl; (focus (decide +kernel)); exact rfl; (focus (first | exact Rd.new rfl rfl | exact Rd.old _ (by assumption)))) | ((with_reducible apply Step.ix1); exact rfl; (focus (assumption)); exact rfl; (focus (decide +kernel)); exact rfl; (focus (omega))) | ((with_reducible apply Step.field (k := 3)); exact rfl; (focus (decide +kernel)); exact rfl) | ((with_reducible apply Step.subE); exact rfl; exact rfl; (focus (assumption)); (focus (omega)); exact rfl) | ((with_reducible apply Step.add); exact rfl; exact rfl; (focus (omega)); exact rfl) | ((with_reducible apply Step.lss); exact rfl; exact rfl; exact rfl) | ((with_reducible apply Step.gtr); exact rfl; exact rfl; exact rfl) | ((with_reducible apply Step.geq); exact rfl; exact rfl; exact rfl) | ((with_reducible apply Step.len); exact rfl; (focus (assumption)); (focus (decide +kernel)); exact rfl) | ((with_reducible apply Step.pickT); exact rfl; exact rfl; exact rfl; exact rfl; (focus ((simp only [decide_eq_true_eq, decide_eq_false_iff_not, Bool.not_eq_true', Bool.not_eq_false', Bool.not_true, Bool.not_false]; first | assumption | omega)))) | ((with_reducible apply Step.pickF); exact rfl; exact rfl; exact rfl; exact rfl; (focus ((simp only [decide_eq_true_eq, decide_eq_false_iff_not, Bool.not_eq_true', Bool.not_eq_false', Bool.not_true, Bool.not_false]; first | assumption | omega))))) | (with_reducible refine AWo.nil ?_) | ((with_reducible apply AW.seq)) | ((with_reducible apply Then.n)) | ((with_reducible apply AW.regL)) | ((with_reducible apply AW.block)) | ((with_reducible apply InBlk.n)) | ((with_reducible apply AW.skip)) | ((with_reducible apply AW.condT); exact rfl; (focus ((simp only [decide_eq_true_eq, decide_eq_false_iff_not, Bool.not_eq_true', Bool.not_eq_false', Bool.not_true, Bool.not_false]; first | assumption | omega)))) | ((with_reducible apply AW.condF); exact rfl; (focus ((simp only [decide_eq_true_eq, decide_eq_false_iff_not, Bool.not_eq_true', Bool.not_eq_false', Bool.not_true, Bool.not_false]; first | assumption | omega))))))
                  exact ⟨_, _, _, by omega, (Or.inl ⟨rfl, (by repeat (first | exact trivial | (refine And.intro rfl ?_)))⟩), i + 1, rfl, by omega, e, rfl, rfl⟩
              · have e := next (by simp only [risOk, decide_eq_true_eq]; omega)
                (repeat (first | (with_reducible refine AWo.cons ?_) | ((with_reducible refine Step.id ?_); first | ((with_reducible apply Step.gdT); exact rfl; exact rfl; (focus ((simp only [decide_eq_true_eq, decide_eq_false_iff_not, Bool.not_eq_true', Bool.not_eq_false', Bool.not_true, Bool.not_false]; first | assumption | omega)))) | ((with_reducible apply Step.gdF); exact rfl; exact rfl; (focus ((simp only [decide_eq_true_eq, decide_eq_false_iff_not, Bool.not_eq_true', Bool.not_eq_false', Bool.not_true, Bool.not_false]; first | assumption | omega)))) | ((with_reducible apply Step.move); exact rfl; exact rfl) | ((with_reducible apply Step.assign); exact rfl; exact rfl) | ((with_reducible apply Step.load); exact rfl; (focus (decide +kernel)); exact rfl; (focus (exact Rd.old _ (by assumption)))) | ((with_reducible apply Step.ix1); exact rfl; (focus (assumption)); exact rfl; (focus (decide +kernel)); exact rfl; (focus (omega))) | ((with_reducible apply Step.add); exact rfl; exact rfl; (focus (omega)); exact rfl) | ((with_reducible apply Step.lss); exact rfl; exact rfl; exact rfl) | ((with_reducible apply Step.gtr); exact rfl; exact rfl; exact rfl) | ((with_reducible apply Step.geq); exact rfl; exact rfl; exact rfl) | ((with_reducible apply Step.len); exact rfl; (focus (assumption)); (focus (decide +kernel)); exact rfl) | ((with_reducible apply Step.pickF); exact rfl; exact rfl; exact rfl; exact rfl; (focus ((simp only [decide_eq_true_eq, decide_eq_false_iff_not, Bool.not_eq_true', Bool.not_eq_false', Bool.not_true, Bool.not_false]; first | assumption | omega))))) | (with_reducible refine AWo.nil ?_) | ((with_reducible apply AW.seq)) | ((with_reducible apply Then.n)) | ((with_reducible apply AW.regL)) | ((with_reducible apply AW.block)) | ((with_reducible apply InBlk.n)) | ((with_reducible apply AW.skip)) | ((with_reducible apply AW.condT); exact rfl; (focus ((simp only [decide_eq_true_eq, decide_eq_false_iff_not, Bool.not_eq_true', Bool.not_eq_false', Bool.not_true, Bool.not_false]; first | assumption | omega)))) | ((with_reducible apply AW.condF); exact rfl; (focus (rfl)))))
                exact ⟨_, _, _, by omega, (Or.inl ⟨rfl, (by repeat (first | exact trivial | (refine And.intro rfl ?_)))⟩), i + 1, rfl, by omega, e, rfl, rfl⟩
        · have e := good (by
            simp only [jobB, hx, Bool.true_and, risB, List.all_eq_true, List.mem_range]
            intro q hq; exact hris q (by omega))
          (repeat (first | (with_reducible refine AWo.cons ?_) | ((with_reducible refine Step.id ?_); first | ((with_reducible apply Step.move); exact rfl; exact rfl) | ((with_reducible apply Step.add); exact rfl; exact rfl; (focus (omega)); exact rfl) | ((with_reducible apply Step.lss); exact rfl; exact rfl; exact rfl)) | (with_reducible refine AWo.nil ?_) | ((with_reducible apply AW.seq)) | ((with_reducible apply Then.n)) | ((with_reducible apply AW.regL)) | ((with_reducible apply AW.exit)) | ((with_reducible apply InBlk.n)) | ((with_reducible apply InBlk.hit)) | ((with_reducible apply Then.e)) | ((with_reducible apply AW.condF); exact rfl; (focus ((simp only [decide_eq_true_eq, decide_eq_false_iff_not, Bool.not_eq_true', Bool.not_eq_false', Bool.not_true, Bool.not_false]; first | assumption | omega))))))
          exact ⟨_, _, _, by omega, (Back.trim rfl rfl (by repeat (exact CellsOk.nil)) (by repeat (first | exact trivial | (refine And.intro ⟨rfl, by (first | exact .int _ _ | exact Ren.of_sl (by assumption) (by first | omega | (simp; omega)))⟩ ?_)))), k + 1, rfl, by omega, e, rfl, rfl⟩
    · (repeat (first | (with_reducible refine AWo.cons ?_) | ((with_reducible refine Step.id ?_); first | ((with_reducible apply Step.assign); exact rfl; exact rfl) | ((with_reducible apply Step.lss); exact rfl; exact rfl; exact rfl)) | (with_reducible refine AWo.nil ?_) | ((with_reducible apply AW.seq)) | ((with_reducible apply Then.n)) | ((with_reducible apply AW.regL)) | ((with_reducible apply AW.exit)) | ((with_reducible apply InBlk.hit)) | ((with_reducible apply Then.e)) | ((with_reducible apply AW.condF); exact rfl; (focus ((simp only [decide_eq_true_eq, decide_eq_false_iff_not, Bool.not_eq_true', Bool.not_eq_false', Bool.not_true, Bool.not_false]; first | assumption | omega))))))
      (refine AW.retD (l := [(2, _)]) (by repeat (first | exact trivial | (refine And.intro ⟨rfl, by (exact .bool _)⟩ ?_))) ?_; (repeat (first | refine Then.r ?_ | refine InBlk.r ?_)))
      rw [List.take_of_length_le hge] at hall
      exact ⟨_, rfl, by simp [jobsB, hall]; omega, rfl⟩
end Go.Proofs.Ytmomjannlnafcaa.Abs
namespace Go.Proofs.Ytmomjannlnafcaa.Abs
set_option linter.unusedSimpArgs false
set_option linter.unusedVariables false
open Go.RowKit
open Go.Proofs.Ytmomjannlnafcaa.Sim
theorem Back.padC {M L : AM} {t : Fm} {m : AM} {l : List (Nat × Value)} (hm : m = M ++ L) (h : All (fun i v => t i = some v ∧ Ren rid (M.length + (L ++ [none]).length) v v) l) (hc : CellsP (fun v => Ren rid (M.length + (L ++ [none]).length) v v) L) : Back M t m l (L ++ [none]) := by
  subst hm
  refine .inr ⟨rid, by simp, fun _ _ => rfl, fun _ _ _ _ _ _ e => e, fun j b hj => ?_, fun i v hi => by
    obtain ⟨h1, h2⟩ := fr_all h i v hi
    exact ⟨v, h1, by simpa using h2⟩⟩
  have hj2 : (M ++ L)[j]? = some (some b) := by
    rw [← List.append_assoc] at hj
    rcases Nat.lt_or_ge j (M ++ L).length with hlt | hge
    · rwa [List.getElem?_append_left hlt] at hj
    · rw [List.getElem?_append_right hge] at hj
      cases q : j - (M ++ L).length with
      | zero => rw [q] at hj; simp at hj
      | succ q' => rw [q] at hj; simp at hj
  rcases Nat.lt_or_ge j M.length with hlt | hge
  · refine .inl ⟨hlt, hj2, ?_⟩
    rwa [List.getElem?_append_left hlt] at hj2
  · refine .inr ⟨b, hj2, rfl, rfl, rfl, fun k v hk => ⟨v, hk, ?_⟩⟩
    rw [List.getElem?_append_right hge] at hj2
    have := hc b (List.mem_of_getElem? hj2) v (List.mem_of_getElem? hk)
    simpa using this
theorem AW.atL {P : Program} {nt : Nat} {m m0 : AM} {t : Fm} {id : Nat} {ops : Array Oper} {b : Bool} {Q : AEx → Fm → AM → Prop} (h : AW P nt m0 (.region id ops b) t m Q) : AW P nt m0 (.region id ops b) t m Q := h
/-- Several ways to one state behind a region. -/
theorem AW.via {P : Program} {nt : Nat} {m m0 : AM} {t : Fm} {c : Code} {Q : AEx → Fm → AM → Prop} (l : List (Nat × Value)) (m1 : AM) (h : AW P nt m0 c t m (fun e t' m' => e = .normal ∧ m' = m1 ∧ All (fun i v => t' i = some v) l)) (h2 : ∀ t', (∀ i v, fr l i = some v → t' i = some v) → Q .normal t' m1) : AW P nt m0 c t m Q :=
  h.mono fun e t' m' ⟨e1, e2, e3⟩ => by subst e1 e2; exact h2 t' (fr_all e3)
theorem AW.pad {P : Program} {nt : Nat} {M L : AM} {t : Fm} {c : Code} {Q : AEx → Fm → AM → Prop} (l : List (Nat × Value)) (h : All (fun i v => t i = some v ∧ Ren rid (M.length + (L ++ [none]).length) v v) l) (hc : CellsP (fun v => Ren rid (M.length + (L ++ [none]).length) v v) L)
    (hk : AW P nt M c (fr l) (M ++ (L ++ [none])) Q) : AW P nt M c t (M ++ L) Q := by
  intro base R0 w0 R a w hb h0 hp ht
  obtain ⟨R1, k1, k2⟩ := (Back.padC rfl h hc).ok h0 hp ht
  exact hk base R0 w0 R1 a w hb h0 k1 k2
section
variable {P : Program} {nt : Nat} {ops : Array Oper} {t : Fm} {m : AM} {K : Fm → AM → Prop} {d T : Nat} {p : String} {af : Array Edge}
/-- s[:h] of a slice that is written out. -/
theorem Step.slTo {x y : Operand} {X e s a o n c h : Nat} {i : Int} {kk : IntKind} (hx : evo t x = some (.slice (some ⟨a, o, none⟩) n c)) (hy : evo t y = some (.int kk i)) (he : i = ((h : Nat) : Int)) (hc : h ≤ c) (hX : P.underlying X = some (.slice e)) (hsz : szB P e = some s)
    (hlt : Nat.blt d nt = true) (hK : K (put t d (.slice (some ⟨a, o, none⟩) h c)) m) : Step P nt ops ⟨some d, .slice X x none (some y) none, T, p, af, none⟩ t m K := by
  subst he
  refine .q (v := .slice (some ⟨a, o, none⟩) h c) rfl rfl hlt ?_ ?_ hK
  · simp [Op.operands, hx, hy]
  · have b2 : bnd n (some (evD t y)) = some h := by rw [evD_of hy]; simp [bnd]
    simp only [aquiet, evD_of hx, aslice0, hX, hsz, Option.map_some, Option.map_none, b2]
    simp [bnd, hc]
theorem Step.slToNil {x y : Operand} {X e s : Nat} {i : Int} {kk : IntKind} (hx : evo t x = some (.slice none 0 0)) (hy : evo t y = some (.int kk i)) (he : i = ((0 : Nat) : Int)) (hX : P.underlying X = some (.slice e)) (hsz : szB P e = some s)
    (hlt : Nat.blt d nt = true) (hK : K (put t d (.slice none 0 0)) m) : Step P nt ops ⟨some d, .slice X x none (some y) none, T, p, af, none⟩ t m K := by
  subst he
  refine .q (v := .slice none 0 0) rfl rfl hlt ?_ ?_ hK
  · simp [Op.operands, hx, hy]
  · have b2 : bnd 0 (some (evD t y)) = some 0 := by rw [evD_of hy]; simp [bnd]
    simp only [aquiet, evD_of hx, aslice0, hX, hsz, Option.map_some, Option.map_none, b2]
    simp [bnd]
theorem Step.slToSpot {x y : Operand} {X e s a o k : Nat} {i : Int} {kk : IntKind} (hx : evo t x = some (.slice (some ⟨a, o, some k⟩) 0 0)) (hy : evo t y = some (.int kk i)) (he : i = ((0 : Nat) : Int)) (hX : P.underlying X = some (.slice e)) (hsz : szB P e = some s)
    (hlt : Nat.blt d nt = true) (hK : K (put t d (.slice (some ⟨a, o, some k⟩) 0 0)) m) : Step P nt ops ⟨some d, .slice X x none (some y) none, T, p, af, none⟩ t m K := by
  subst he
  refine .q (v := .slice (some ⟨a, o, some k⟩) 0 0) rfl rfl hlt ?_ ?_ hK
  · simp [Op.operands, hx, hy]
  · have b2 : bnd 0 (some (evD t y)) = some 0 := by rw [evD_of hy]; simp [bnd]
    simp only [aquiet, evD_of hx, aslice0, hX, hsz, Option.map_some, Option.map_none, b2]
    simp [bnd]
end
end Go.Proofs.Ytmomjannlnafcaa.Abs
namespace Go.Proofs.Ytmomjannlnafcaa.Abs
set_option linter.unusedSimpArgs false
set_option linter.unusedVariables false
open Go.RowKit
open Go.Proofs.Ytmomjannlnafcaa.Sim
open Go.Proofs
abbrev aft (j : List Job) (i : Nat) : List Int := (j.getD i default).after
structure JOk (j : List Job) : Prop where
  len : j.length ≤ 40
  num : ∀ k, k < j.length → 1 ≤ (j.getD k default).time ∧ (j.getD k default).time ≤ 10000 ∧ 0 ≤ (j.getD k default).due ∧ (j.getD k default).due ≤ 1000000 ∧ 0 ≤ (j.getD k default).weight ∧ (j.getD k default).weight ≤ 1000
  ris : ∀ k, k < j.length → ∀ i, i < (aft j k).length → 0 ≤ (aft j k).getD i 0 ∧ (aft j k).getD i 0 < j.length ∧ (i = 0 ∨ (aft j k).getD (i - 1) 0 < (aft j k).getD i 0)
theorem JOk.of {j : List Job} (h : jobsB j = true) : JOk j := by
  simp only [jobsB, Bool.and_eq_true, decide_eq_true_eq, List.all_eq_true] at h
  have key : ∀ k, k < j.length → jobB j.length (j.getD k default) = true := fun k hk => h.2 _ (by
    rw [List.getD_eq_getElem?_getD, List.getElem?_eq_getElem hk]; exact List.getElem_mem hk)
  refine ⟨h.1, fun k hk => ?_, fun k hk i hi => ?_⟩
  · have := key k hk
    simp only [jobB, numsB, Bool.and_eq_true, decide_eq_true_eq] at this
    exact this.1
  · have := key k hk
    simp only [jobB, risB, Bool.and_eq_true, List.all_eq_true, List.mem_range] at this
    have := this.2 i hi
    simpa only [risOk, decide_eq_true_eq] using this
theorem JOk.low {j : List Job} (h : JOk j) {k : Nat} (hk : k < j.length) : ∀ i, i < (aft j k).length → (i : Int) ≤ (aft j k).getD i 0
  | 0, hi => (h.ris k hk 0 hi).1
  | i + 1, hi => by
    have h1 := h.low hk i (by omega)
    have h2 := (h.ris k hk (i + 1) hi).2.2
    rw [Nat.add_sub_cancel] at h2
    omega
theorem JOk.alen {j : List Job} (h : JOk j) {k : Nat} (hk : k < j.length) : (aft j k).length ≤ j.length := by
  by_cases h0 : (aft j k).length = 0
  · omega
  · have h1 := h.low hk ((aft j k).length - 1) (by omega)
    have h2 := h.ris k hk ((aft j k).length - 1) (by omega)
    omega
theorem JOk.mem {j : List Job} (h : JOk j) {k : Nat} (hk : k < j.length) {a : Int} (ha : a ∈ aft j k) : 0 ≤ a ∧ a < j.length := by
  obtain ⟨i, hi, rfl⟩ := List.getElem_of_mem ha
  have := h.ris k hk i hi
  rw [List.getD_eq_getElem?_getD, List.getElem?_eq_getElem hi, Option.getD_some] at this
  exact ⟨this.1, this.2.1⟩
def nv (P : List Nat) : List Int := P.map (Nat.cast : Nat → Int)
theorem nv_len (P : List Nat) : (nv P).length = P.length := by simp [nv]
theorem bs23x {m : AM} {n : Nat} {x : Int} : abuildSlice Try.prog m n 23 1 [(0, .int .i64 x)] = some (.slice (some ⟨n, 0, none⟩) 1 1, m.set n (some { cells := [.int .i64 x] })) := by kernel_rfl
end Go.Proofs.Ytmomjannlnafcaa.Abs
namespace Go.Proofs.Ytmomjannlnafcaa.Abs
set_option linter.unusedSimpArgs false
set_option linter.unusedVariables false
/-- The sum of f i over i below n. -/
def sm (f : Nat → Int) : Nat → Int
  | 0 => 0
  | n + 1 => sm f n + f n
end Go.Proofs.Ytmomjannlnafcaa.Abs
namespace Go.Proofs.Ytmomjannlnafcaa.Abs
set_option linter.unusedSimpArgs false
set_option linter.unusedVariables false
open Go.RowKit
open Go.Proofs.Ytmomjannlnafcaa.Sim
section
variable {P : Program} {nt : Nat} {ops : Array Oper} {t : Fm} {m : AM} {K : Fm → AM → Prop} {d T : Nat} {p : String} {af : Array Edge}
/-- s[l:] of a slice that is written out. -/
theorem Step.slFrom {x y : Operand} {X e s a o n c l : Nat} {i : Int} {kk : IntKind} (hx : evo t x = some (.slice (some ⟨a, o, none⟩) n c)) (hy : evo t y = some (.int kk i)) (he : i = ((l : Nat) : Int)) (hl : l ≤ n) (hn : n ≤ c) (hc : l < c) (hX : P.underlying X = some (.slice e)) (hsz : szB P e = some s)
    (hlt : Nat.blt d nt = true) (hK : K (put t d (.slice (some ⟨a, o + l * s, none⟩) (n - l) (c - l))) m) : Step P nt ops ⟨some d, .slice X x (some y) none none, T, p, af, none⟩ t m K := by
  subst he
  refine .q (v := .slice (some ⟨a, o + l * s, none⟩) (n - l) (c - l)) rfl rfl hlt ?_ ?_ hK
  · simp [Op.operands, hx, hy]
  · have b2 : bnd 0 (some (evD t y)) = some l := by rw [evD_of hy]; simp [bnd]
    simp only [aquiet, evD_of hx, aslice0, hX, hsz, Option.map_some, Option.map_none, b2]
    simp only [bnd]
    rw [if_pos ⟨hl, hn, .inl hc⟩]
/-- A part of a row of ints is cleared. -/
theorem Step.clearR {x : Operand} {X e by_ a s o n c : Nat} {kd : Kind} {l l' : List Int} (hx : evo t x = some (.slice (some ⟨a, o, none⟩) n c)) (hE : elemB P X = some (e, 1, by_, #[.int .i64 0])) (ha : a < m.length) (hs : kd.solid = true) (ho : o + n ≤ l.length) (hn : 0 < n)
    (hl : l.take o ++ List.replicate n 0 ++ l.drop (o + n) = l') (hK : K t (St m a kd s l')) : Step P nt ops ⟨none, .call ⟨.builtin .clear, #[x], #[X]⟩, T, p, af, none⟩ t (St m a kd s l) K := by
  subst hl
  refine .l0 rfl rfl rfl (by simp [Op.operands, Call.operands, hx]) (loud_of_aloud0 (v := .tuple #[]) (m' := St m a kd s (l.take o ++ List.replicate n 0 ++ l.drop (o + n))) rfl ?_ hK)
  have hz : (Builtin.zeroCells #[Value.int .i64 0] n).toList = List.replicate n (Value.int .i64 0) := by
    simp [Builtin.zeroCells, Nat.mod_one, List.map_const']
  have hsp : splice (iv l) o (Builtin.zeroCells #[Value.int .i64 0] n).toList = iv (l.take o ++ List.replicate n 0 ++ l.drop (o + n)) := by
    rw [hz]
    unfold splice
    simp [iv]
  simp only [aloud, evD_of hx, aclear, hE, St.get ha]
  rw [if_neg (by omega)]
  rw [if_pos (by simp [hs, iv_len]; omega), hsp]
  simp [St.set]
end
theorem ints_pre {M L : AM} {k n c : Nat} {A Z : List Int} {b : Blk} (h : L[k]? = some (some b)) (hb : b.cells = iv (A ++ Z)) (hn : n = A.length) (hc : n ≤ c) : Ints (M ++ L) (.slice (some ⟨M.length + k, 0, none⟩) n c) A := by
  subst hn
  refine ⟨M.length + k, 0, Sl.mk hc, by have := (List.getElem?_eq_some_iff.1 h).1; simp; omega, fun j hj => ?_⟩
  have := iv_get (l := A ++ Z) (k := j) (by simp; omega)
  rw [List.getD_eq_getElem?_getD, List.getElem?_append_left hj, ← List.getD_eq_getElem?_getD] at this
  exact Rd.new h (by rw [hb, Nat.zero_add]; exact this)
end Go.Proofs.Ytmomjannlnafcaa.Abs
namespace Go.Proofs.Ytmomjannlnafcaa.Abs
set_option linter.unusedSimpArgs false
set_option linter.unusedVariables false
open Go.RowKit
open Go.Proofs.Ytmomjannlnafcaa.Sim
open Go.Proofs
theorem sz3n : szB Try.prog 3 = some 1 := by kernel_rfl
theorem mem_getD' {l : List Int} {k : Nat} (h : k < l.length) : l.getD k 0 ∈ l := by
  rw [List.getD_eq_getElem?_getD, List.getElem?_eq_getElem h]; exact List.getElem_mem h
theorem idxF_neg' {pr : Nat → Bool} {n : Nat} (h : idxF pr n < 0) : idxF pr n = -1 ∧ ∀ i, i < n → pr i = false := by
  unfold idxF at h ⊢
  cases h' : (List.range n).find? pr with
  | none =>
    refine ⟨rfl, fun i hi => ?_⟩
    have := List.find?_eq_none.1 h' i (by simpa using hi)
    simpa using this
  | some k => rw [h'] at h; simp at h; omega
theorem idxF_pos' {pr : Nat → Bool} {n : Nat} (h : 0 ≤ idxF pr n) : ∃ k : Nat, idxF pr n = k ∧ k < n ∧ pr k = true ∧ ∀ i, i < k → pr i = false := by
  unfold idxF at h ⊢
  cases h' : (List.range n).find? pr with
  | none => rw [h'] at h; simp at h
  | some k =>
    obtain ⟨h1, h2, h3⟩ := List.find?_range_eq_some.1 h'
    exact ⟨k, rfl, by simpa using h2, h1, fun i hi => by simpa using h3 i hi⟩
section
variable {m : AM} {r s : Nat} {kd : Kind}
set_option maxHeartbeats 1000000 in
set_option maxRecDepth 100000 in
theorem delete_ok {A Z : List Int} {n c : Nat} {g : FuncId} {cap : Array Value} {fn : Func} {bd : Code} (q : Int → Bool) (hr : r < m.length) (hkd : kd.solid = true) (hf : Try.prog.funcs[g]? = some fn) (hb : fn.body = some bd) (hA : A.length = n) (hnc : n ≤ c) (hc : c ≤ 1000000)
    (hg : ∀ row x, x ∈ A → ACall Try.prog g (#[] ++ #[.int .i64 x] ++ cap) (St m r kd s row) (Ret (.bool (q x)) (St m r kd s row))) :
    ACall Try.prog 82 #[.slice (some ⟨r, 0, none⟩) n c, .func (.func g) #[] cap] (St m r kd s (A ++ Z)) (Ret (.slice (some ⟨r, 0, none⟩) (A.filter fun x => !q x).length c) (St m r kd s ((A.filter fun x => !q x) ++ List.replicate (n - (A.filter fun x => !q x).length) 0 ++ Z))) := by
  subst hA
  have hints : Ints (St m r kd s (A ++ Z)) (.slice (some ⟨r, 0, none⟩) A.length c) A := ⟨r, 0, Sl.mk hnc, by rw [St.len]; exact hr, fun k hk => by
    have := St.rd (s := s) (kd := kd) (l := A ++ Z) hr (o := k) (by simp; omega)
    rw [getD_l hk] at this
    rwa [Nat.zero_add]⟩
  have hix := f108_ok hints hf hb (fun k => q (A.getD k 0)) (by omega) (fun k hk => hg _ _ (mem_getD' hk))
  have hsl : Sl (.slice (some ⟨r, 0, none⟩) A.length c) r 0 A.length := Sl.mk hnc
  refine ACall.intro Try.func82 rfl (Nat.le_of_ble_eq_true rfl) ?_
  by_cases hno : idxF (fun k => q (A.getD k 0)) A.length < 0
  · obtain ⟨e1, e2⟩ := idxF_neg' hno
    have hfil : (A.filter fun x => !q x) = A := by
      rw [List.filter_eq_self]
      intro x hx
      obtain ⟨k, hk, rfl⟩ := List.getElem_of_mem hx
      have := e2 k hk
      simp only [List.getD_eq_getElem?_getD, List.getElem?_eq_getElem hk, Option.getD_some] at this
      simp [this]
    rw [e1] at hix
    (repeat (first | (with_reducible refine AWo.cons ?_) | ((with_reducible refine Step.id ?_); first | ((with_reducible apply Step.move); exact rfl; exact rfl) | ((with_reducible apply Step.assign); exact rfl; exact rfl) | ((with_reducible apply Step.eql); exact rfl; exact rfl; exact rfl) | ((with_reducible apply Step.callR fit); exact rfl; exact Try.func108; exact rfl; exact rfl; exact (hix))) | (with_reducible refine AWo.nil ?_) | ((with_reducible apply AW.seq)) | ((with_reducible apply Then.n)) | ((with_reducible apply AW.regL)) | ((with_reducible apply AW.condT); exact rfl; (focus (rfl)))))
    (refine AW.ret ?_; (repeat (first | refine Then.r ?_ | refine InBlk.r ?_)))
    refine ⟨_, rfl, by rw [hfil], ?_⟩
    rw [hfil, Nat.sub_self]; simp
  · obtain ⟨k0, e1, e2, e3, e4⟩ := idxF_pos' (pr := fun k => q (A.getD k 0)) (n := A.length) (by omega)
    rw [e1] at hix
    have hpre : (A.take k0).filter (fun x => !q x) = A.take k0 := by
      rw [List.filter_eq_self]
      intro x hx
      obtain ⟨i, hi, rfl⟩ := List.getElem_of_mem hx
      simp only [List.length_take] at hi
      have := e4 i (by omega)
      simp only [List.getD_eq_getElem?_getD, List.getElem?_eq_getElem (show i < A.length by omega), Option.getD_some] at this
      simp [this]
    (repeat (first | (with_reducible refine AWo.cons ?_) | ((with_reducible refine Step.id ?_); first | ((with_reducible apply Step.move); exact rfl; exact rfl) | ((with_reducible apply Step.assign); exact rfl; exact rfl) | ((with_reducible apply Step.add); exact rfl; exact rfl; (focus (omega)); exact rfl) | ((with_reducible apply Step.eql); exact rfl; exact rfl; exact rfl) | ((with_reducible apply Step.callR fit); exact rfl; exact Try.func108; exact rfl; exact rfl; exact (hix))) | (with_reducible refine AWo.nil ?_) | ((with_reducible apply AW.seq)) | ((with_reducible apply Then.n)) | ((with_reducible apply AW.regL)) | ((with_reducible apply AW.block)) | ((with_reducible apply AW.skip)) | ((with_reducible apply AW.condF); exact rfl; (focus (rfl)))))
    refine AW.loopW (fun u t M => ∃ (jj : Nat) (K Mid : List Int), u = A.length - jj ∧ jj ≤ A.length ∧ K = (A.take jj).filter (fun x => !q x) ∧ K.length + Mid.length = jj ∧ 0 < Mid.length ∧
      t = fr [(0, .slice (some ⟨r, 0, none⟩) A.length c), (1, .func (.func g) #[] cap), (5, .int .i64 ((K.length : Nat) : Int)), (6, .int .i64 ((jj : Nat) : Int))] ∧ M = St m r kd s (K ++ Mid ++ (A.drop jj ++ Z)))
      ⟨_, [(0, .slice (some ⟨r, 0, none⟩) A.length c), (1, .func (.func g) #[] cap), (5, .int .i64 ((k0 : Nat) : Int)), (6, .int .i64 ((k0 + 1 : Nat) : Int))], (by repeat (first | exact trivial | (refine And.intro rfl ?_))), k0 + 1, A.take k0, [A.getD k0 0], rfl, by omega, ?_, ?_, by simp, ?_, ?_⟩ ?_
    · rw [take_snoc A k0 0 e2, List.filter_append, hpre]; simp only [List.filter_cons, List.filter_nil, e3]; simp
    · simp; omega
    · simp [Nat.min_eq_left (Nat.le_of_lt e2)]
    · rw [← List.append_assoc, ← take_snoc A k0 0 e2, List.take_append_drop]
    rintro u t M ⟨jj, K, Mid, rfl, hjj, hK, hKM, hMid, rfl, rfl⟩
    rcases Nat.lt_or_ge jj A.length with hlt | hge
    · obtain ⟨x, hx⟩ : ∃ x, x = A.getD jj 0 := ⟨_, rfl⟩
      have hxA : x ∈ A := by rw [hx]; exact mem_getD' hlt
      have hdrop : A.drop jj = x :: A.drop (jj + 1) := by rw [List.drop_eq_getElem_cons hlt, hx]; simp [hlt]
      have hts := take_snoc A jj 0 hlt
      rw [← hx] at hts
      have hgx := hg (K ++ Mid ++ (A.drop jj ++ Z)) x hxA
      have hfs : (A.take (jj + 1)).filter (fun x => !q x) = K ++ if q x then [] else [x] := by
        rw [hts, List.filter_append, ← hK]; cases hq : q x <;> simp [hq]
      rw [hdrop] at hgx ⊢
      have hrd : Rd (St m r kd s (K ++ Mid ++ (x :: A.drop (jj + 1) ++ Z))) r jj (.int .i64 x) := by
        have := St.rd (s := s) (kd := kd) (l := K ++ Mid ++ (x :: A.drop (jj + 1) ++ Z)) hr (o := jj) (by simp; omega)
        rw [getD_r (j := 0) (by simp; omega)] at this
        exact this
      generalize hD : A.drop (jj + 1) = D at *
      cases hq : q x with
      | true =>
        rw [hq] at hgx hfs
        (repeat (first | (with_reducible refine AWo.cons ?_) | ((with_reducible refine Step.id ?_); first | ((with_reducible apply Step.move); exact rfl; exact rfl) | ((with_reducible apply Step.assign); exact rfl; exact rfl) | ((with_reducible apply Step.load); exact rfl; (focus (decide +kernel)); exact rfl; (focus (assumption))) | ((with_reducible apply Step.ix1z); exact rfl; (focus (assumption)); exact rfl; (focus (decide +kernel)); exact rfl; (focus (omega))) | ((with_reducible apply Step.add); exact rfl; exact rfl; (focus (omega)); exact rfl) | ((with_reducible apply Step.lss); exact rfl; exact rfl; exact rfl) | ((with_reducible apply Step.len); exact rfl; (focus (assumption)); (focus (decide +kernel)); exact rfl) | ((with_reducible apply Step.not); exact rfl; exact rfl) | ((with_reducible apply Step.callV fit); exact rfl; exact rfl; exact hf; exact hb; exact rfl; exact (hgx))) | (with_reducible refine AWo.nil ?_) | ((with_reducible apply AW.seq)) | ((with_reducible apply Then.n)) | ((with_reducible apply AW.regL)) | ((with_reducible apply AW.block)) | ((with_reducible apply InBlk.n)) | ((with_reducible apply AW.skip)) | ((with_reducible apply AW.condT); exact rfl; (focus ((simp only [decide_eq_true_eq, decide_eq_false_iff_not, Bool.not_eq_true', Bool.not_eq_false', Bool.not_true, Bool.not_false]; first | assumption | omega)))) | ((with_reducible apply AW.condF); exact rfl; (focus (rfl)))))
        exact ⟨_, [(0, .slice (some ⟨r, 0, none⟩) A.length c), (1, .func (.func g) #[] cap), (5, .int .i64 ((K.length : Nat) : Int)), (6, .int .i64 ((jj + 1 : Nat) : Int))], by omega, (by repeat (first | exact trivial | (refine And.intro rfl ?_))), jj + 1, K, Mid ++ [x], rfl, by omega, by rw [hfs]; simp, by simp; omega, by simp, rfl, by rw [hD]; simp⟩
      | false =>
        rw [hq] at hgx hfs
        obtain ⟨y, M', rfl⟩ : ∃ y M', Mid = y :: M' := by cases Mid with | nil => simp at hMid | cons y M' => exact ⟨y, M', rfl⟩
        simp only [List.length_cons] at hKM
        have hset : (K ++ (y :: M') ++ (x :: D ++ Z)).set K.length x = (K ++ [x]) ++ (M' ++ [x]) ++ (D ++ Z) := by
          rw [List.append_assoc, set_r (j := 0) (by omega)]; simp
        have hll : K.length < (K ++ (y :: M') ++ (x :: D ++ Z)).length := by simp
        (repeat (first | (with_reducible refine AWo.cons ?_) | ((with_reducible refine Step.id ?_); first | ((with_reducible apply Step.move); exact rfl; exact rfl) | ((with_reducible apply Step.assign); exact rfl; exact rfl) | ((with_reducible apply Step.load); exact rfl; (focus (decide +kernel)); exact rfl; (focus (assumption))) | ((with_reducible apply Step.ix1z); exact rfl; (focus (assumption)); exact rfl; (focus (decide +kernel)); exact rfl; (focus (omega))) | ((with_reducible apply Step.add); exact rfl; exact rfl; (focus (omega)); exact rfl) | ((with_reducible apply Step.lss); exact rfl; exact rfl; exact rfl) | ((with_reducible apply Step.len); exact rfl; (focus (assumption)); (focus (decide +kernel)); exact rfl) | ((with_reducible apply Step.not); exact rfl; exact rfl) | ((with_reducible apply Step.callV fit); exact rfl; exact rfl; exact hf; exact hb; exact rfl; exact (hgx)) | ((with_reducible apply Step.storeR); exact rfl; exact rfl; (focus (decide +kernel)); exact hr; exact hkd; (focus (first | omega | (simp [swp, ms_len]; omega))); exact rfl)) | (with_reducible refine AWo.nil ?_) | ((with_reducible apply AW.seq)) | ((with_reducible apply Then.n)) | ((with_reducible apply AW.regL)) | ((with_reducible apply AW.block)) | ((with_reducible apply InBlk.n)) | ((with_reducible apply AW.skip)) | ((with_reducible apply AW.condT); exact rfl; (focus (first | rfl | (simp only [decide_eq_true_eq, decide_eq_false_iff_not, Bool.not_eq_true', Bool.not_eq_false', Bool.not_true, Bool.not_false]; first | assumption | omega))))))
        refine ⟨_, [(0, .slice (some ⟨r, 0, none⟩) A.length c), (1, .func (.func g) #[] cap), (5, .int .i64 ((K.length + 1 : Nat) : Int)), (6, .int .i64 ((jj + 1 : Nat) : Int))], by omega, (by repeat (first | exact trivial | (refine And.intro rfl ?_))), jj + 1, K ++ [x], M' ++ [x], rfl, by omega, by rw [hfs]; simp, by simp; omega, by simp, by simp, ?_⟩
        rw [hD, ← hset]
    · obtain rfl : jj = A.length := by omega
      rw [List.take_length] at hK
      rw [List.drop_length, List.nil_append]
      have hcl : (K ++ Mid ++ Z).take (0 + K.length * 1) ++ List.replicate (A.length - K.length) 0 ++ (K ++ Mid ++ Z).drop (0 + K.length * 1 + (A.length - K.length)) = K ++ List.replicate (A.length - K.length) 0 ++ Z := by
        rw [Nat.zero_add, Nat.mul_one, show K.length + (A.length - K.length) = (K ++ Mid).length by simp; omega, List.drop_left]
        rw [List.append_assoc K Mid Z, List.take_left]
      have e0 : ((K.length : Nat) : Int) = ((K.length : Nat) : Int) := rfl
      (repeat (first | (with_reducible refine AWo.cons ?_) | ((with_reducible refine Step.id ?_); first | ((with_reducible apply Step.move); exact rfl; exact rfl) | ((with_reducible apply Step.slFrom); exact rfl; exact rfl; exact rfl; (focus (omega)); (focus (omega)); (focus (omega)); exact un23; exact sz3n; exact rfl) | ((with_reducible apply Step.lss); exact rfl; exact rfl; exact rfl) | ((with_reducible apply Step.len); exact rfl; (focus (assumption)); (focus (decide +kernel)); exact rfl)) | (with_reducible refine AWo.nil ?_) | ((with_reducible apply AW.seq)) | ((with_reducible apply Then.n)) | ((with_reducible apply AW.regL)) | ((with_reducible apply AW.exit)) | ((with_reducible apply InBlk.hit)) | ((with_reducible apply Then.e)) | ((with_reducible apply AW.condF); exact rfl; (focus ((simp only [decide_eq_true_eq, decide_eq_false_iff_not, Bool.not_eq_true', Bool.not_eq_false', Bool.not_true, Bool.not_false]; first | assumption | omega))))))
      ((with_reducible apply Step.clearR); exact rfl; exact el23; exact hr; exact hkd; (focus (simp; omega)); (focus (omega)); exact hcl)
      (repeat (first | (with_reducible refine AWo.cons ?_) | ((with_reducible refine Step.id ?_); first | ((with_reducible apply Step.move); exact rfl; exact rfl) | ((with_reducible apply Step.assign); exact rfl; exact rfl) | ((with_reducible apply Step.slTo); exact rfl; exact rfl; (focus (assumption)); (focus (omega)); exact un23; exact sz3n; exact rfl)) | (with_reducible refine AWo.nil ?_) | ((with_reducible apply AW.seq)) | ((with_reducible apply Then.n)) | ((with_reducible apply AW.regL))))
      (refine AW.ret ?_; (repeat (first | refine Then.r ?_ | refine InBlk.r ?_)))
      rw [← hK]
      exact ⟨_, rfl, rfl, rfl⟩
end
end Go.Proofs.Ytmomjannlnafcaa.Abs
namespace Go.Proofs.Ytmomjannlnafcaa.Abs
set_option linter.unusedSimpArgs false
set_option linter.unusedVariables false
open Go.RowKit
open Go.Proofs.Ytmomjannlnafcaa.Sim
open Go.Proofs
abbrev jb (j : List Job) (i : Int) : Job := j.getD i.toNat default
def sumJ (j : List Job) (set : List Int) : Int := sm (fun k => (jb j (set.getD k 0)).time) set.length
def InJ (j : List Job) (set : List Int) : Prop := ∀ x ∈ set, 0 ≤ x ∧ x < j.length
theorem sumJ_bd {j : List Job} (h : JOk j) {set : List Int} (hs : InJ j set) : ∀ k, k ≤ set.length → (k : Int) ≤ sm (fun k => (jb j (set.getD k 0)).time) k ∧ sm (fun k => (jb j (set.getD k 0)).time) k ≤ 10000 * k
  | 0, _ => by simp [sm]
  | k + 1, hk => by
    have h1 := sumJ_bd h hs k (by omega)
    have hm := hs _ (mem_getD' hk)
    have h2 := h.num (set.getD k 0).toNat (by omega)
    have hs : sm (fun k => (jb j (set.getD k 0)).time) (k + 1) = sm (fun k => (jb j (set.getD k 0)).time) k + (jb j (set.getD k 0)).time := rfl
    have h3 : 1 ≤ (jb j (set.getD k 0)).time ∧ (jb j (set.getD k 0)).time ≤ 10000 := ⟨h2.1, h2.2.1⟩
    rw [hs]
    omega
theorem ze3 : zeroB Try.prog 3 = some #[.int .i64 0] := by kernel_rfl
end Go.Proofs.Ytmomjannlnafcaa.Abs
namespace Go.Proofs.Ytmomjannlnafcaa.Abs
set_option linter.unusedSimpArgs false
set_option linter.unusedVariables false
open Go.RowKit
open Go.Proofs.Ytmomjannlnafcaa.Sim
open Go.Proofs
theorem after_len {j : List Job} (h : JOk j) : ∀ k, k < j.length → (j.getD k default).after.length ≤ 9223372036854775807 := fun k hk => by
  have := h.alen hk
  have := h.len
  simp only [aft] at *
  omega
/-- The Afters are no longer than slices can be. -/
def Short (j : List Job) : Prop := j.length ≤ 9223372036854775807 ∧ ∀ k, k < j.length → (j.getD k default).after.length ≤ 9223372036854775807
end Go.Proofs.Ytmomjannlnafcaa.Abs
namespace Go.Proofs.Ytmomjannlnafcaa.Abs
set_option linter.unusedSimpArgs false
set_option linter.unusedVariables false
open Go.RowKit
open Go.Proofs.Ytmomjannlnafcaa.Sim
open Go.Proofs
set_option maxRecDepth 100000 in
theorem clone_nil {m : AM} : ACall Try.prog 77 #[.slice none 0 0] m (Ret (.slice none 0 0) m) := by
  refine ACall.start Try.func77 rfl rfl ?_
  (repeat (first | (with_reducible refine AWo.cons ?_) | ((with_reducible refine Step.id ?_); first | ((with_reducible apply Step.move); exact rfl; exact rfl) | ((with_reducible apply Step.assign); exact rfl; exact rfl) | ((with_reducible apply Step.nilNil); exact rfl; exact rfl; exact un23; exact rfl)) | (with_reducible refine AWo.nil ?_) | ((with_reducible apply AW.seq)) | ((with_reducible apply Then.n)) | ((with_reducible apply AW.regL)) | ((with_reducible apply AW.condT); exact rfl; (focus (rfl)))))
  (refine AW.retD (l := [(2, _)]) (by repeat (first | exact trivial | (refine And.intro ⟨rfl, by (exact Ren.of_g0 rfl)⟩ ?_))) ?_; (repeat (first | refine Then.r ?_ | refine InBlk.r ?_)))
  exact ⟨_, rfl, rfl, rfl⟩
set_option maxRecDepth 100000 in
theorem clone_empty {m : AM} {a o c : Nat} {q : Addr} (h1 : Sl (.slice (some q) 0 c) a o 0) : ACall Try.prog 77 #[.slice (some q) 0 c] m (New (some { cells := [] }) 0 m) := by
  refine ACall.start Try.func77 rfl rfl ?_
  (repeat (first | (with_reducible refine AWo.cons ?_) | ((with_reducible refine Step.id ?_); first | ((with_reducible apply Step.move); exact rfl; exact rfl) | ((with_reducible apply Step.assign); exact rfl; exact rfl) | ((with_reducible apply Step.eqNil); exact rfl; exact rfl; exact un23; exact rfl) | ((with_reducible apply Step.buildS 0); exact rfl; exact rfl; exact (fun _ _ => bs23); exact rfl; (focus (first | (simp only [List.nil_append, List.cons_append, List.set_cons_zero, List.set_cons_succ, iv_set, bv_set, iv_rep, bv_rep]; done) | (simp only [List.nil_append, List.cons_append, List.set_cons_zero, List.set_cons_succ, iv_set, bv_set, iv_rep, bv_rep]; rfl) | rfl)))) | (with_reducible refine AWo.nil ?_) | ((with_reducible apply AW.seq)) | ((with_reducible apply Then.n)) | ((with_reducible apply AW.regL)) | ((with_reducible apply AW.skip)) | ((with_reducible apply AW.condF); exact rfl; (focus (rfl)))))
  ((with_reducible apply Step.app0 (k := 1)); exact rfl; exact rfl; exact rfl; exact el23; exact un23; exact rfl; exact rfl; (focus (first | (simp only [List.nil_append, List.cons_append, List.set_cons_zero, List.set_cons_succ, iv_set, bv_set, iv_rep, bv_rep]; done) | (simp only [List.nil_append, List.cons_append, List.set_cons_zero, List.set_cons_succ, iv_set, bv_set, iv_rep, bv_rep]; rfl) | rfl)))
  (repeat (first | (with_reducible refine AWo.cons ?_) | ((with_reducible refine Step.id ?_); ((with_reducible apply Step.assign); exact rfl; exact rfl)) | (with_reducible refine AWo.nil ?_) | ((with_reducible apply Then.n))))
  refine AW.retB (l := [(2, _)]) (L1 := [some { cells := [] }]) (Back.trim rfl rfl (by repeat (first | exact CellsOk.nil | refine CellsOk.cons (by (intro v hv; simp at hv; done)) ?_)) (by repeat (first | exact trivial | (refine And.intro ⟨rfl, by (exact .slice _ _ _ _ (by first | (simp; done) | omega | (simp; omega)))⟩ ?_)))) ?_
  exact ⟨_, rfl, rfl, rfl⟩
set_option maxRecDepth 100000 in
theorem clone_pos {m : AM} {v : Value} {l : List Int} (hl : Ints m v l) (hpos : 0 < l.length) (hlen : l.length ≤ 1000000) : ACall Try.prog 77 #[v] m (New (some { cells := iv l, kind := .grow, size := 1 }) l.length m) := by
  obtain ⟨a, o, h1, h2, h3⟩ := hl
  refine ACall.start Try.func77 rfl rfl ?_
  rcases h1 with ⟨rfl, hn⟩ | ⟨c, hc, rfl⟩ | ⟨hn, _⟩
  · omega
  · have hr := ints_rdl (by omega) h3
    (repeat (first | (with_reducible refine AWo.cons ?_) | ((with_reducible refine Step.id ?_); first | ((with_reducible apply Step.move); exact rfl; exact rfl) | ((with_reducible apply Step.assign); exact rfl; exact rfl) | ((with_reducible apply Step.eqNil); exact rfl; exact rfl; exact un23; exact rfl) | ((with_reducible apply Step.buildS 0); exact rfl; exact rfl; exact (fun _ _ => bs23); exact rfl; (focus (first | (simp only [List.nil_append, List.cons_append, List.set_cons_zero, List.set_cons_succ, iv_set, bv_set, iv_rep, bv_rep]; done) | (simp only [List.nil_append, List.cons_append, List.set_cons_zero, List.set_cons_succ, iv_set, bv_set, iv_rep, bv_rep]; rfl) | rfl)))) | (with_reducible refine AWo.nil ?_) | ((with_reducible apply AW.seq)) | ((with_reducible apply Then.n)) | ((with_reducible apply AW.regL)) | ((with_reducible apply AW.skip)) | ((with_reducible apply AW.condF); exact rfl; (focus (rfl)))))
    ((with_reducible apply Step.appE (k := 1)); exact rfl; exact rfl; exact rfl; exact el23; exact un23; exact rfl; exact rfl; exact (hr.old _); (focus (simp [iv])); (focus (omega)); exact (iv_one _); (focus (omega)); exact rfl; (focus (first | (simp only [List.nil_append, List.cons_append, List.set_cons_zero, List.set_cons_succ, iv_set, bv_set, iv_rep, bv_rep]; done) | (simp only [List.nil_append, List.cons_append, List.set_cons_zero, List.set_cons_succ, iv_set, bv_set, iv_rep, bv_rep]; rfl) | rfl)))
    (repeat (first | (with_reducible refine AWo.cons ?_) | ((with_reducible refine Step.id ?_); ((with_reducible apply Step.assign); exact rfl; exact rfl)) | (with_reducible refine AWo.nil ?_) | ((with_reducible apply Then.n))))
    refine AW.retB (l := [(2, .slice (some ⟨m.length + 0, 0, none⟩) l.length l.length)]) (L1 := [some { cells := iv l, kind := .grow, size := 1 }]) (Back.mv 0 1 rfl rfl rfl rfl (by intro j b hj h; rcases j with _ | _ | _ | _ | _ | _ | j <;> simp_all) (by repeat (first | exact CellsOk.nil | refine CellsOk.cons (by exact g0_iv _) ?_)) (by repeat (first | exact trivial | (refine And.intro ⟨_, rfl, by (exact Ren.slice_mv (by first | (simp; done) | omega | (simp; omega)))⟩ ?_)))) ?_
    exact ⟨_, rfl, rfl, rfl⟩
  · omega
theorem bl87 {x y z : Int} {q : Option Addr} {n c : Nat} : abuild Try.prog 87 [(0, .int .i64 x), (1, .int .i64 y), (2, .int .i64 z), (3, .slice q n c)] = some (.agg #[.int .i64 x, .int .i64 y, .int .i64 z, .slice q n c]) := by kernel_rfl
theorem bs51 {m : AM} {k : Nat} {x y z : Int} {q : Option Addr} {n c : Nat} : abuildSlice Try.prog m k 51 1 [(0, .agg #[.int .i64 x, .int .i64 y, .int .i64 z, .slice q n c])] = some (.slice (some ⟨k, 0, none⟩) 1 1, m.set k (some { cells := [.int .i64 x, .int .i64 y, .int .i64 z, .slice q n c] })) := by kernel_rfl
theorem el51 : elemB Try.prog 51 = some (87, 4, 48, #[.int .i64 0, .int .i64 0, .int .i64 0, .slice none 0 0]) := by kernel_rfl
theorem sz3 : szB Try.prog 3 = some 1 := by kernel_rfl
theorem un51 : Try.prog.underlying 51 = some (.slice 87) := by kernel_rfl
/-- A job as the program gets it. -/
def cvJ (x : Job) : Job := { x with after := x.after.take 60 }
def convJ (j : List Job) : List Job := (j.take 42).map cvJ
/-- Cells that show jobs. -/
def JCells (M : AM) (c : List Value) (js : List Job) : Prop := c.length = js.length * 4 ∧ ∀ k, k < js.length → ∃ w, (∀ q v, ((js.getD k default).cells w)[q]? = some v → c[k * 4 + q]? = some v) ∧ Ints M w (js.getD k default).after
theorem JCells.nil (M : AM) : JCells M [] [] := ⟨rfl, fun k hk => by simp at hk⟩
theorem JCells.snoc {M : AM} {L : AM} {c : List Value} {js : List Job} {x : Job} {w : Value} (h : JCells M c js) (hw : Ints (M ++ L) w x.after) : JCells (M ++ L) (c ++ x.cells w) (js ++ [x]) := by
  obtain ⟨h1, h2⟩ := h
  refine ⟨by simp [Job.cells, h1]; omega, fun k hk => ?_⟩
  simp only [List.length_append, List.length_singleton] at hk
  rcases Nat.lt_succ_iff_lt_or_eq.1 hk with hk | hk
  · obtain ⟨w', k1, k2⟩ := h2 k hk
    have e : (js ++ [x]).getD k default = js.getD k default := by simp [List.getElem?_append_left hk]
    refine ⟨w', fun q v hq => ?_, by rw [e]; exact k2.old L⟩
    rw [e] at hq
    have hq4 : q < 4 := by have := (List.getElem?_eq_some_iff.1 hq).1; simpa [Job.cells] using this
    rw [List.getElem?_append_left (by omega)]
    exact k1 q v hq
  · subst hk
    have e : (js ++ [x]).getD js.length default = x := by simp
    rw [e]
    refine ⟨w, fun q v hq => ?_, hw⟩
    rw [List.getElem?_append_right (by omega), h1, Nat.add_sub_cancel_left]
    exact hq
theorem JCells.jobs {M : AM} {c : List Value} {js : List Job} (h : JCells M c js) : Jobs (M ++ [gb c 4]) (gv M.length js.length) js := by
  obtain ⟨h1, h2⟩ := h
  refine ⟨M.length, 0, gv_sl _ _, by simp, fun k hk => ?_⟩
  obtain ⟨w, k1, k2⟩ := h2 k hk
  refine ⟨w, ⟨_, by rw [show M.length = M.length + 0 by omega, get_app, List.getElem?_cons_zero, gb_pos (by omega)], fun q v hq => ?_⟩, k2.old _⟩
  rw [Nat.zero_add]
  exact k1 q v hq
theorem conv_snoc {j : List Job} {k : Nat} (h : k < j.length) : (j.take (k + 1)).map cvJ = (j.take k).map cvJ ++ [cvJ (j.getD k default)] := by
  rw [take_snoc j k default h, List.map_append]; rfl
set_option maxHeartbeats 4000000 in
set_option maxRecDepth 100000 in
theorem f34_ok {m : AM} {v : Value} {j : List Job} (hj : Jobs m v j) (hs : Short j) : ACall Try.prog 34 #[v] m (More (fun M v => Jobs M v (convJ j)) m) := by
  obtain ⟨a, o, h1, h2, h3⟩ := hj
  obtain ⟨s1, s2⟩ := hs
  refine ACall.start Try.func34 rfl rfl ?_
  (repeat (first | (with_reducible refine AWo.cons ?_) | ((with_reducible refine Step.id ?_); first | ((with_reducible apply Step.move); exact rfl; exact rfl) | ((with_reducible apply Step.assign); exact rfl; exact rfl) | ((with_reducible apply Step.len); exact rfl; (focus (assumption)); (focus (decide +kernel)); exact rfl)) | (with_reducible refine AWo.nil ?_) | ((with_reducible apply AW.seq)) | ((with_reducible apply Then.n)) | ((with_reducible apply AW.regL)) | ((with_reducible apply AW.block))))
  refine AW.pad [(3, .slice none 0 0), (6, v), (7, .int .i64 (j.length : Nat)), (8, .int .i64 ((0 : Nat) : Int))] (by repeat (first | exact trivial | (refine And.intro ⟨rfl, by (first | exact .int _ _ | exact Ren.of_g0 rfl | exact Ren.of_sl (by assumption) (by first | omega | (simp; omega)))⟩ ?_))) CellsP.nil ?_
  refine AW.loopW (fun n' t m' => ∃ (k : Nat) (M N : AM) (c : List Value), n' = j.length - k ∧ k ≤ j.length ∧ k ≤ 42 ∧ M = m ++ N ∧ JCells M c ((j.take k).map cvJ) ∧ m' = M ++ [gb c 4] ∧
    t = fr [(3, gv (M.length + 0) k), (6, v), (7, .int .i64 (j.length : Nat)), (8, .int .i64 (k : Nat))]) ⟨_, _, (by repeat (first | exact trivial | (refine And.intro rfl ?_))), 0, m, [], [], rfl, Nat.zero_le _, Nat.zero_le _, by simp, JCells.nil m, rfl, rfl⟩ ?_
  rintro n' t m' ⟨k, M, N, c, rfl, hk, hk2, hM, hc, rfl, rfl⟩
  have hlk : ((j.take k).map cvJ).length = k := by simp; omega
  have fin : (k = j.length ∨ k = 42) → Jobs (M ++ [gb c 4]) (gv (M.length + 0) k) (convJ j) := fun h => by
    have e : (j.take k).map cvJ = convJ j := by
      unfold convJ
      rcases h with h | h
      · rw [List.take_of_length_le (show j.length ≤ k by omega), List.take_of_length_le (show j.length ≤ 42 by omega)]
      · rw [h]
    have := hc.jobs
    rwa [hlk, e] at this
  rcases Nat.lt_or_ge k j.length with hlt | hge
  · obtain ⟨w, hr, hw⟩ := h3 k hlt
    have hal := s2 k hlt
    have hr' : RdL M a (o + k * 4) ((j.getD k default).cells w) := by rw [hM]; exact hr.old N
    have hw' : Ints M w (j.getD k default).after := by rw [hM]; exact hw.old N
    have ha' : a < M.length := by rw [hM]; simp; omega
    have cs := conv_snoc hlt
    have hcl := hc.1
    rw [hlk] at hcl
    have snoc := fun (L : AM) (u : Value) (hu : Ints (M ++ L) u (cvJ (j.getD k default)).after) => hc.snoc hu
    rw [← cs] at snoc
    obtain ⟨wa, wo, w1, w2, w3⟩ := id hw'
    have hone := w1.one
    simp only [cvJ, Job.cells] at *
    generalize j.getD k default = x at *
    obtain ⟨x1, x2, x3, l⟩ := x
    simp only at *
    have hw1 := job_one (x := x1) (y := x2) (z := x3) hone
    by_cases hk3 : (41 : Int) < (k : Int)
    · (repeat (first | (with_reducible refine AWo.cons ?_) | ((with_reducible refine Step.id ?_); first | ((with_reducible apply Step.move); exact rfl; exact rfl) | ((with_reducible apply Step.assign); exact rfl; exact rfl) | ((with_reducible apply Step.loadL (n := 4)); exact rfl; (focus (decide +kernel)); (focus (decide +kernel)); exact rfl; (focus (exact RdL.old _ (by assumption))); exact rfl; exact rfl) | ((with_reducible apply Step.ix (s := 4)); exact rfl; (focus (assumption)); exact rfl; (focus (decide +kernel)); exact rfl; (focus (omega))) | ((with_reducible apply Step.lss); exact rfl; exact rfl; exact rfl) | ((with_reducible apply Step.gtr); exact rfl; exact rfl; exact rfl) | ((with_reducible apply Step.alloc 1); exact rfl; exact ze60; exact rfl; (focus (first | (simp only [List.nil_append, List.cons_append, List.set_cons_zero, List.set_cons_succ, iv_set, bv_set, iv_rep, bv_rep]; done) | (simp only [List.nil_append, List.cons_append, List.set_cons_zero, List.set_cons_succ, iv_set, bv_set, iv_rep, bv_rep]; rfl) | rfl))) | ((with_reducible apply Step.storeA (k := 1) (n := 4)); exact rfl; exact rfl; exact rfl; exact rfl; (focus (decide +kernel)); exact rfl; (focus (first | assumption | exact hw1)); exact rfl; (focus (first | (simp only [List.nil_append, List.cons_append, List.set_cons_zero, List.set_cons_succ, iv_set, bv_set, iv_rep, bv_rep]; done) | (simp only [List.nil_append, List.cons_append, List.set_cons_zero, List.set_cons_succ, iv_set, bv_set, iv_rep, bv_rep]; rfl) | rfl)))) | (with_reducible refine AWo.nil ?_) | ((with_reducible apply AW.seq)) | ((with_reducible apply Then.n)) | ((with_reducible apply AW.regL)) | ((with_reducible apply AW.block)) | ((with_reducible apply AW.exit)) | ((with_reducible apply InBlk.hit)) | ((with_reducible apply InBlk.miss); exact rfl) | ((with_reducible apply Then.e)) | ((with_reducible apply AW.skip)) | ((with_reducible apply AW.condT); exact rfl; (focus ((simp only [decide_eq_true_eq, decide_eq_false_iff_not, Bool.not_eq_true', Bool.not_eq_false', Bool.not_true, Bool.not_false]; first | assumption | omega))))))
      (refine AW.ret ?_; (repeat (first | refine Then.r ?_ | refine InBlk.r ?_)))
      exact ⟨_, rfl, N ++ [gb c 4, some { cells := [.int .i64 x1, .int .i64 x2, .int .i64 x3, w] }], by rw [hM, List.append_assoc]; rfl, by
        have := (fin (.inr (by omega))).old [some { cells := [.int .i64 x1, .int .i64 x2, .int .i64 x3, w] }]
        rwa [List.append_assoc] at this⟩
    · (repeat (first | (with_reducible refine AWo.cons ?_) | ((with_reducible refine Step.id ?_); first | ((with_reducible apply Step.move); exact rfl; exact rfl) | ((with_reducible apply Step.assign); exact rfl; exact rfl) | ((with_reducible apply Step.loadL (n := 4)); exact rfl; (focus (decide +kernel)); (focus (decide +kernel)); exact rfl; (focus (exact RdL.old _ (by assumption))); exact rfl; exact rfl) | ((with_reducible apply Step.ix (s := 4)); exact rfl; (focus (assumption)); exact rfl; (focus (decide +kernel)); exact rfl; (focus (omega))) | ((with_reducible apply Step.lss); exact rfl; exact rfl; exact rfl) | ((with_reducible apply Step.gtr); exact rfl; exact rfl; exact rfl) | ((with_reducible apply Step.alloc 1); exact rfl; exact ze60; exact rfl; (focus (first | (simp only [List.nil_append, List.cons_append, List.set_cons_zero, List.set_cons_succ, iv_set, bv_set, iv_rep, bv_rep]; done) | (simp only [List.nil_append, List.cons_append, List.set_cons_zero, List.set_cons_succ, iv_set, bv_set, iv_rep, bv_rep]; rfl) | rfl))) | ((with_reducible apply Step.storeA (k := 1) (n := 4)); exact rfl; exact rfl; exact rfl; exact rfl; (focus (decide +kernel)); exact rfl; (focus (first | assumption | exact hw1)); exact rfl; (focus (first | (simp only [List.nil_append, List.cons_append, List.set_cons_zero, List.set_cons_succ, iv_set, bv_set, iv_rep, bv_rep]; done) | (simp only [List.nil_append, List.cons_append, List.set_cons_zero, List.set_cons_succ, iv_set, bv_set, iv_rep, bv_rep]; rfl) | rfl)))) | (with_reducible refine AWo.nil ?_) | ((with_reducible apply AW.seq)) | ((with_reducible apply Then.n)) | ((fail_if_success (with_reducible refine AW.atL (id := 6) ?_)); ((with_reducible apply AW.regL))) | ((with_reducible apply AW.block)) | ((with_reducible apply AW.skip)) | ((with_reducible apply AW.condT); exact rfl; (focus ((simp only [decide_eq_true_eq, decide_eq_false_iff_not, Bool.not_eq_true', Bool.not_eq_false', Bool.not_true, Bool.not_false]; first | assumption | omega)))) | ((with_reducible apply AW.condF); exact rfl; (focus ((simp only [decide_eq_true_eq, decide_eq_false_iff_not, Bool.not_eq_true', Bool.not_eq_false', Bool.not_true, Bool.not_false]; first | assumption | omega))))))
      have e60 : min ((l.length : Nat) : Int) 60 = ((min l.length 60 : Nat) : Int) := by omega
      have hmn : min l.length 60 ≤ l.length := Nat.min_le_left _ _
      rcases w1 with ⟨rfl, hn⟩ | ⟨cp, hcp, rfl⟩ | ⟨hn, so, sk, rfl⟩
      · obtain rfl : l = [] := List.eq_nil_of_length_eq_zero hn
        have e0 : min ((0 : Nat) : Int) 60 = ((0 : Nat) : Int) := rfl
        refine AW.via [(3, .slice (some ⟨M.length + 3, 0, none⟩) (k + 1) (k + 1)), (6, v), (7, .int .i64 (j.length : Nat)), (8, .int .i64 (k : Nat))] (M ++ [none, some { cells := [.int .i64 x1, .int .i64 x2, .int .i64 x3, .slice none 0 0] }, some { cells := [.int .i64 x1, .int .i64 x2, .int .i64 x3, .slice none 0 0] }, some { cells := c ++ [.int .i64 x1, .int .i64 x2, .int .i64 x3, .slice none 0 0], kind := .grow, size := 4 }]) ?_ ?_
        · (repeat' (first | ((with_reducible refine Step.id ?_); first | ((with_reducible apply Step.move); exact rfl; exact rfl) | ((with_reducible apply Step.load); exact rfl; (focus (decide +kernel)); exact rfl; (focus (exact Rd.new rfl rfl))) | ((with_reducible apply Step.field0); exact rfl; (focus (decide +kernel)); exact rfl) | ((with_reducible apply Step.field (k := 1)); exact rfl; (focus (decide +kernel)); exact rfl) | ((with_reducible apply Step.field (k := 2)); exact rfl; (focus (decide +kernel)); exact rfl) | ((with_reducible apply Step.field (k := 3)); exact rfl; (focus (decide +kernel)); exact rfl) | ((with_reducible apply Step.slToNil); exact rfl; exact rfl; (focus (assumption)); exact un23; exact sz3; exact rfl) | ((with_reducible apply Step.len); exact rfl; (focus (exact Sl.nil 0 0)); (focus (decide +kernel)); exact rfl) | ((with_reducible apply Step.min); exact rfl; exact rfl; exact rfl) | ((with_reducible apply Step.callR fit); exact rfl; exact Try.func77; exact rfl; exact rfl; exact (clone_nil)) | ((with_reducible apply Step.buildS 2); exact rfl; exact rfl; exact (fun _ _ => bs51); exact rfl; (focus (first | (simp only [List.nil_append, List.cons_append, List.set_cons_zero, List.set_cons_succ, iv_set, bv_set, iv_rep, bv_rep]; done) | (simp only [List.nil_append, List.cons_append, List.set_cons_zero, List.set_cons_succ, iv_set, bv_set, iv_rep, bv_rep]; rfl) | rfl))) | ((with_reducible apply Step.build); exact rfl; exact bl87; exact rfl)) | ((with_reducible apply AW.drawT fit (T := (.step 0 (.step 1 (.step 3 (.step 5 (.step 7 (.step 8 (.step 9 (.step 10 (.step 11 (.step 12 (.step 13 (.both (.step 2 (.both (.step 4 (.both (.step 6 (.step 14 (.step 15 (.step 16 (.step 17 (.step 18 .done)))))) (.step 14 (.step 6 (.step 15 (.step 16 (.step 17 (.step 18 .done)))))))) (.both (.step 6 (.both (.step 4 (.step 14 (.step 15 (.step 16 (.step 17 (.step 18 .done)))))) (.step 14 (.step 4 (.step 15 (.step 16 (.step 17 (.step 18 .done)))))))) (.step 14 (.step 4 (.step 6 (.step 15 (.step 16 (.step 17 (.step 18 .done)))))))))) (.both (.step 4 (.both (.step 2 (.both (.step 6 (.step 14 (.step 15 (.step 16 (.step 17 (.step 18 .done)))))) (.step 14 (.step 6 (.step 15 (.step 16 (.step 17 (.step 18 .done)))))))) (.both (.step 6 (.both (.step 2 (.step 14 (.step 15 (.step 16 (.step 17 (.step 18 .done)))))) (.step 14 (.step 2 (.step 15 (.step 16 (.step 17 (.step 18 .done)))))))) (.step 14 (.step 2 (.step 6 (.step 15 (.step 16 (.step 17 (.step 18 .done)))))))))) (.both (.step 6 (.both (.step 2 (.both (.step 4 (.step 14 (.step 15 (.step 16 (.step 17 (.step 18 .done)))))) (.step 14 (.step 4 (.step 15 (.step 16 (.step 17 (.step 18 .done)))))))) (.both (.step 4 (.both (.step 2 (.step 14 (.step 15 (.step 16 (.step 17 (.step 18 .done)))))) (.step 14 (.step 2 (.step 15 (.step 16 (.step 17 (.step 18 .done)))))))) (.step 14 (.step 2 (.step 4 (.step 15 (.step 16 (.step 17 (.step 18 .done)))))))))) (.step 14 (.step 2 (.step 4 (.step 6 (.step 15 (.step 16 (.step 17 (.step 18 .done)))))))))))))))))))))))); (focus (decide +kernel))) | ((with_reducible apply AWt.step); exact rfl) | refine AWt.both ?_ ?_))
          all_goals ((with_reducible apply Step.appG (k := 3)); exact rfl; exact rfl; exact rfl; exact el51; exact un51; exact rfl; exact rfl; exact rfl; exact hcl; exact rfl; exact rfl; exact rfl; (focus (omega)); exact rfl; (focus (first | (simp only [List.nil_append, List.cons_append, List.set_cons_zero, List.set_cons_succ, iv_set, bv_set, iv_rep, bv_rep]; done) | (simp only [List.nil_append, List.cons_append, List.set_cons_zero, List.set_cons_succ, iv_set, bv_set, iv_rep, bv_rep]; rfl) | rfl)))
          all_goals (repeat' (first | ((with_reducible refine Step.id ?_); ((with_reducible apply Step.assign); exact rfl; exact rfl)) | ((with_reducible apply AWt.step); exact rfl) | ((with_reducible apply AWt.done))))
          all_goals exact ⟨rfl, rfl, (by repeat (first | exact trivial | (refine And.intro rfl ?_)))⟩
        intro t' ht'
        refine InBlk.n ?_
        refine Then.n ?_
        refine AW.weak ht' ?_
        (repeat (first | (with_reducible refine AWo.cons ?_) | ((with_reducible refine Step.id ?_); first | ((with_reducible apply Step.move); exact rfl; exact rfl) | ((with_reducible apply Step.add); exact rfl; exact rfl; (focus (omega)); exact rfl)) | (with_reducible refine AWo.nil ?_) | ((with_reducible apply Then.n)) | ((with_reducible apply AW.regL))))
        refine ⟨_, [(3, .slice (some ⟨M.length + 3, 0, none⟩) (k + 1) (k + 1)), (6, v), (7, .int .i64 (j.length : Nat)), (8, .int .i64 (k + 1 : Nat))], ?_, (by repeat (first | exact trivial | (refine And.intro rfl ?_))), k + 1, M ++ [none, some { cells := [.int .i64 x1, .int .i64 x2, .int .i64 x3, .slice none 0 0] }, some { cells := [.int .i64 x1, .int .i64 x2, .int .i64 x3, .slice none 0 0] }], N ++ [none, some { cells := [.int .i64 x1, .int .i64 x2, .int .i64 x3, .slice none 0 0] }, some { cells := [.int .i64 x1, .int .i64 x2, .int .i64 x3, .slice none 0 0] }], c ++ [.int .i64 x1, .int .i64 x2, .int .i64 x3, .slice none 0 0], rfl, hlt, by omega, by rw [hM, List.append_assoc], snoc _ _ (ints_nil (by simp)), ?_, ?_⟩
        · omega
        · rw [gb_pos (by simp), List.append_assoc]; rfl
        · rw [gv_pos (by omega)]; simp
      · have hl1 : ∀ h, h ≤ cp → Sl (.slice (some ⟨wa, wo, none⟩) h cp) wa wo h := fun h hh => Sl.mk hh
        by_cases hl0 : l.length = 0
        · obtain rfl : l = [] := List.eq_nil_of_length_eq_zero hl0
          have e0 : min ((0 : Nat) : Int) 60 = ((0 : Nat) : Int) := rfl
          have hsl : Sl (.slice (some ⟨wa, wo, none⟩) 0 cp) wa wo 0 := Sl.mk hcp
          simp only [List.length_nil] at *
          refine AW.via [(3, .slice (some ⟨M.length + 4, 0, none⟩) (k + 1) (k + 1)), (6, v), (7, .int .i64 (j.length : Nat)), (8, .int .i64 (k : Nat))] (M ++ [none, some { cells := [.int .i64 x1, .int .i64 x2, .int .i64 x3, .slice (some ⟨wa, wo, none⟩) 0 cp] }, some { cells := [] }, some { cells := [.int .i64 x1, .int .i64 x2, .int .i64 x3, .slice (some ⟨M.length + 2, 0, none⟩) 0 0] }, some { cells := c ++ [.int .i64 x1, .int .i64 x2, .int .i64 x3, .slice (some ⟨M.length + 2, 0, none⟩) 0 0], kind := .grow, size := 4 }]) ?_ ?_
          · (repeat' (first | ((with_reducible refine Step.id ?_); first | ((with_reducible apply Step.move); exact rfl; exact rfl) | ((with_reducible apply Step.load); exact rfl; (focus (decide +kernel)); exact rfl; (focus (exact Rd.new rfl rfl))) | ((with_reducible apply Step.field0); exact rfl; (focus (decide +kernel)); exact rfl) | ((with_reducible apply Step.field (k := 1)); exact rfl; (focus (decide +kernel)); exact rfl) | ((with_reducible apply Step.field (k := 2)); exact rfl; (focus (decide +kernel)); exact rfl) | ((with_reducible apply Step.field (k := 3)); exact rfl; (focus (decide +kernel)); exact rfl) | ((with_reducible apply Step.slTo); exact rfl; exact rfl; (focus (assumption)); (focus (omega)); exact un23; exact sz3; exact rfl) | ((with_reducible apply Step.len); exact rfl; (focus (assumption)); (focus (decide +kernel)); exact rfl) | ((with_reducible apply Step.min); exact rfl; exact rfl; exact rfl) | ((with_reducible apply Step.callN fit (k := 2)); exact rfl; exact rfl; exact Try.func77; exact rfl; exact rfl; exact (clone_empty hsl); (focus (first | (simp only [List.nil_append, List.cons_append, List.set_cons_zero, List.set_cons_succ, iv_set, bv_set, iv_rep, bv_rep]; done) | (simp only [List.nil_append, List.cons_append, List.set_cons_zero, List.set_cons_succ, iv_set, bv_set, iv_rep, bv_rep]; rfl) | rfl))) | ((with_reducible apply Step.buildS 3); exact rfl; exact rfl; exact (fun _ _ => bs51); exact rfl; (focus (first | (simp only [List.nil_append, List.cons_append, List.set_cons_zero, List.set_cons_succ, iv_set, bv_set, iv_rep, bv_rep]; done) | (simp only [List.nil_append, List.cons_append, List.set_cons_zero, List.set_cons_succ, iv_set, bv_set, iv_rep, bv_rep]; rfl) | rfl))) | ((with_reducible apply Step.build); exact rfl; exact bl87; exact rfl)) | ((with_reducible apply AW.drawT fit (T := (.step 0 (.step 1 (.step 3 (.step 5 (.step 7 (.step 8 (.step 9 (.step 10 (.step 11 (.step 12 (.step 13 (.both (.step 2 (.both (.step 4 (.both (.step 6 (.step 14 (.step 15 (.step 16 (.step 17 (.step 18 .done)))))) (.step 14 (.step 6 (.step 15 (.step 16 (.step 17 (.step 18 .done)))))))) (.both (.step 6 (.both (.step 4 (.step 14 (.step 15 (.step 16 (.step 17 (.step 18 .done)))))) (.step 14 (.step 4 (.step 15 (.step 16 (.step 17 (.step 18 .done)))))))) (.step 14 (.step 4 (.step 6 (.step 15 (.step 16 (.step 17 (.step 18 .done)))))))))) (.both (.step 4 (.both (.step 2 (.both (.step 6 (.step 14 (.step 15 (.step 16 (.step 17 (.step 18 .done)))))) (.step 14 (.step 6 (.step 15 (.step 16 (.step 17 (.step 18 .done)))))))) (.both (.step 6 (.both (.step 2 (.step 14 (.step 15 (.step 16 (.step 17 (.step 18 .done)))))) (.step 14 (.step 2 (.step 15 (.step 16 (.step 17 (.step 18 .done)))))))) (.step 14 (.step 2 (.step 6 (.step 15 (.step 16 (.step 17 (.step 18 .done)))))))))) (.both (.step 6 (.both (.step 2 (.both (.step 4 (.step 14 (.step 15 (.step 16 (.step 17 (.step 18 .done)))))) (.step 14 (.step 4 (.step 15 (.step 16 (.step 17 (.step 18 .done)))))))) (.both (.step 4 (.both (.step 2 (.step 14 (.step 15 (.step 16 (.step 17 (.step 18 .done)))))) (.step 14 (.step 2 (.step 15 (.step 16 (.step 17 (.step 18 .done)))))))) (.step 14 (.step 2 (.step 4 (.step 15 (.step 16 (.step 17 (.step 18 .done)))))))))) (.step 14 (.step 2 (.step 4 (.step 6 (.step 15 (.step 16 (.step 17 (.step 18 .done)))))))))))))))))))))))); (focus (decide +kernel))) | ((with_reducible apply AWt.step); exact rfl) | refine AWt.both ?_ ?_))
            all_goals ((with_reducible apply Step.appG (k := 4)); exact rfl; exact rfl; exact rfl; exact el51; exact un51; exact rfl; exact rfl; exact rfl; exact hcl; exact rfl; exact rfl; exact rfl; (focus (omega)); exact rfl; (focus (first | (simp only [List.nil_append, List.cons_append, List.set_cons_zero, List.set_cons_succ, iv_set, bv_set, iv_rep, bv_rep]; done) | (simp only [List.nil_append, List.cons_append, List.set_cons_zero, List.set_cons_succ, iv_set, bv_set, iv_rep, bv_rep]; rfl) | rfl)))
            all_goals (repeat' (first | ((with_reducible refine Step.id ?_); ((with_reducible apply Step.assign); exact rfl; exact rfl)) | ((with_reducible apply AWt.step); exact rfl) | ((with_reducible apply AWt.done))))
            all_goals exact ⟨rfl, rfl, (by repeat (first | exact trivial | (refine And.intro rfl ?_)))⟩
          intro t' ht'
          refine InBlk.n ?_
          refine Then.n ?_
          refine AW.weak ht' ?_
          (repeat (first | (with_reducible refine AWo.cons ?_) | ((with_reducible refine Step.id ?_); first | ((with_reducible apply Step.move); exact rfl; exact rfl) | ((with_reducible apply Step.add); exact rfl; exact rfl; (focus (omega)); exact rfl)) | (with_reducible refine AWo.nil ?_) | ((with_reducible apply Then.n)) | ((with_reducible apply AW.regL))))
          refine ⟨_, [(3, .slice (some ⟨M.length + 4, 0, none⟩) (k + 1) (k + 1)), (6, v), (7, .int .i64 (j.length : Nat)), (8, .int .i64 (k + 1 : Nat))], ?_, (by repeat (first | exact trivial | (refine And.intro rfl ?_))), k + 1, M ++ [none, some { cells := [.int .i64 x1, .int .i64 x2, .int .i64 x3, .slice (some ⟨wa, wo, none⟩) 0 cp] }, some { cells := [] }, some { cells := [.int .i64 x1, .int .i64 x2, .int .i64 x3, .slice (some ⟨M.length + 2, 0, none⟩) 0 0] }], N ++ [none, some { cells := [.int .i64 x1, .int .i64 x2, .int .i64 x3, .slice (some ⟨wa, wo, none⟩) 0 cp] }, some { cells := [] }, some { cells := [.int .i64 x1, .int .i64 x2, .int .i64 x3, .slice (some ⟨M.length + 2, 0, none⟩) 0 0] }], c ++ [.int .i64 x1, .int .i64 x2, .int .i64 x3, .slice (some ⟨M.length + 2, 0, none⟩) 0 0], rfl, hlt, by omega, by rw [hM, List.append_assoc], snoc _ _ (ints_new (k := 2) rfl rfl 0 rfl), ?_, ?_⟩
          · omega
          · rw [gb_pos (by simp), List.append_assoc]; rfl
          · rw [gv_pos (by omega)]; simp
        · have hsl : Sl (.slice (some ⟨wa, wo, none⟩) l.length cp) wa wo l.length := Sl.mk hcp
          have hcm : min l.length 60 ≤ cp := by omega
          have lt60 : (l.take 60).length = min l.length 60 := by rw [List.length_take, Nat.min_comm]
          have hin : ∀ L, Ints (M ++ L) (.slice (some ⟨wa, wo, none⟩) (min l.length 60) cp) (l.take 60) := fun L => by
            refine ⟨wa, wo, by rw [lt60]; exact Sl.mk hcm, by simp; omega, fun q hq => ?_⟩
            have := (w3 q (by omega)).old L
            rw [lt60] at hq
            rw [List.getD_eq_getElem?_getD, List.getElem?_take, if_pos (by omega), ← List.getD_eq_getElem?_getD]
            exact this
          have cl := fun L => clone_pos (hin L) (by omega) (by omega)
          rw [lt60] at cl
          refine AW.via [(3, .slice (some ⟨M.length + 4, 0, none⟩) (k + 1) (k + 1)), (6, v), (7, .int .i64 (j.length : Nat)), (8, .int .i64 (k : Nat))] (M ++ [none, some { cells := [.int .i64 x1, .int .i64 x2, .int .i64 x3, .slice (some ⟨wa, wo, none⟩) l.length cp] }, some { cells := iv (l.take 60), kind := .grow, size := 1 }, some { cells := [.int .i64 x1, .int .i64 x2, .int .i64 x3, .slice (some ⟨M.length + 2, 0, none⟩) (min l.length 60) (min l.length 60)] }, some { cells := c ++ [.int .i64 x1, .int .i64 x2, .int .i64 x3, .slice (some ⟨M.length + 2, 0, none⟩) (min l.length 60) (min l.length 60)], kind := .grow, size := 4 }]) ?_ ?_
          · (repeat' (first | ((with_reducible refine Step.id ?_); first | ((with_reducible apply Step.move); exact rfl; exact rfl) | ((with_reducible apply Step.load); exact rfl; (focus (decide +kernel)); exact rfl; (focus (exact Rd.new rfl rfl))) | ((with_reducible apply Step.field0); exact rfl; (focus (decide +kernel)); exact rfl) | ((with_reducible apply Step.field (k := 1)); exact rfl; (focus (decide +kernel)); exact rfl) | ((with_reducible apply Step.field (k := 2)); exact rfl; (focus (decide +kernel)); exact rfl) | ((with_reducible apply Step.field (k := 3)); exact rfl; (focus (decide +kernel)); exact rfl) | ((with_reducible apply Step.slTo); exact rfl; exact rfl; (focus (assumption)); (focus (omega)); exact un23; exact sz3; exact rfl) | ((with_reducible apply Step.len); exact rfl; (focus (assumption)); (focus (decide +kernel)); exact rfl) | ((with_reducible apply Step.min); exact rfl; exact rfl; exact rfl) | ((with_reducible apply Step.callN fit (k := 2)); exact rfl; exact rfl; exact Try.func77; exact rfl; exact rfl; exact (cl _); (focus (first | (simp only [List.nil_append, List.cons_append, List.set_cons_zero, List.set_cons_succ, iv_set, bv_set, iv_rep, bv_rep]; done) | (simp only [List.nil_append, List.cons_append, List.set_cons_zero, List.set_cons_succ, iv_set, bv_set, iv_rep, bv_rep]; rfl) | rfl))) | ((with_reducible apply Step.buildS 3); exact rfl; exact rfl; exact (fun _ _ => bs51); exact rfl; (focus (first | (simp only [List.nil_append, List.cons_append, List.set_cons_zero, List.set_cons_succ, iv_set, bv_set, iv_rep, bv_rep]; done) | (simp only [List.nil_append, List.cons_append, List.set_cons_zero, List.set_cons_succ, iv_set, bv_set, iv_rep, bv_rep]; rfl) | rfl))) | ((with_reducible apply Step.build); exact rfl; exact bl87; exact rfl)) | ((with_reducible apply AW.drawT fit (T := (.step 0 (.step 1 (.step 3 (.step 5 (.step 7 (.step 8 (.step 9 (.step 10 (.step 11 (.step 12 (.step 13 (.both (.step 2 (.both (.step 4 (.both (.step 6 (.step 14 (.step 15 (.step 16 (.step 17 (.step 18 .done)))))) (.step 14 (.step 6 (.step 15 (.step 16 (.step 17 (.step 18 .done)))))))) (.both (.step 6 (.both (.step 4 (.step 14 (.step 15 (.step 16 (.step 17 (.step 18 .done)))))) (.step 14 (.step 4 (.step 15 (.step 16 (.step 17 (.step 18 .done)))))))) (.step 14 (.step 4 (.step 6 (.step 15 (.step 16 (.step 17 (.step 18 .done)))))))))) (.both (.step 4 (.both (.step 2 (.both (.step 6 (.step 14 (.step 15 (.step 16 (.step 17 (.step 18 .done)))))) (.step 14 (.step 6 (.step 15 (.step 16 (.step 17 (.step 18 .done)))))))) (.both (.step 6 (.both (.step 2 (.step 14 (.step 15 (.step 16 (.step 17 (.step 18 .done)))))) (.step 14 (.step 2 (.step 15 (.step 16 (.step 17 (.step 18 .done)))))))) (.step 14 (.step 2 (.step 6 (.step 15 (.step 16 (.step 17 (.step 18 .done)))))))))) (.both (.step 6 (.both (.step 2 (.both (.step 4 (.step 14 (.step 15 (.step 16 (.step 17 (.step 18 .done)))))) (.step 14 (.step 4 (.step 15 (.step 16 (.step 17 (.step 18 .done)))))))) (.both (.step 4 (.both (.step 2 (.step 14 (.step 15 (.step 16 (.step 17 (.step 18 .done)))))) (.step 14 (.step 2 (.step 15 (.step 16 (.step 17 (.step 18 .done)))))))) (.step 14 (.step 2 (.step 4 (.step 15 (.step 16 (.step 17 (.step 18 .done)))))))))) (.step 14 (.step 2 (.step 4 (.step 6 (.step 15 (.step 16 (.step 17 (.step 18 .done)))))))))))))))))))))))); (focus (decide +kernel))) | ((with_reducible apply AWt.step); exact rfl) | refine AWt.both ?_ ?_))
            all_goals ((with_reducible apply Step.appG (k := 4)); exact rfl; exact rfl; exact rfl; exact el51; exact un51; exact rfl; exact rfl; exact rfl; exact hcl; exact rfl; exact rfl; exact rfl; (focus (omega)); exact rfl; (focus (first | (simp only [List.nil_append, List.cons_append, List.set_cons_zero, List.set_cons_succ, iv_set, bv_set, iv_rep, bv_rep]; done) | (simp only [List.nil_append, List.cons_append, List.set_cons_zero, List.set_cons_succ, iv_set, bv_set, iv_rep, bv_rep]; rfl) | rfl)))
            all_goals (repeat' (first | ((with_reducible refine Step.id ?_); ((with_reducible apply Step.assign); exact rfl; exact rfl)) | ((with_reducible apply AWt.step); exact rfl) | ((with_reducible apply AWt.done))))
            all_goals exact ⟨rfl, rfl, (by repeat (first | exact trivial | (refine And.intro rfl ?_)))⟩
          intro t' ht'
          refine InBlk.n ?_
          refine Then.n ?_
          refine AW.weak ht' ?_
          (repeat (first | (with_reducible refine AWo.cons ?_) | ((with_reducible refine Step.id ?_); first | ((with_reducible apply Step.move); exact rfl; exact rfl) | ((with_reducible apply Step.add); exact rfl; exact rfl; (focus (omega)); exact rfl)) | (with_reducible refine AWo.nil ?_) | ((with_reducible apply Then.n)) | ((with_reducible apply AW.regL))))
          refine ⟨_, [(3, .slice (some ⟨M.length + 4, 0, none⟩) (k + 1) (k + 1)), (6, v), (7, .int .i64 (j.length : Nat)), (8, .int .i64 (k + 1 : Nat))], ?_, (by repeat (first | exact trivial | (refine And.intro rfl ?_))), k + 1, M ++ [none, some { cells := [.int .i64 x1, .int .i64 x2, .int .i64 x3, .slice (some ⟨wa, wo, none⟩) l.length cp] }, some { cells := iv (l.take 60), kind := .grow, size := 1 }, some { cells := [.int .i64 x1, .int .i64 x2, .int .i64 x3, .slice (some ⟨M.length + 2, 0, none⟩) (min l.length 60) (min l.length 60)] }], N ++ [none, some { cells := [.int .i64 x1, .int .i64 x2, .int .i64 x3, .slice (some ⟨wa, wo, none⟩) l.length cp] }, some { cells := iv (l.take 60), kind := .grow, size := 1 }, some { cells := [.int .i64 x1, .int .i64 x2, .int .i64 x3, .slice (some ⟨M.length + 2, 0, none⟩) (min l.length 60) (min l.length 60)] }], c ++ [.int .i64 x1, .int .i64 x2, .int .i64 x3, .slice (some ⟨M.length + 2, 0, none⟩) (min l.length 60) (min l.length 60)], rfl, hlt, by omega, by rw [hM, List.append_assoc], snoc _ _ (ints_new (k := 2) rfl rfl _ lt60.symm), ?_, ?_⟩
          · omega
          · rw [gb_pos (by simp), List.append_assoc]; rfl
          · rw [gv_pos (by omega)]; simp
      · skip
        obtain rfl : l = [] := List.eq_nil_of_length_eq_zero hn
        have e0 : min ((0 : Nat) : Int) 60 = ((0 : Nat) : Int) := rfl
        have hsl : Sl (.slice (some ⟨wa, so, some sk⟩) 0 0) wa wo 0 := .inr (.inr ⟨rfl, so, sk, rfl⟩)
        simp only [List.length_nil] at *
        refine AW.via [(3, .slice (some ⟨M.length + 4, 0, none⟩) (k + 1) (k + 1)), (6, v), (7, .int .i64 (j.length : Nat)), (8, .int .i64 (k : Nat))] (M ++ [none, some { cells := [.int .i64 x1, .int .i64 x2, .int .i64 x3, .slice (some ⟨wa, so, some sk⟩) 0 0] }, some { cells := [] }, some { cells := [.int .i64 x1, .int .i64 x2, .int .i64 x3, .slice (some ⟨M.length + 2, 0, none⟩) 0 0] }, some { cells := c ++ [.int .i64 x1, .int .i64 x2, .int .i64 x3, .slice (some ⟨M.length + 2, 0, none⟩) 0 0], kind := .grow, size := 4 }]) ?_ ?_
        · (repeat' (first | ((with_reducible refine Step.id ?_); first | ((with_reducible apply Step.move); exact rfl; exact rfl) | ((with_reducible apply Step.load); exact rfl; (focus (decide +kernel)); exact rfl; (focus (exact Rd.new rfl rfl))) | ((with_reducible apply Step.field0); exact rfl; (focus (decide +kernel)); exact rfl) | ((with_reducible apply Step.field (k := 1)); exact rfl; (focus (decide +kernel)); exact rfl) | ((with_reducible apply Step.field (k := 2)); exact rfl; (focus (decide +kernel)); exact rfl) | ((with_reducible apply Step.field (k := 3)); exact rfl; (focus (decide +kernel)); exact rfl) | ((with_reducible apply Step.slToSpot); exact rfl; exact rfl; (focus (assumption)); exact un23; exact sz3; exact rfl) | ((with_reducible apply Step.len); exact rfl; (focus (assumption)); (focus (decide +kernel)); exact rfl) | ((with_reducible apply Step.min); exact rfl; exact rfl; exact rfl) | ((with_reducible apply Step.callN fit (k := 2)); exact rfl; exact rfl; exact Try.func77; exact rfl; exact rfl; exact (clone_empty hsl); (focus (first | (simp only [List.nil_append, List.cons_append, List.set_cons_zero, List.set_cons_succ, iv_set, bv_set, iv_rep, bv_rep]; done) | (simp only [List.nil_append, List.cons_append, List.set_cons_zero, List.set_cons_succ, iv_set, bv_set, iv_rep, bv_rep]; rfl) | rfl))) | ((with_reducible apply Step.buildS 3); exact rfl; exact rfl; exact (fun _ _ => bs51); exact rfl; (focus (first | (simp only [List.nil_append, List.cons_append, List.set_cons_zero, List.set_cons_succ, iv_set, bv_set, iv_rep, bv_rep]; done) | (simp only [List.nil_append, List.cons_append, List.set_cons_zero, List.set_cons_succ, iv_set, bv_set, iv_rep, bv_rep]; rfl) | rfl))) | ((with_reducible apply Step.build); exact rfl; exact bl87; exact rfl)) | ((with_reducible apply AW.drawT fit (T := (.step 0 (.step 1 (.step 3 (.step 5 (.step 7 (.step 8 (.step 9 (.step 10 (.step 11 (.step 12 (.step 13 (.both (.step 2 (.both (.step 4 (.both (.step 6 (.step 14 (.step 15 (.step 16 (.step 17 (.step 18 .done)))))) (.step 14 (.step 6 (.step 15 (.step 16 (.step 17 (.step 18 .done)))))))) (.both (.step 6 (.both (.step 4 (.step 14 (.step 15 (.step 16 (.step 17 (.step 18 .done)))))) (.step 14 (.step 4 (.step 15 (.step 16 (.step 17 (.step 18 .done)))))))) (.step 14 (.step 4 (.step 6 (.step 15 (.step 16 (.step 17 (.step 18 .done)))))))))) (.both (.step 4 (.both (.step 2 (.both (.step 6 (.step 14 (.step 15 (.step 16 (.step 17 (.step 18 .done)))))) (.step 14 (.step 6 (.step 15 (.step 16 (.step 17 (.step 18 .done)))))))) (.both (.step 6 (.both (.step 2 (.step 14 (.step 15 (.step 16 (.step 17 (.step 18 .done)))))) (.step 14 (.step 2 (.step 15 (.step 16 (.step 17 (.step 18 .done)))))))) (.step 14 (.step 2 (.step 6 (.step 15 (.step 16 (.step 17 (.step 18 .done)))))))))) (.both (.step 6 (.both (.step 2 (.both (.step 4 (.step 14 (.step 15 (.step 16 (.step 17 (.step 18 .done)))))) (.step 14 (.step 4 (.step 15 (.step 16 (.step 17 (.step 18 .done)))))))) (.both (.step 4 (.both (.step 2 (.step 14 (.step 15 (.step 16 (.step 17 (.step 18 .done)))))) (.step 14 (.step 2 (.step 15 (.step 16 (.step 17 (.step 18 .done)))))))) (.step 14 (.step 2 (.step 4 (.step 15 (.step 16 (.step 17 (.step 18 .done)))))))))) (.step 14 (.step 2 (.step 4 (.step 6 (.step 15 (.step 16 (.step 17 (.step 18 .done)))))))))))))))))))))))); (focus (decide +kernel))) | ((with_reducible apply AWt.step); exact rfl) | refine AWt.both ?_ ?_))
          all_goals ((with_reducible apply Step.appG (k := 4)); exact rfl; exact rfl; exact rfl; exact el51; exact un51; exact rfl; exact rfl; exact rfl; exact hcl; exact rfl; exact rfl; exact rfl; (focus (omega)); exact rfl; (focus (first | (simp only [List.nil_append, List.cons_append, List.set_cons_zero, List.set_cons_succ, iv_set, bv_set, iv_rep, bv_rep]; done) | (simp only [List.nil_append, List.cons_append, List.set_cons_zero, List.set_cons_succ, iv_set, bv_set, iv_rep, bv_rep]; rfl) | rfl)))
          all_goals (repeat' (first | ((with_reducible refine Step.id ?_); ((with_reducible apply Step.assign); exact rfl; exact rfl)) | ((with_reducible apply AWt.step); exact rfl) | ((with_reducible apply AWt.done))))
          all_goals exact ⟨rfl, rfl, (by repeat (first | exact trivial | (refine And.intro rfl ?_)))⟩
        intro t' ht'
        refine InBlk.n ?_
        refine Then.n ?_
        refine AW.weak ht' ?_
        (repeat (first | (with_reducible refine AWo.cons ?_) | ((with_reducible refine Step.id ?_); first | ((with_reducible apply Step.move); exact rfl; exact rfl) | ((with_reducible apply Step.add); exact rfl; exact rfl; (focus (omega)); exact rfl)) | (with_reducible refine AWo.nil ?_) | ((with_reducible apply Then.n)) | ((with_reducible apply AW.regL))))
        refine ⟨_, [(3, .slice (some ⟨M.length + 4, 0, none⟩) (k + 1) (k + 1)), (6, v), (7, .int .i64 (j.length : Nat)), (8, .int .i64 (k + 1 : Nat))], ?_, (by repeat (first | exact trivial | (refine And.intro rfl ?_))), k + 1, M ++ [none, some { cells := [.int .i64 x1, .int .i64 x2, .int .i64 x3, .slice (some ⟨wa, so, some sk⟩) 0 0] }, some { cells := [] }, some { cells := [.int .i64 x1, .int .i64 x2, .int .i64 x3, .slice (some ⟨M.length + 2, 0, none⟩) 0 0] }], N ++ [none, some { cells := [.int .i64 x1, .int .i64 x2, .int .i64 x3, .slice (some ⟨wa, so, some sk⟩) 0 0] }, some { cells := [] }, some { cells := [.int .i64 x1, .int .i64 x2, .int .i64 x3, .slice (some ⟨M.length + 2, 0, none⟩) 0 0] }], c ++ [.int .i64 x1, .int .i64 x2, .int .i64 x3, .slice (some ⟨M.length + 2, 0, none⟩) 0 0], rfl, hlt, by omega, by rw [hM, List.append_assoc], snoc _ _ (ints_new (k := 2) rfl rfl 0 rfl), ?_, ?_⟩
        · omega
        · rw [gb_pos (by simp), List.append_assoc]; rfl
        · rw [gv_pos (by omega)]; simp
  · (repeat (first | (with_reducible refine AWo.cons ?_) | ((with_reducible refine Step.id ?_); first | ((with_reducible apply Step.move); exact rfl; exact rfl) | ((with_reducible apply Step.assign); exact rfl; exact rfl) | ((with_reducible apply Step.lss); exact rfl; exact rfl; exact rfl)) | (with_reducible refine AWo.nil ?_) | ((with_reducible apply AW.seq)) | ((with_reducible apply Then.n)) | ((with_reducible apply AW.regL)) | ((with_reducible apply AW.exit)) | ((with_reducible apply InBlk.hit)) | ((with_reducible apply Then.e)) | ((with_reducible apply AW.condF); exact rfl; (focus ((simp only [decide_eq_true_eq, decide_eq_false_iff_not, Bool.not_eq_true', Bool.not_eq_false', Bool.not_true, Bool.not_false]; first | assumption | omega))))))
    (refine AW.ret ?_; (repeat (first | refine Then.r ?_ | refine InBlk.r ?_)))
    exact ⟨_, rfl, N ++ [gb c 4], by rw [hM, List.append_assoc], fin (.inl (by omega))⟩
end Go.Proofs.Ytmomjannlnafcaa.Abs
namespace Go.Proofs.Ytmomjannlnafcaa.Abs
set_option linter.unusedSimpArgs false
set_option linter.unusedVariables false
open Go.RowKit
open Go.Proofs.Ytmomjannlnafcaa.Sim
open Go.Proofs
/-- Place q of an order is right: all of its job's After come before it. -/
def alOk (j : List Job) (P : List Nat) (q : Nat) : Bool := (aft j (P.getD q 0)).all fun a => decide (a.toNat ∈ P.take q)
end Go.Proofs.Ytmomjannlnafcaa.Abs
namespace Go.Proofs.Ytmomjannlnafcaa.Abs
set_option linter.unusedSimpArgs false
set_option linter.unusedVariables false
structure Topo (j : List Job) (P : List Nat) : Prop where
  nd : P.Nodup
  lt : ∀ x ∈ P, x < j.length
  al : ∀ q, q < P.length → alOk j P q = true
theorem Topo.order {j : List Job} {P : List Nat} (h : Topo j P) (hn : P.length = j.length) : orderB (nv P) j.length = true := by
  rw [orderB_iff]
  refine ⟨by rw [nv_len, hn], fun x hx => ?_, ?_⟩
  · obtain ⟨y, hy, rfl⟩ := List.mem_map.1 hx
    have := h.lt y hy
    omega
  · unfold nv
    exact List.Pairwise.map _ (fun a b hab e => hab (by omega)) h.nd
theorem Topo.all {j : List Job} {P : List Nat} (h : Topo j P) (hn : P.length = j.length) {i : Nat} (hi : i < j.length) : i ∈ P := by
  have ho := h.order hn
  simp only [orderB, Bool.and_eq_true, decide_eq_true_eq] at ho
  have : (i : Int) ∈ srt (nv P) := by rw [ho.2]; unfold upI; exact List.mem_map.2 ⟨i, by simpa using hi, rfl⟩
  unfold srt at this
  rw [List.mem_mergeSort] at this
  obtain ⟨y, hy, e⟩ := List.mem_map.1 this
  have : y = i := by omega
  exact this ▸ hy
end Go.Proofs.Ytmomjannlnafcaa.Abs
namespace Go.Proofs.Ytmomjannlnafcaa.Abs
set_option linter.unusedSimpArgs false
set_option linter.unusedVariables false
structure LS where
  left : List Int
  order : List Int
  prf : List Int
  worst : Int
theorem filter_one {l : List Int} {i : Int} (hn : l.Nodup) (hi : i ∈ l) : (l.filter fun x => !decide (x = i)).length + 1 = l.length := by
  induction l with
  | nil => simp at hi
  | cons x l ih =>
    obtain ⟨n1, n2⟩ := List.nodup_cons.1 hn
    by_cases e : x = i
    · subst e
      have : (l.filter fun y => !decide (y = x)) = l := by
        rw [List.filter_eq_self]
        intro y hy
        have : y ≠ x := fun h => n1 (h ▸ hy)
        simp [this]
      simp [this]
    · have hi' : i ∈ l := by
        rcases List.mem_cons.1 hi with h | h
        · exact absurd h.symm e
        · exact h
      have := ih n2 hi'
      simp [e] at *
      omega
theorem sumJ_list (j : List Job) (set : List Int) : sumJ j set = (set.map fun x => (jb j x).time).sum := by
  unfold sumJ
  have : ∀ n, n ≤ set.length → sm (fun k => (jb j (set.getD k 0)).time) n = ((set.take n).map fun x => (jb j x).time).sum := by
    intro n
    induction n with
    | zero => intro _; simp [sm]
    | succ n ih =>
      intro hn
      rw [take_snoc set n 0 hn, List.map_append, List.sum_append, ← ih (by omega)]
      simp [sm]
  rw [this _ (Nat.le_refl _), List.take_length]
theorem sum_filter {j : List Job} {l : List Int} {i : Int} (hn : l.Nodup) (hi : i ∈ l) : sumJ j (l.filter fun x => !decide (x = i)) = sumJ j l - (jb j i).time := by
  rw [sumJ_list, sumJ_list]
  induction l with
  | nil => simp at hi
  | cons x l ih =>
    obtain ⟨n1, n2⟩ := List.nodup_cons.1 hn
    by_cases e : x = i
    · subst e
      have : (l.filter fun y => !decide (y = x)) = l := by
        rw [List.filter_eq_self]
        intro y hy
        have : y ≠ x := fun h => n1 (h ▸ hy)
        simp [this]
      simp [this]
      omega
    · have hi' : i ∈ l := by
        rcases List.mem_cons.1 hi with h | h
        · exact absurd h.symm e
        · exact h
      have := ih n2 hi'
      simp [e] at *
      omega
structure LawInv (j : List Job) (k : Nat) (s : LS) : Prop where
  olen : s.order.length = k
  ond : s.order.Nodup
  oin : ∀ x ∈ s.order, 0 ≤ x ∧ x < j.length
  left : s.left = (upI j.length).filter fun x => decide (x ∉ s.order)
  llen : s.left.length + k = j.length
theorem LawInv.nd {j : List Job} {k : Nat} {s : LS} (h : LawInv j k s) : s.left.Nodup := by
  rw [h.left]; exact (upI_nodup _).filter _
theorem LawInv.ne {j : List Job} {k : Nat} {s : LS} (h : LawInv j k s) (hk : k < j.length) : s.left ≠ [] := fun e => by
  have := h.llen
  rw [e] at this; simp at this; omega
section
variable {j : List Job} {P : List Nat}
end
end Go.Proofs.Ytmomjannlnafcaa.Abs
namespace Go.Proofs.Ytmomjannlnafcaa.Abs
set_option linter.unusedSimpArgs false
set_option linter.unusedVariables false
theorem perm_sum {l k : List Int} (h : l.Perm k) : l.sum = k.sum := by
  induction h with
  | nil => rfl
  | cons x _ ih => simp only [List.sum_cons, ih]
  | swap x y l => simp only [List.sum_cons]; omega
  | trans _ _ h1 h2 => exact h1.trans h2
section
variable {j : List Job} {P : List Nat}
end
end Go.Proofs.Ytmomjannlnafcaa.Abs
namespace Go.Proofs.Ytmomjannlnafcaa.Abs
set_option linter.unusedSimpArgs false
set_option linter.unusedVariables false
open Go.RowKit
open Go.Proofs.Ytmomjannlnafcaa.Sim
open Go.Proofs
theorem conv_self {j : List Job} (h : jobsB j = true) : convJ j = j := by
  have hJ := JOk.of h
  have h40 := hJ.len
  unfold convJ
  rw [List.take_of_length_le (by omega)]
  refine List.ext_getElem (by simp) fun k h1 h2 => ?_
  have hk : k < j.length := h2
  have := hJ.alen hk
  simp only [aft] at this
  rw [List.getD_eq_getElem?_getD, List.getElem?_eq_getElem hk, Option.getD_some] at this
  rw [List.getElem_map]
  unfold cvJ
  rw [List.take_of_length_le (by omega)]
theorem conv_not {j : List Job} (h : jobsB j = false) : jobsB (convJ j) = false := by
  rw [Bool.eq_false_iff]
  intro hc
  have hJ := JOk.of hc
  have hl : (convJ j).length = min 42 j.length := by simp [convJ]
  have h40 := hJ.len
  have hlen : j.length ≤ 40 := by omega
  have hl2 : (convJ j).length = j.length := by omega
  have get : ∀ k, k < j.length → (convJ j).getD k default = cvJ (j.getD k default) := fun k hk => by
    unfold convJ
    rw [List.take_of_length_le (by omega)]
    simp [hk]
  have same : ∀ k, k < j.length → cvJ (j.getD k default) = j.getD k default := fun k hk => by
    have := hJ.alen (k := k) (by omega)
    simp only [aft] at this
    rw [get k hk] at this
    have hlt : ((j.getD k default).after.take 60).length ≤ 40 := by
      simp only [cvJ] at this; omega
    unfold cvJ
    rw [List.take_of_length_le (by rw [List.length_take] at hlt; omega)]
  have e : convJ j = j := List.ext_getElem (by omega) fun k h1 h2 => by
    have g := get k h2
    rw [same k h2] at g
    simpa [h1, h2] using g
  rw [e, h] at hc
  cases hc
theorem conv_short (j : List Job) : Short (convJ j) := by
  refine ⟨by simp [convJ]; omega, fun k hk => ?_⟩
  have hk' : k < (j.take 42).length := by simpa [convJ] using hk
  have : (convJ j).getD k default = cvJ ((j.take 42).getD k default) := by
    simp only [convJ, List.getD_eq_getElem?_getD, List.getElem?_map, List.getElem?_eq_getElem hk', Option.map_some, Option.getD_some]
  rw [this]
  simp only [cvJ, List.length_take]
  omega
end Go.Proofs.Ytmomjannlnafcaa.Abs
namespace Go.Proofs.Ytmomjannlnafcaa.Abs
set_option linter.unusedSimpArgs false
set_option linter.unusedVariables false
open Go.RowKit
open Go.Proofs.Ytmomjannlnafcaa.Sim
open Go.Proofs
theorem Topo.at {j : List Job} {P : List Nat} (h : Topo j P) (hn : P.length = j.length) {i : Nat} (hi : i < j.length) : ∃ q, q < P.length ∧ P.getD q 0 = i := by
  obtain ⟨q, hq, e⟩ := List.getElem_of_mem (h.all hn hi)
  exact ⟨q, hq, by simp only [List.getD_eq_getElem?_getD, List.getElem?_eq_getElem hq, Option.getD_some]; exact e⟩
end Go.Proofs.Ytmomjannlnafcaa.Abs
namespace Go.Proofs.Ytmomjannlnafcaa.Abs
set_option linter.unusedSimpArgs false
set_option linter.unusedVariables false
open Go.RowKit
open Go.Proofs.Ytmomjannlnafcaa.Sim
open Go.Proofs
set_option maxRecDepth 100000 in
theorem f116_ok {m : AM} {w w' : Value} (x y : Job) (h1 : w.oneCell' = true) (h2 : w'.oneCell' = true) : ACall Try.prog 116 #[.agg (x.cells w).toArray, .agg (y.cells w').toArray] m (Ret (.int .i64 (cmpI x.due y.due)) m) := by
  obtain ⟨x1, x2, x3, l⟩ := x
  obtain ⟨y1, y2, y3, l'⟩ := y
  simp only [Job.cells] at *
  have hw1 := job_one (x := x1) (y := x2) (z := x3) h1
  have hw2 := job_one (x := y1) (y := y2) (z := y3) h2
  have q1 : ∀ L : AM, Rd (m ++ (some { cells := [.int .i64 x1, .int .i64 x2, .int .i64 x3, w] } :: L)) (m.length + 0) (0 + 1) (.int .i64 x2) := fun L => Rd.new rfl rfl
  have q2 : ∀ (b : Option Blk) (L : AM), Rd (m ++ (b :: some { cells := [.int .i64 y1, .int .i64 y2, .int .i64 y3, w'] } :: L)) (m.length + 1) (0 + 1) (.int .i64 y2) := fun b L => Rd.new rfl rfl
  refine ACall.start Try.func116 rfl rfl ?_
  (repeat (first | (with_reducible refine AWo.cons ?_) | ((with_reducible refine Step.id ?_); first | ((with_reducible apply Step.assign); exact rfl; exact rfl) | ((with_reducible apply Step.load); exact rfl; (focus (decide +kernel)); exact rfl; (focus (first | assumption | exact q1 _ | exact q2 _ _ | exact Rd.new rfl (iv_get (by first | omega | (simp; omega))) | exact Rd.new rfl (bv_get (by first | omega | (simp; omega))) | exact Rd.new rfl rfl | exact Rd.old _ (by assumption) | exact Rd.old _ (q1 _) | exact Rd.old _ (q2 _ _)))) | ((with_reducible apply Step.loadL (n := 4)); exact rfl; (focus (decide +kernel)); (focus (decide +kernel)); exact rfl; (focus (first | assumption | exact RdL.new rfl rfl | exact RdL.old _ (by assumption) | exact q1 _ | exact RdL.old _ (q1 _) | exact q2 _ _ | exact RdL.old _ (q2 _ _))); exact rfl; exact rfl) | ((with_reducible apply Step.field (k := 1)); exact rfl; (focus (decide +kernel)); exact rfl) | ((with_reducible apply Step.callR fit); exact rfl; exact Try.func68; exact rfl; exact rfl; exact (compare_ok _ _ rfl)) | ((with_reducible apply Step.box 0); exact rfl; exact rfl; (focus (first | assumption | exact hw1)); exact rfl; (focus (first | (simp only [List.nil_append, List.cons_append, List.set_cons_zero, List.set_cons_succ, iv_set, bv_set, iv_rep, bv_rep]; done) | (simp only [List.nil_append, List.cons_append, List.set_cons_zero, List.set_cons_succ, iv_set, bv_set, iv_rep, bv_rep]; rfl) | rfl))) | ((with_reducible apply Step.box 0); exact rfl; exact rfl; (focus (kernel_rfl)); exact rfl; (focus (first | (simp only [List.nil_append, List.cons_append, List.set_cons_zero, List.set_cons_succ, iv_set, bv_set, iv_rep, bv_rep]; done) | (simp only [List.nil_append, List.cons_append, List.set_cons_zero, List.set_cons_succ, iv_set, bv_set, iv_rep, bv_rep]; rfl) | rfl))) | ((with_reducible apply Step.box 1); exact rfl; exact rfl; (focus (first | assumption | exact hw1)); exact rfl; (focus (first | (simp only [List.nil_append, List.cons_append, List.set_cons_zero, List.set_cons_succ, iv_set, bv_set, iv_rep, bv_rep]; done) | (simp only [List.nil_append, List.cons_append, List.set_cons_zero, List.set_cons_succ, iv_set, bv_set, iv_rep, bv_rep]; rfl) | rfl))) | ((with_reducible apply Step.box 1); exact rfl; exact rfl; (focus (kernel_rfl)); exact rfl; (focus (first | (simp only [List.nil_append, List.cons_append, List.set_cons_zero, List.set_cons_succ, iv_set, bv_set, iv_rep, bv_rep]; done) | (simp only [List.nil_append, List.cons_append, List.set_cons_zero, List.set_cons_succ, iv_set, bv_set, iv_rep, bv_rep]; rfl) | rfl))) | ((with_reducible apply Step.box 2); exact rfl; exact rfl; (focus (first | assumption | exact hw1)); exact rfl; (focus (first | (simp only [List.nil_append, List.cons_append, List.set_cons_zero, List.set_cons_succ, iv_set, bv_set, iv_rep, bv_rep]; done) | (simp only [List.nil_append, List.cons_append, List.set_cons_zero, List.set_cons_succ, iv_set, bv_set, iv_rep, bv_rep]; rfl) | rfl))) | ((with_reducible apply Step.box 2); exact rfl; exact rfl; (focus (kernel_rfl)); exact rfl; (focus (first | (simp only [List.nil_append, List.cons_append, List.set_cons_zero, List.set_cons_succ, iv_set, bv_set, iv_rep, bv_rep]; done) | (simp only [List.nil_append, List.cons_append, List.set_cons_zero, List.set_cons_succ, iv_set, bv_set, iv_rep, bv_rep]; rfl) | rfl))) | ((with_reducible apply Step.box 3); exact rfl; exact rfl; (focus (first | assumption | exact hw1)); exact rfl; (focus (first | (simp only [List.nil_append, List.cons_append, List.set_cons_zero, List.set_cons_succ, iv_set, bv_set, iv_rep, bv_rep]; done) | (simp only [List.nil_append, List.cons_append, List.set_cons_zero, List.set_cons_succ, iv_set, bv_set, iv_rep, bv_rep]; rfl) | rfl))) | ((with_reducible apply Step.box 3); exact rfl; exact rfl; (focus (kernel_rfl)); exact rfl; (focus (first | (simp only [List.nil_append, List.cons_append, List.set_cons_zero, List.set_cons_succ, iv_set, bv_set, iv_rep, bv_rep]; done) | (simp only [List.nil_append, List.cons_append, List.set_cons_zero, List.set_cons_succ, iv_set, bv_set, iv_rep, bv_rep]; rfl) | rfl)))) | (with_reducible refine AWo.nil ?_) | ((with_reducible apply AW.seq)) | ((with_reducible apply Then.n)) | ((with_reducible apply AW.regL)) | ((with_reducible apply AW.block)) | ((with_reducible apply AW.exit)) | ((with_reducible apply InBlk.n)) | ((with_reducible apply InBlk.hit)) | ((with_reducible apply InBlk.miss); exact rfl) | ((with_reducible apply Then.e)) | ((with_reducible apply AW.skip)) | ((with_reducible apply AW.condT); exact rfl; (focus (first | rfl | (simp only [decide_eq_true_eq, decide_eq_false_iff_not, Bool.not_eq_true', Bool.not_eq_false', Bool.not_true, Bool.not_false]; first | assumption | omega) | (simp; done) | (simp; omega)))) | ((with_reducible apply AW.condF); exact rfl; (focus (first | rfl | (simp only [decide_eq_true_eq, decide_eq_false_iff_not, Bool.not_eq_true', Bool.not_eq_false', Bool.not_true, Bool.not_false]; first | assumption | omega) | (simp; done) | (simp; omega))))))
  (refine AW.retD (l := [(4, _)]) (by repeat (first | exact trivial | (refine And.intro ⟨rfl, by (first | exact .int _ _ | exact Ren.of_gv (by first | (simp; done) | omega | (simp; omega)) | exact .bool _ | exact Ren.of_g0 rfl | exact .slice _ _ _ _ (by first | (simp; done) | omega | (simp; omega)) | exact .ptr _ _ (by first | (simp; done) | omega | (simp; omega)) | exact Ren.of_sl (by assumption) (by first | omega | (simp; omega)))⟩ ?_))) ?_; (repeat (first | refine Then.r ?_ | refine InBlk.r ?_)))
  exact ⟨_, rfl, rfl, rfl⟩
def ixD (j : List Job) (a b : Int) : Int := cmpI (j.getD a.toNat default).due (j.getD b.toNat default).due
set_option maxRecDepth 100000 in
theorem f127_ok {m : AM} {v : Value} {j : List Job} {a1 a2 : Nat} (hj : Jobs m v j) (h1 : Rd m a1 0 (.func (.func 116) #[] #[])) (h2 : Rd m a2 0 v) (x y : Int) (hx : 0 ≤ x ∧ x < j.length) (hy : 0 ≤ y ∧ y < j.length) :
    ACall Try.prog 127 #[.int .i64 x, .int .i64 y, .pointer (some ⟨a1, 0, none⟩), .pointer (some ⟨a2, 0, none⟩)] m (Ret (.int .i64 (ixD j x y)) m) := by
  have hf : Try.prog.funcs[116]? = some Try.f116 := Try.func116
  obtain ⟨bd, hb⟩ : ∃ bd, Try.f116.body = some bd := ⟨_, rfl⟩
  obtain ⟨a, o, k1, k2, k3⟩ := id hj
  obtain ⟨x, rfl⟩ := Int.eq_ofNat_of_zero_le hx.1
  obtain ⟨y, rfl⟩ := Int.eq_ofNat_of_zero_le hy.1
  obtain ⟨w, r1, hw⟩ := k3 x (by omega)
  obtain ⟨w', r2, hw'⟩ := k3 y (by omega)
  obtain ⟨_, _, s1, _, _⟩ := id hw
  obtain ⟨_, _, s2, _, _⟩ := id hw'
  have c1 := s1.one
  have c2 := s2.one
  have hc := fun (m : AM) => f116_ok (m := m) (w := w) (w' := w') (j.getD x default) (j.getD y default) c1 c2
  have e : ixD j (x : Nat) (y : Nat) = cmpI (j.getD x default).due (j.getD y default).due := by simp [ixD]
  rw [e]
  generalize j.getD x default = X at *
  generalize j.getD y default = Y at *
  obtain ⟨x1, x2, x3, l⟩ := X
  obtain ⟨y1, y2, y3, l'⟩ := Y
  simp only [Job.cells] at *
  have hw1 := job_one (x := x1) (y := x2) (z := x3) c1
  have hw2 := job_one (x := y1) (y := y2) (z := y3) c2
  rw [← List.append_nil m] at h1 h2 r1 r2
  refine ACall.start Try.func127 rfl rfl ?_
  (repeat (first | (with_reducible refine AWo.cons ?_) | ((with_reducible refine Step.id ?_); first | ((with_reducible apply Step.move); exact rfl; exact rfl) | ((with_reducible apply Step.assign); exact rfl; exact rfl) | ((with_reducible apply Step.load); exact rfl; (focus (decide +kernel)); exact rfl; (focus (first | assumption | exact h1 | exact h2 | exact r1 | exact r2 | exact Rd.new rfl (iv_get (by first | omega | (simp; omega))) | exact Rd.new rfl (bv_get (by first | omega | (simp; omega))) | exact Rd.new rfl rfl | exact Rd.old _ (by assumption) | exact Rd.old _ (h1) | exact Rd.old _ (h2) | exact Rd.old _ (r1) | exact Rd.old _ (r2)))) | ((with_reducible apply Step.loadL (n := 4)); exact rfl; (focus (decide +kernel)); (focus (decide +kernel)); exact rfl; (focus (first | assumption | exact RdL.new rfl rfl | exact RdL.old _ (by assumption) | exact h1 | exact RdL.old _ (h1) | exact h2 | exact RdL.old _ (h2) | exact r1 | exact RdL.old _ (r1) | exact r2 | exact RdL.old _ (r2))); exact rfl; exact rfl) | ((with_reducible apply Step.ix1z); exact rfl; (focus (first | assumption | exact Sl.mk (by omega) | exact gv_sl _ _ | exact Sl.nil _ _ | exact Sl.nil 0 0)); exact rfl; (focus (decide +kernel)); exact rfl; (focus (omega))) | ((with_reducible apply Step.ix1); exact rfl; (focus (first | assumption | exact Sl.mk (by omega) | exact gv_sl _ _ | exact Sl.nil _ _ | exact Sl.nil 0 0)); exact rfl; (focus (decide +kernel)); exact rfl; (focus (omega))) | ((with_reducible apply Step.ixz (s := 4)); exact rfl; (focus (first | assumption | exact Sl.mk (by omega) | exact gv_sl _ _ | exact Sl.nil _ _ | exact Sl.nil 0 0)); exact rfl; (focus (decide +kernel)); exact rfl; (focus (omega))) | ((with_reducible apply Step.ix (s := 4)); exact rfl; (focus (first | assumption | exact Sl.mk (by omega) | exact gv_sl _ _ | exact Sl.nil _ _ | exact Sl.nil 0 0)); exact rfl; (focus (decide +kernel)); exact rfl; (focus (omega))) | ((with_reducible apply Step.callV fit); exact rfl; exact rfl; exact hf; exact hb; exact rfl; exact (hc _))) | (with_reducible refine AWo.nil ?_) | ((with_reducible apply AW.seq)) | ((with_reducible apply Then.n)) | ((with_reducible apply AW.regL)) | ((with_reducible apply AW.block)) | ((with_reducible apply AW.drawL fit); (focus (decide +kernel))) | ((with_reducible apply AW.exit)) | ((with_reducible apply InBlk.n)) | ((with_reducible apply InBlk.hit)) | ((with_reducible apply InBlk.miss); exact rfl) | ((with_reducible apply Then.e)) | ((with_reducible apply AW.skip)) | ((with_reducible apply AW.condT); exact rfl; (focus (first | rfl | (simp only [decide_eq_true_eq, decide_eq_false_iff_not, Bool.not_eq_true', Bool.not_eq_false', Bool.not_true, Bool.not_false]; first | assumption | omega) | (simp; done) | (simp; omega)))) | ((with_reducible apply AW.condF); exact rfl; (focus (first | rfl | (simp only [decide_eq_true_eq, decide_eq_false_iff_not, Bool.not_eq_true', Bool.not_eq_false', Bool.not_true, Bool.not_false]; first | assumption | omega) | (simp; done) | (simp; omega))))))
  (refine AW.retD (l := [(6, _)]) (by repeat (first | exact trivial | (refine And.intro ⟨rfl, by (first | exact .int _ _ | exact Ren.of_gv (by first | (simp; done) | omega | (simp; omega)) | exact .bool _ | exact Ren.of_g0 rfl | exact .slice _ _ _ _ (by first | (simp; done) | omega | (simp; omega)) | exact .ptr _ _ (by first | (simp; done) | omega | (simp; omega)) | exact Ren.of_sl (by assumption) (by first | omega | (simp; omega)))⟩ ?_))) ?_; (repeat (first | refine Then.r ?_ | refine InBlk.r ?_)))
  exact ⟨_, rfl, rfl, rfl⟩
def leD (j : List Job) (a b : Int) : Bool := decide ((j.getD a.toNat default).due < (j.getD b.toNat default).due ∨ (j.getD a.toNat default).due = (j.getD b.toNat default).due ∧ ((0 : Int) < 0 ∨ (0 : Int) = 0 ∧ a ≤ b))
theorem leD_to (j : List Job) : TO (leD j) := lex_to (fun a => (j.getD a.toNat default).due) (fun _ => 0)
theorem leD_cross (j : List Job) (x y : Int) (hxy : x < y) : Cross (leD j) (ixD j) x y := by
  unfold Cross ixD
  simp only [leD, cmpI]
  generalize (j.getD x.toNat default).due = p
  generalize (j.getD y.toNat default).due = q
  split <;> (try split) <;> simp <;> omega
/-- The jobs by due, those of one due by number. -/
def eddL (j : List Job) : List Int := ms (leD j) (upI j.length)
theorem eddL_len (j : List Job) : (eddL j).length = j.length := by simp [eddL, ms_len, upI_len]
set_option maxRecDepth 100000 in
theorem sortedJ_ok {m : AM} {v : Value} {j : List Job} (hj : Jobs m v j) (hlen : j.length ≤ 40) :
    ACall Try.prog 115 #[v, .func (.func 116) #[] #[]] m (New (some { cells := iv (eddL j) }) j.length m) := by
  obtain ⟨a, o, k1, k2, k3⟩ := id hj
  obtain ⟨bv, hbv⟩ : ∃ bv : Blk, bv = { cells := [v] } := ⟨_, rfl⟩
  obtain ⟨bf, hbf⟩ : ∃ bf : Blk, bf = { cells := [.func (.func 116) #[] #[]] } := ⟨_, rfl⟩
  have hC : CmpOk (m ++ [some bv, some bf, some { cells := iv (upI j.length) }]) (m.length + 2) 1 .own (ixD j) (fun x => 0 ≤ x ∧ x < j.length) 127 #[.pointer (some ⟨m.length + 1, 0, none⟩), .pointer (some ⟨m.length + 0, 0, none⟩)] := by
    refine ⟨by simp, rfl, fun l x y hx hy => ?_⟩
    have hj' : Jobs (St (m ++ [some bv, some bf, some { cells := iv (upI j.length) }]) (m.length + 2) .own 1 l) v j := by
      refine ⟨a, o, k1, by rw [St.len]; simp; omega, fun k hk => ?_⟩
      obtain ⟨w, q1, wa, wo, q2, q3, q4⟩ := k3 k hk
      exact ⟨w, St.rdl_ne (q1.old _) (by omega), wa, wo, q2, by rw [St.len]; simp; omega, fun i hi => St.rd_ne ((q4 i hi).old _) (by omega)⟩
    exact f127_ok hj' (St.rd_ne (Rd.new (L := [some bv, some bf, some { cells := iv (upI j.length) }]) (k := 1) rfl (by rw [hbf]; rfl)) (by omega))
      (St.rd_ne (Rd.new (L := [some bv, some bf, some { cells := iv (upI j.length) }]) (k := 0) rfl (by rw [hbv]; rfl)) (by omega)) x y hx hy
  have hst := stable_ok hC (leD_to j) Try.func127 rfl j.length (upI j.length) (upI_len _) hlen (fun x hx => upI_mem.1 hx) (upI_cross fun x y _ h _ => leD_cross j x y h)
  rw [St.self (by rw [get_app]; rfl)] at hst
  have hset : St (m ++ [some bv, some bf, some { cells := iv (upI j.length) }]) (m.length + 2) .own 1 (ms (leD j) (upI j.length)) = m ++ [some bv, some bf, some { cells := iv (ms (leD j) (upI j.length)) }] := by
    unfold St; rw [set_app]; rfl
  rw [hset] at hst
  refine ACall.start Try.func115 rfl rfl ?_
  subst hbv hbf
  have hv := k1.cells
  (repeat (first | (with_reducible refine AWo.cons ?_) | ((with_reducible refine Step.id ?_); first | ((with_reducible apply Step.move); exact rfl; exact rfl) | ((with_reducible apply Step.assign); exact rfl; exact rfl) | ((with_reducible apply Step.load); exact rfl; (focus (decide +kernel)); exact rfl; (focus (first | assumption | exact Rd.new rfl rfl | exact Rd.new rfl (iv_get (by first | omega | (simp; omega))) | exact Rd.new rfl (bv_get (by first | omega | (simp; omega))) | exact Rd.new rfl rfl | exact Rd.old _ (by assumption) | exact Rd.old _ (Rd.new rfl rfl)))) | ((with_reducible apply Step.len); exact rfl; (focus (first | assumption | exact Sl.mk (by omega) | exact gv_sl _ _ | exact Sl.nil _ _ | exact Sl.nil 0 0)); (focus (decide +kernel)); exact rfl) | ((with_reducible apply Step.fn); exact rfl; exact rfl; exact rfl) | ((with_reducible apply Step.callN fit (k := 0)); exact rfl; exact rfl; exact Try.func83; exact rfl; exact rfl; exact (upTo_ok _ (by omega)); (focus (first | (simp only [List.nil_append, List.cons_append, List.set_cons_zero, List.set_cons_succ, iv_set, bv_set, iv_rep, bv_rep]; done) | (simp only [List.nil_append, List.cons_append, List.set_cons_zero, List.set_cons_succ, iv_set, bv_set, iv_rep, bv_rep]; rfl) | rfl))) | ((with_reducible apply Step.callN fit (k := 1)); exact rfl; exact rfl; exact Try.func83; exact rfl; exact rfl; exact (upTo_ok _ (by omega)); (focus (first | (simp only [List.nil_append, List.cons_append, List.set_cons_zero, List.set_cons_succ, iv_set, bv_set, iv_rep, bv_rep]; done) | (simp only [List.nil_append, List.cons_append, List.set_cons_zero, List.set_cons_succ, iv_set, bv_set, iv_rep, bv_rep]; rfl) | rfl))) | ((with_reducible apply Step.callN fit (k := 2)); exact rfl; exact rfl; exact Try.func83; exact rfl; exact rfl; exact (upTo_ok _ (by omega)); (focus (first | (simp only [List.nil_append, List.cons_append, List.set_cons_zero, List.set_cons_succ, iv_set, bv_set, iv_rep, bv_rep]; done) | (simp only [List.nil_append, List.cons_append, List.set_cons_zero, List.set_cons_succ, iv_set, bv_set, iv_rep, bv_rep]; rfl) | rfl))) | ((with_reducible apply Step.callN fit (k := 3)); exact rfl; exact rfl; exact Try.func83; exact rfl; exact rfl; exact (upTo_ok _ (by omega)); (focus (first | (simp only [List.nil_append, List.cons_append, List.set_cons_zero, List.set_cons_succ, iv_set, bv_set, iv_rep, bv_rep]; done) | (simp only [List.nil_append, List.cons_append, List.set_cons_zero, List.set_cons_succ, iv_set, bv_set, iv_rep, bv_rep]; rfl) | rfl))) | ((with_reducible apply Step.callM fit); exact rfl; exact Try.func101; exact rfl; exact rfl; exact (hst)) | ((with_reducible apply Step.boxV 0); exact rfl; exact rfl; (focus (assumption)); exact rfl; (focus (first | (simp only [List.nil_append, List.cons_append, List.set_cons_zero, List.set_cons_succ, iv_set, bv_set, iv_rep, bv_rep]; done) | (simp only [List.nil_append, List.cons_append, List.set_cons_zero, List.set_cons_succ, iv_set, bv_set, iv_rep, bv_rep]; rfl) | rfl))) | ((with_reducible apply Step.box 0); exact rfl; exact rfl; (focus (kernel_rfl)); exact rfl; (focus (first | (simp only [List.nil_append, List.cons_append, List.set_cons_zero, List.set_cons_succ, iv_set, bv_set, iv_rep, bv_rep]; done) | (simp only [List.nil_append, List.cons_append, List.set_cons_zero, List.set_cons_succ, iv_set, bv_set, iv_rep, bv_rep]; rfl) | rfl))) | ((with_reducible apply Step.boxV 1); exact rfl; exact rfl; (focus (assumption)); exact rfl; (focus (first | (simp only [List.nil_append, List.cons_append, List.set_cons_zero, List.set_cons_succ, iv_set, bv_set, iv_rep, bv_rep]; done) | (simp only [List.nil_append, List.cons_append, List.set_cons_zero, List.set_cons_succ, iv_set, bv_set, iv_rep, bv_rep]; rfl) | rfl))) | ((with_reducible apply Step.box 1); exact rfl; exact rfl; (focus (kernel_rfl)); exact rfl; (focus (first | (simp only [List.nil_append, List.cons_append, List.set_cons_zero, List.set_cons_succ, iv_set, bv_set, iv_rep, bv_rep]; done) | (simp only [List.nil_append, List.cons_append, List.set_cons_zero, List.set_cons_succ, iv_set, bv_set, iv_rep, bv_rep]; rfl) | rfl))) | ((with_reducible apply Step.boxV 2); exact rfl; exact rfl; (focus (assumption)); exact rfl; (focus (first | (simp only [List.nil_append, List.cons_append, List.set_cons_zero, List.set_cons_succ, iv_set, bv_set, iv_rep, bv_rep]; done) | (simp only [List.nil_append, List.cons_append, List.set_cons_zero, List.set_cons_succ, iv_set, bv_set, iv_rep, bv_rep]; rfl) | rfl))) | ((with_reducible apply Step.box 2); exact rfl; exact rfl; (focus (kernel_rfl)); exact rfl; (focus (first | (simp only [List.nil_append, List.cons_append, List.set_cons_zero, List.set_cons_succ, iv_set, bv_set, iv_rep, bv_rep]; done) | (simp only [List.nil_append, List.cons_append, List.set_cons_zero, List.set_cons_succ, iv_set, bv_set, iv_rep, bv_rep]; rfl) | rfl))) | ((with_reducible apply Step.boxV 3); exact rfl; exact rfl; (focus (assumption)); exact rfl; (focus (first | (simp only [List.nil_append, List.cons_append, List.set_cons_zero, List.set_cons_succ, iv_set, bv_set, iv_rep, bv_rep]; done) | (simp only [List.nil_append, List.cons_append, List.set_cons_zero, List.set_cons_succ, iv_set, bv_set, iv_rep, bv_rep]; rfl) | rfl))) | ((with_reducible apply Step.box 3); exact rfl; exact rfl; (focus (kernel_rfl)); exact rfl; (focus (first | (simp only [List.nil_append, List.cons_append, List.set_cons_zero, List.set_cons_succ, iv_set, bv_set, iv_rep, bv_rep]; done) | (simp only [List.nil_append, List.cons_append, List.set_cons_zero, List.set_cons_succ, iv_set, bv_set, iv_rep, bv_rep]; rfl) | rfl)))) | (with_reducible refine AWo.nil ?_) | ((with_reducible apply AW.seq)) | ((with_reducible apply Then.n)) | ((with_reducible apply AW.regL)) | ((with_reducible apply AW.block)) | ((with_reducible apply AW.exit)) | ((with_reducible apply InBlk.n)) | ((with_reducible apply InBlk.hit)) | ((with_reducible apply InBlk.miss); exact rfl) | ((with_reducible apply Then.e)) | ((with_reducible apply AW.skip)) | ((with_reducible apply AW.condT); exact rfl; (focus (first | rfl | (simp only [decide_eq_true_eq, decide_eq_false_iff_not, Bool.not_eq_true', Bool.not_eq_false', Bool.not_true, Bool.not_false]; first | assumption | omega) | (simp; done) | (simp; omega)))) | ((with_reducible apply AW.condF); exact rfl; (focus (first | rfl | (simp only [decide_eq_true_eq, decide_eq_false_iff_not, Bool.not_eq_true', Bool.not_eq_false', Bool.not_true, Bool.not_false]; first | assumption | omega) | (simp; done) | (simp; omega))))))
  refine AW.retB (l := [(4, .slice (some ⟨m.length + 0, 0, none⟩) j.length j.length)]) (L1 := [some { cells := iv (ms (leD j) (upI j.length)) }]) (Back.mv 0 2 rfl rfl rfl rfl (by intro j b hj h; rcases j with _ | _ | _ | _ | _ | _ | j <;> simp_all) (by repeat (first | exact CellsOk.nil | refine CellsOk.none ?_ | refine CellsOk.cons (by first | assumption | exact g0_iv _ | exact g0_bv _ | (intro v hv; simp at hv; done) | (intro v hv; simp at hv; first | (subst hv; rfl) | (rcases hv with rfl | rfl <;> rfl) | (rcases hv with rfl | rfl | rfl <;> rfl) | (rcases hv with rfl | rfl | rfl | rfl <;> rfl))) ?_ | refine CellsOk.gb (by first | assumption | exact g0_iv _ | exact g0_bv _ | (intro v hv; simp at hv; done) | (intro v hv; simp at hv; first | (subst hv; rfl) | (rcases hv with rfl | rfl <;> rfl) | (rcases hv with rfl | rfl | rfl <;> rfl) | (rcases hv with rfl | rfl | rfl | rfl <;> rfl))) ?_)) (by repeat (first | exact trivial | (refine And.intro ⟨_, rfl, by (first | exact .int _ _ | exact Ren.of_gv_ne (by first | (simp; done) | omega | (simp; omega)) (by omega) | exact .bool _ | exact Ren.of_g0 rfl | exact Ren.slice_mv (by first | (simp; done) | omega | (simp; omega)) | exact Ren.slice_ne (by first | (simp; done) | omega | (simp; omega)) (by omega) | exact Ren.of_sl_ne (by assumption) (by first | omega | (simp; omega)) (by first | omega | (simp; omega)))⟩ ?_)))) ?_
  exact ⟨_, rfl, rfl, rfl⟩
end Go.Proofs.Ytmomjannlnafcaa.Abs
namespace Go.Proofs.Ytmomjannlnafcaa.Abs
set_option linter.unusedSimpArgs false
set_option linter.unusedVariables false
open Go.RowKit
open Go.Proofs.Ytmomjannlnafcaa.Sim
section
variable {P : Program} {nt : Nat} {ops : Array Oper} {t : Fm} {m : AM} {K : Fm → AM → Prop} {d T : Nat} {p : String} {af : Array Edge}
theorem Step.appIn {x y : Operand} {X Y e e' : TypeId} {by_ : Nat} {z : Array Value} {k q r n cp : Nat} {c old Z : List Value} {new : Value} {b : Blk} {M L L' : AM} (hk : L.length = k) (hx : evo t x = some (.slice (some ⟨M.length + q, 0, none⟩) n cp)) (hy : evo t y = some (.slice (some ⟨M.length + r, 0, none⟩) 1 1)) (hE : elemB P X = some (e, 1, by_, z)) (hY : P.underlying Y = some (.slice e'))
    (hq : L[q]? = some (some b)) (hbs : b.kind.solid = true) (hbc : b.cells = c ++ (old ++ Z)) (hc : c.length = n) (ho : old.length = 1) (hr : L[r]? = some (some { cells := [new] })) (hn1 : new.oneCell' = true) (hcp : n + 1 ≤ cp) (hlt : Nat.blt d nt = true)
    (hL : L.set q (some { b with cells := c ++ (new :: Z) }) ++ [none] = L') (hK : K (put t d (.slice (some ⟨M.length + q, 0, none⟩) (n + 1) cp)) (M ++ L')) :
    Step P nt ops ⟨some d, .call ⟨.builtin .append, #[x, y], #[X, Y]⟩, T, p, af, none⟩ t (M ++ L) K := by
  subst hL
  refine .l rfl rfl hlt rfl (by simp [Op.operands, Call.operands, hx, hy]) (loudN hk rfl (v := .slice (some ⟨M.length + q, 0, none⟩) (n + 1) cp) ?_ hK)
  have hrl : r < L.length := (List.getElem?_eq_some_iff.1 hr).1
  have hql : q < L.length := (List.getElem?_eq_some_iff.1 hq).1
  have hcell : acells ((M ++ L) ++ [none]) 1 1 (.slice (some ⟨M.length + r, 0, none⟩) 1 1) = some [new] := by
    have hg : ((M ++ L) ++ [none])[M.length + r]? = some (some { cells := [new] }) := by rw [List.append_assoc, get_app, List.getElem?_append_left hrl, hr]
    simp only [acells, hg]
    simp
  have hg : ((M ++ L) ++ [none])[M.length + q]? = some (some b) := by rw [List.append_assoc, get_app, List.getElem?_append_left hql, hq]
  simp only [aloud, evD_of hx, evD_of hy, aappend, hE, hY, aSliceLen, hcell]
  rw [if_neg (by simp [hn1])]
  rw [if_neg (by omega)]
  simp only [hg]
  have hbl : b.cells.length = n + 1 + Z.length := by rw [hbc]; simp [hc, ho]; omega
  rw [if_pos hcp, if_pos (by simp [hbs, hbl])]
  have hsp : splice b.cells (0 + n * 1) [new] = c ++ (new :: Z) := by
    obtain ⟨o1, rfl⟩ : ∃ o1, old = [o1] := by
      cases old with
      | nil => simp at ho
      | cons a l => cases l with
        | nil => exact ⟨a, rfl⟩
        | cons b l => simp at ho
    unfold splice
    rw [hbc, Nat.zero_add, Nat.mul_one, ← hc]
    simp
  rw [hsp]
  simp only [Option.some.injEq, Prod.mk.injEq, true_and]
  rw [List.append_assoc, set_app, List.set_append_left _ _ hql]
end
end Go.Proofs.Ytmomjannlnafcaa.Abs
namespace Go.Proofs.Ytmomjannlnafcaa.Abs
set_option linter.unusedSimpArgs false
set_option linter.unusedVariables false
open Go.RowKit
open Go.Proofs.Ytmomjannlnafcaa.Sim
open Go.Proofs
def orL : List Int → Int
  | [] => 0
  | x :: l => if x = 0 then orL l else x
set_option maxRecDepth 100000 in
theorem or_ok {m : AM} {v : Value} {l : List Int} (hl : Ints m v l) (hlen : l.length ≤ 1000) {r : Int} (hr : orL l = r) : ACall Try.prog 119 #[v] m (Ret (.int .i64 r) m) := by
  subst hr
  obtain ⟨a, o, h1, h2, h3⟩ := hl
  refine ACall.start Try.func119 rfl rfl ?_
  (repeat (first | (with_reducible refine AWo.cons ?_) | ((with_reducible refine Step.id ?_); first | ((with_reducible apply Step.move); exact rfl; exact rfl) | ((with_reducible apply Step.assign); exact rfl; exact rfl) | ((with_reducible apply Step.load); exact rfl; (focus (decide +kernel)); exact rfl; (focus (first | assumption | exact Rd.new rfl (iv_get (by first | omega | (simp; omega))) | exact Rd.new rfl (bv_get (by first | omega | (simp; omega))) | exact Rd.new rfl rfl | exact Rd.old _ (by assumption)))) | ((with_reducible apply Step.ix1z); exact rfl; (focus (first | assumption | exact Sl.mk (by omega) | exact gv_sl _ _ | exact Sl.nil _ _ | exact Sl.nil 0 0)); exact rfl; (focus (decide +kernel)); exact rfl; (focus (omega))) | ((with_reducible apply Step.ix1); exact rfl; (focus (first | assumption | exact Sl.mk (by omega) | exact gv_sl _ _ | exact Sl.nil _ _ | exact Sl.nil 0 0)); exact rfl; (focus (decide +kernel)); exact rfl; (focus (omega))) | ((with_reducible apply Step.add); exact rfl; exact rfl; (focus (omega)); exact rfl) | ((with_reducible apply Step.lss); exact rfl; exact rfl; exact rfl) | ((with_reducible apply Step.neq); exact rfl; exact rfl; exact rfl) | ((with_reducible apply Step.len); exact rfl; (focus (first | assumption | exact Sl.mk (by omega) | exact gv_sl _ _ | exact Sl.nil _ _ | exact Sl.nil 0 0)); (focus (decide +kernel)); exact rfl)) | (with_reducible refine AWo.nil ?_) | ((with_reducible apply AW.seq)) | ((with_reducible apply Then.n)) | ((with_reducible apply AW.regL)) | ((with_reducible apply AW.block)) | ((with_reducible apply AW.exit)) | ((with_reducible apply InBlk.n)) | ((with_reducible apply InBlk.hit)) | ((with_reducible apply InBlk.miss); exact rfl) | ((with_reducible apply Then.e)) | ((with_reducible apply AW.skip)) | ((with_reducible apply AW.condT); exact rfl; (focus (first | rfl | (simp only [decide_eq_true_eq, decide_eq_false_iff_not, Bool.not_eq_true', Bool.not_eq_false', Bool.not_true, Bool.not_false]; first | assumption | omega) | (simp; done) | (simp; omega)))) | ((with_reducible apply AW.condF); exact rfl; (focus (first | rfl | (simp only [decide_eq_true_eq, decide_eq_false_iff_not, Bool.not_eq_true', Bool.not_eq_false', Bool.not_true, Bool.not_false]; first | assumption | omega) | (simp; done) | (simp; omega))))))
  refine AW.loopT (fun n t L => ∃ k : Nat, n = l.length - k ∧ k ≤ l.length ∧ orL l = orL (l.drop k) ∧ L = [] ∧
    t = [(3, .int .i64 0), (6, v), (7, .int .i64 (l.length : Nat)), (8, .int .i64 (k : Nat))]) ⟨_, _, _, (Or.inl ⟨rfl, (by repeat (first | exact trivial | (refine And.intro rfl ?_)))⟩), 0, rfl, Nat.zero_le _, rfl, rfl, rfl⟩ ?_
  rintro n t L ⟨k, rfl, hk, ho, rfl, rfl⟩
  rcases Nat.lt_or_ge k l.length with hlt | hge
  · have hr := h3 k hlt
    have hd : l.drop k = l.getD k 0 :: l.drop (k + 1) := by rw [List.drop_eq_getElem_cons hlt]; simp [hlt]
    rw [hd, orL] at ho
    generalize l.getD k 0 = x at *
    by_cases hx : x = 0
    · rw [if_pos hx] at ho
      (repeat (first | (with_reducible refine AWo.cons ?_) | ((with_reducible refine Step.id ?_); first | ((with_reducible apply Step.move); exact rfl; exact rfl) | ((with_reducible apply Step.assign); exact rfl; exact rfl) | ((with_reducible apply Step.load); exact rfl; (focus (decide +kernel)); exact rfl; (focus (first | assumption | exact Rd.new rfl (iv_get (by first | omega | (simp; omega))) | exact Rd.new rfl (bv_get (by first | omega | (simp; omega))) | exact Rd.new rfl rfl | exact Rd.old _ (by assumption)))) | ((with_reducible apply Step.ix1z); exact rfl; (focus (first | assumption | exact Sl.mk (by omega) | exact gv_sl _ _ | exact Sl.nil _ _ | exact Sl.nil 0 0)); exact rfl; (focus (decide +kernel)); exact rfl; (focus (omega))) | ((with_reducible apply Step.ix1); exact rfl; (focus (first | assumption | exact Sl.mk (by omega) | exact gv_sl _ _ | exact Sl.nil _ _ | exact Sl.nil 0 0)); exact rfl; (focus (decide +kernel)); exact rfl; (focus (omega))) | ((with_reducible apply Step.add); exact rfl; exact rfl; (focus (omega)); exact rfl) | ((with_reducible apply Step.lss); exact rfl; exact rfl; exact rfl) | ((with_reducible apply Step.neq); exact rfl; exact rfl; exact rfl) | ((with_reducible apply Step.len); exact rfl; (focus (first | assumption | exact Sl.mk (by omega) | exact gv_sl _ _ | exact Sl.nil _ _ | exact Sl.nil 0 0)); (focus (decide +kernel)); exact rfl)) | (with_reducible refine AWo.nil ?_) | ((with_reducible apply AW.seq)) | ((with_reducible apply Then.n)) | ((with_reducible apply AW.regL)) | ((with_reducible apply AW.block)) | ((with_reducible apply AW.exit)) | ((with_reducible apply InBlk.n)) | ((with_reducible apply InBlk.hit)) | ((with_reducible apply InBlk.miss); exact rfl) | ((with_reducible apply Then.e)) | ((with_reducible apply AW.skip)) | ((with_reducible apply AW.condT); exact rfl; (focus (first | rfl | (simp only [decide_eq_true_eq, decide_eq_false_iff_not, Bool.not_eq_true', Bool.not_eq_false', Bool.not_true, Bool.not_false]; first | assumption | omega) | (simp; done) | (simp; omega)))) | ((with_reducible apply AW.condF); exact rfl; (focus (first | rfl | (simp only [decide_eq_true_eq, decide_eq_false_iff_not, Bool.not_eq_true', Bool.not_eq_false', Bool.not_true, Bool.not_false]; first | assumption | omega) | (simp; done) | (simp; omega))))))
      exact ⟨_, _, _, by omega, (Or.inl ⟨rfl, (by repeat (first | exact trivial | (refine And.intro rfl ?_)))⟩), k + 1, rfl, by omega, ho, rfl, rfl⟩
    · rw [if_neg hx] at ho
      (repeat (first | (with_reducible refine AWo.cons ?_) | ((with_reducible refine Step.id ?_); first | ((with_reducible apply Step.move); exact rfl; exact rfl) | ((with_reducible apply Step.assign); exact rfl; exact rfl) | ((with_reducible apply Step.load); exact rfl; (focus (decide +kernel)); exact rfl; (focus (first | assumption | exact Rd.new rfl (iv_get (by first | omega | (simp; omega))) | exact Rd.new rfl (bv_get (by first | omega | (simp; omega))) | exact Rd.new rfl rfl | exact Rd.old _ (by assumption)))) | ((with_reducible apply Step.ix1z); exact rfl; (focus (first | assumption | exact Sl.mk (by omega) | exact gv_sl _ _ | exact Sl.nil _ _ | exact Sl.nil 0 0)); exact rfl; (focus (decide +kernel)); exact rfl; (focus (omega))) | ((with_reducible apply Step.ix1); exact rfl; (focus (first | assumption | exact Sl.mk (by omega) | exact gv_sl _ _ | exact Sl.nil _ _ | exact Sl.nil 0 0)); exact rfl; (focus (decide +kernel)); exact rfl; (focus (omega))) | ((with_reducible apply Step.add); exact rfl; exact rfl; (focus (omega)); exact rfl) | ((with_reducible apply Step.lss); exact rfl; exact rfl; exact rfl) | ((with_reducible apply Step.neq); exact rfl; exact rfl; exact rfl) | ((with_reducible apply Step.len); exact rfl; (focus (first | assumption | exact Sl.mk (by omega) | exact gv_sl _ _ | exact Sl.nil _ _ | exact Sl.nil 0 0)); (focus (decide +kernel)); exact rfl)) | (with_reducible refine AWo.nil ?_) | ((with_reducible apply AW.seq)) | ((with_reducible apply Then.n)) | ((with_reducible apply AW.regL)) | ((with_reducible apply AW.block)) | ((with_reducible apply AW.exit)) | ((with_reducible apply InBlk.n)) | ((with_reducible apply InBlk.hit)) | ((with_reducible apply InBlk.miss); exact rfl) | ((with_reducible apply Then.e)) | ((with_reducible apply AW.skip)) | ((with_reducible apply AW.condT); exact rfl; (focus (first | rfl | (simp only [decide_eq_true_eq, decide_eq_false_iff_not, Bool.not_eq_true', Bool.not_eq_false', Bool.not_true, Bool.not_false]; first | assumption | omega) | (simp; done) | (simp; omega)))) | ((with_reducible apply AW.condF); exact rfl; (focus (first | rfl | (simp only [decide_eq_true_eq, decide_eq_false_iff_not, Bool.not_eq_true', Bool.not_eq_false', Bool.not_true, Bool.not_false]; first | assumption | omega) | (simp; done) | (simp; omega))))))
      (refine AW.retD (l := [(2, _)]) (by repeat (first | exact trivial | (refine And.intro ⟨rfl, by (first | exact .int _ _ | exact Ren.of_gv (by first | (simp; done) | omega | (simp; omega)) | exact .bool _ | exact Ren.of_g0 rfl | exact .slice _ _ _ _ (by first | (simp; done) | omega | (simp; omega)) | exact .ptr _ _ (by first | (simp; done) | omega | (simp; omega)) | exact Ren.of_sl (by assumption) (by first | omega | (simp; omega)))⟩ ?_))) ?_; (repeat (first | refine Then.r ?_ | refine InBlk.r ?_)))
      exact ⟨_, rfl, by rw [ho], rfl⟩
  · obtain rfl : k = l.length := by omega
    (repeat (first | (with_reducible refine AWo.cons ?_) | ((with_reducible refine Step.id ?_); first | ((with_reducible apply Step.move); exact rfl; exact rfl) | ((with_reducible apply Step.assign); exact rfl; exact rfl) | ((with_reducible apply Step.load); exact rfl; (focus (decide +kernel)); exact rfl; (focus (first | assumption | exact Rd.new rfl (iv_get (by first | omega | (simp; omega))) | exact Rd.new rfl (bv_get (by first | omega | (simp; omega))) | exact Rd.new rfl rfl | exact Rd.old _ (by assumption)))) | ((with_reducible apply Step.ix1z); exact rfl; (focus (first | assumption | exact Sl.mk (by omega) | exact gv_sl _ _ | exact Sl.nil _ _ | exact Sl.nil 0 0)); exact rfl; (focus (decide +kernel)); exact rfl; (focus (omega))) | ((with_reducible apply Step.ix1); exact rfl; (focus (first | assumption | exact Sl.mk (by omega) | exact gv_sl _ _ | exact Sl.nil _ _ | exact Sl.nil 0 0)); exact rfl; (focus (decide +kernel)); exact rfl; (focus (omega))) | ((with_reducible apply Step.add); exact rfl; exact rfl; (focus (omega)); exact rfl) | ((with_reducible apply Step.lss); exact rfl; exact rfl; exact rfl) | ((with_reducible apply Step.neq); exact rfl; exact rfl; exact rfl) | ((with_reducible apply Step.len); exact rfl; (focus (first | assumption | exact Sl.mk (by omega) | exact gv_sl _ _ | exact Sl.nil _ _ | exact Sl.nil 0 0)); (focus (decide +kernel)); exact rfl)) | (with_reducible refine AWo.nil ?_) | ((with_reducible apply AW.seq)) | ((with_reducible apply Then.n)) | ((with_reducible apply AW.regL)) | ((with_reducible apply AW.block)) | ((with_reducible apply AW.exit)) | ((with_reducible apply InBlk.n)) | ((with_reducible apply InBlk.hit)) | ((with_reducible apply InBlk.miss); exact rfl) | ((with_reducible apply Then.e)) | ((with_reducible apply AW.skip)) | ((with_reducible apply AW.condT); exact rfl; (focus (first | rfl | (simp only [decide_eq_true_eq, decide_eq_false_iff_not, Bool.not_eq_true', Bool.not_eq_false', Bool.not_true, Bool.not_false]; first | assumption | omega) | (simp; done) | (simp; omega)))) | ((with_reducible apply AW.condF); exact rfl; (focus (first | rfl | (simp only [decide_eq_true_eq, decide_eq_false_iff_not, Bool.not_eq_true', Bool.not_eq_false', Bool.not_true, Bool.not_false]; first | assumption | omega) | (simp; done) | (simp; omega))))))
    (refine AW.retD (l := [(2, _)]) (by repeat (first | exact trivial | (refine And.intro ⟨rfl, by (first | exact .int _ _ | exact Ren.of_gv (by first | (simp; done) | omega | (simp; omega)) | exact .bool _ | exact Ren.of_g0 rfl | exact .slice _ _ _ _ (by first | (simp; done) | omega | (simp; omega)) | exact .ptr _ _ (by first | (simp; done) | omega | (simp; omega)) | exact Ren.of_sl (by assumption) (by first | omega | (simp; omega)))⟩ ?_))) ?_; (repeat (first | refine Then.r ?_ | refine InBlk.r ?_)))
    exact ⟨_, rfl, by rw [ho, List.drop_length]; rfl, rfl⟩
/-- The later in time, then in number. -/
def cM (j : List Job) (a b : Int) : Int := orL [cmpI (j.getD a.toNat default).time (j.getD b.toNat default).time, cmpI a b]
theorem cM_pos (j : List Job) (a b : Int) : 0 < cM j a b ↔ (j.getD b.toNat default).time < (j.getD a.toNat default).time ∨ (j.getD b.toNat default).time = (j.getD a.toNat default).time ∧ b < a := by
  unfold cM orL cmpI
  generalize (j.getD a.toNat default).time = p
  generalize (j.getD b.toNat default).time = q
  simp only [orL]
  by_cases h1 : p < q
  · simp [h1]; omega
  · by_cases h2 : q < p
    · simp [h1, h2]
    · have : p = q := by omega
      subst this
      by_cases h3 : a < b
      · simp [h3]; omega
      · by_cases h4 : b < a
        · simp [h3, h4]
        · simp [h3, h4]
theorem bs23y {m : AM} {n : Nat} {x y : Int} : abuildSlice Try.prog m n 23 2 [(0, .int .i64 x), (1, .int .i64 y)] = some (.slice (some ⟨n, 0, none⟩) 2 2, m.set n (some { cells := [.int .i64 x, .int .i64 y] })) := by kernel_rfl
set_option maxRecDepth 100000 in
theorem f118_ok {m : AM} {v : Value} {j : List Job} {a1 : Nat} (hj : Jobs m v j) (h2 : Rd m a1 0 v) (x y : Int) (hx : 0 ≤ x ∧ x < j.length) (hy : 0 ≤ y ∧ y < j.length) :
    ACall Try.prog 118 #[.int .i64 x, .int .i64 y, .pointer (some ⟨a1, 0, none⟩)] m (Ret (.int .i64 (cM j x y)) m) := by
  obtain ⟨a, o, k1, k2, k3⟩ := id hj
  obtain ⟨x, rfl⟩ := Int.eq_ofNat_of_zero_le hx.1
  obtain ⟨y, rfl⟩ := Int.eq_ofNat_of_zero_le hy.1
  obtain ⟨w, r1, hw⟩ := k3 x (by omega)
  obtain ⟨w', r2, hw'⟩ := k3 y (by omega)
  have e : cM j (x : Nat) (y : Nat) = orL [cmpI (j.getD x default).time (j.getD y default).time, cmpI (x : Nat) (y : Nat)] := by simp [cM]
  rw [e]
  generalize j.getD x default = X at *
  generalize j.getD y default = Y at *
  obtain ⟨x1, x2, x3, l⟩ := X
  obtain ⟨y1, y2, y3, l'⟩ := Y
  simp only [Job.cells] at *
  have hi : ∀ (p q : Int), Ints (m ++ [some { cells := iv [p, q] }]) (.slice (some ⟨m.length + 0, 0, none⟩) 2 2) [p, q] := fun p q => ints_new (k := 0) rfl rfl _ rfl
  rw [← List.append_nil m] at h2 r1 r2
  refine ACall.start Try.func118 rfl rfl ?_
  (repeat (first | (with_reducible refine AWo.cons ?_) | ((with_reducible refine Step.id ?_); first | ((with_reducible apply Step.move); exact rfl; exact rfl) | ((with_reducible apply Step.assign); exact rfl; exact rfl) | ((with_reducible apply Step.load); exact rfl; (focus (decide +kernel)); exact rfl; (focus (first | assumption | exact h2 | exact r1.at_ 0 rfl | exact r2.at_ 0 rfl | exact Rd.new rfl (iv_get (by first | omega | (simp; omega))) | exact Rd.new rfl (bv_get (by first | omega | (simp; omega))) | exact Rd.new rfl rfl | exact Rd.old _ (by assumption) | exact Rd.old _ (h2) | exact Rd.old _ (r1.at_ 0 rfl) | exact Rd.old _ (r2.at_ 0 rfl)))) | ((with_reducible apply Step.loadL (n := 4)); exact rfl; (focus (decide +kernel)); (focus (decide +kernel)); exact rfl; (focus (first | assumption | exact RdL.new rfl rfl | exact RdL.old _ (by assumption) | exact h2 | exact RdL.old _ (h2) | exact r1.at_ 0 rfl | exact RdL.old _ (r1.at_ 0 rfl) | exact r2.at_ 0 rfl | exact RdL.old _ (r2.at_ 0 rfl))); exact rfl; exact rfl) | ((with_reducible apply Step.ix1z); exact rfl; (focus (first | assumption | exact Sl.mk (by omega) | exact gv_sl _ _ | exact Sl.nil _ _ | exact Sl.nil 0 0)); exact rfl; (focus (decide +kernel)); exact rfl; (focus (omega))) | ((with_reducible apply Step.ix1); exact rfl; (focus (first | assumption | exact Sl.mk (by omega) | exact gv_sl _ _ | exact Sl.nil _ _ | exact Sl.nil 0 0)); exact rfl; (focus (decide +kernel)); exact rfl; (focus (omega))) | ((with_reducible apply Step.ixz (s := 4)); exact rfl; (focus (first | assumption | exact Sl.mk (by omega) | exact gv_sl _ _ | exact Sl.nil _ _ | exact Sl.nil 0 0)); exact rfl; (focus (decide +kernel)); exact rfl; (focus (omega))) | ((with_reducible apply Step.ix (s := 4)); exact rfl; (focus (first | assumption | exact Sl.mk (by omega) | exact gv_sl _ _ | exact Sl.nil _ _ | exact Sl.nil 0 0)); exact rfl; (focus (decide +kernel)); exact rfl; (focus (omega))) | ((with_reducible apply Step.field0); exact rfl; (focus (decide +kernel)); exact rfl) | ((with_reducible apply Step.callR fit); exact rfl; exact Try.func68; exact rfl; exact rfl; exact (compare_ok _ _ rfl)) | ((with_reducible apply Step.callR fit); exact rfl; exact Try.func119; exact rfl; exact rfl; exact (or_ok (hi _ _) (by simp) rfl)) | ((with_reducible apply Step.buildS 0); exact rfl; exact rfl; exact (fun _ _ => bs23y); exact rfl; (focus (first | (simp only [List.nil_append, List.cons_append, List.set_cons_zero, List.set_cons_succ, iv_set, bv_set, iv_rep, bv_rep]; done) | (simp only [List.nil_append, List.cons_append, List.set_cons_zero, List.set_cons_succ, iv_set, bv_set, iv_rep, bv_rep]; rfl) | rfl))) | ((with_reducible apply Step.buildS 1); exact rfl; exact rfl; exact (fun _ _ => bs23y); exact rfl; (focus (first | (simp only [List.nil_append, List.cons_append, List.set_cons_zero, List.set_cons_succ, iv_set, bv_set, iv_rep, bv_rep]; done) | (simp only [List.nil_append, List.cons_append, List.set_cons_zero, List.set_cons_succ, iv_set, bv_set, iv_rep, bv_rep]; rfl) | rfl))) | ((with_reducible apply Step.buildS 2); exact rfl; exact rfl; exact (fun _ _ => bs23y); exact rfl; (focus (first | (simp only [List.nil_append, List.cons_append, List.set_cons_zero, List.set_cons_succ, iv_set, bv_set, iv_rep, bv_rep]; done) | (simp only [List.nil_append, List.cons_append, List.set_cons_zero, List.set_cons_succ, iv_set, bv_set, iv_rep, bv_rep]; rfl) | rfl)))) | (with_reducible refine AWo.nil ?_) | ((with_reducible apply AW.seq)) | ((with_reducible apply Then.n)) | ((with_reducible apply AW.regL)) | ((with_reducible apply AW.block)) | ((with_reducible apply AW.drawL fit); (focus (decide +kernel))) | ((with_reducible apply AW.drawT fit (T := (.step 0 (.step 1 (.step 2 (.step 3 (.step 4 (.step 5 (.step 6 (.step 7 (.step 8 (.step 9 (.step 11 (.step 12 (.step 10 (.step 13 (.step 14 (.step 15 (.step 16 .done))))))))))))))))))); (focus (decide +kernel))) | ((with_reducible apply AWt.step); exact rfl) | ((with_reducible apply AWt.done)) | ((with_reducible apply AW.exit)) | ((with_reducible apply InBlk.n)) | ((with_reducible apply InBlk.hit)) | ((with_reducible apply InBlk.miss); exact rfl) | ((with_reducible apply Then.e)) | ((with_reducible apply AW.skip)) | ((with_reducible apply AW.condT); exact rfl; (focus (first | rfl | (simp only [decide_eq_true_eq, decide_eq_false_iff_not, Bool.not_eq_true', Bool.not_eq_false', Bool.not_true, Bool.not_false]; first | assumption | omega) | (simp; done) | (simp; omega)))) | ((with_reducible apply AW.condF); exact rfl; (focus (first | rfl | (simp only [decide_eq_true_eq, decide_eq_false_iff_not, Bool.not_eq_true', Bool.not_eq_false', Bool.not_true, Bool.not_false]; first | assumption | omega) | (simp; done) | (simp; omega))))))
  (refine AW.retD (l := [(5, _)]) (by repeat (first | exact trivial | (refine And.intro ⟨rfl, by (first | exact .int _ _ | exact Ren.of_gv (by first | (simp; done) | omega | (simp; omega)) | exact .bool _ | exact Ren.of_g0 rfl | exact .slice _ _ _ _ (by first | (simp; done) | omega | (simp; omega)) | exact .ptr _ _ (by first | (simp; done) | omega | (simp; omega)) | exact Ren.of_sl (by assumption) (by first | omega | (simp; omega)))⟩ ?_))) ?_; (repeat (first | refine Then.r ?_ | refine InBlk.r ?_)))
  exact ⟨_, rfl, rfl, rfl⟩
/-- The greatest by a comparison. -/
def mxI (c : Int → Int → Int) (l : List Int) : Nat → Int
  | 0 => l.getD 0 0
  | i + 1 => if 0 < c (l.getD (i + 1) 0) (mxI c l i) then l.getD (i + 1) 0 else mxI c l i
theorem mxI_mem (c : Int → Int → Int) {l : List Int} : ∀ i, i < l.length → mxI c l i ∈ l
  | 0, h => mem_getD' h
  | i + 1, h => by
    unfold mxI
    split
    · exact mem_getD' h
    · exact mxI_mem c i (by omega)
set_option maxRecDepth 100000 in
theorem max_ok {m : AM} {v : Value} {l : List Int} {g : FuncId} {cap : Array Value} {fn : Func} {bd : Code} (hl : Ints m v l) (hpos : 0 < l.length) (hlen : l.length ≤ 1000000) (hf : Try.prog.funcs[g]? = some fn) (hb : fn.body = some bd) (c : Int → Int → Int)
    (hg : ∀ x y, x ∈ l → y ∈ l → ACall Try.prog g (#[] ++ #[.int .i64 x, .int .i64 y] ++ cap) m (Ret (.int .i64 (c x y)) m)) : ACall Try.prog 117 #[v, .func (.func g) #[] cap] m (Ret (.int .i64 (mxI c l (l.length - 1))) m) := by
  obtain ⟨a, o, h1, h2, h3⟩ := hl
  have h0 : Rd m a o (.int .i64 (l.getD 0 0)) := by have := h3 0 hpos; rwa [Nat.add_zero] at this
  refine ACall.start Try.func117 rfl rfl ?_
  (repeat (first | (with_reducible refine AWo.cons ?_) | ((with_reducible refine Step.id ?_); first | ((with_reducible apply Step.move); exact rfl; exact rfl) | ((with_reducible apply Step.assign); exact rfl; exact rfl) | ((with_reducible apply Step.load); exact rfl; (focus (decide +kernel)); exact rfl; (focus (first | assumption | exact Rd.new rfl (iv_get (by first | omega | (simp; omega))) | exact Rd.new rfl (bv_get (by first | omega | (simp; omega))) | exact Rd.new rfl rfl | exact Rd.old _ (by assumption)))) | ((with_reducible apply Step.ix1z); exact rfl; (focus (first | assumption | exact Sl.mk (by omega) | exact gv_sl _ _ | exact Sl.nil _ _ | exact Sl.nil 0 0)); exact rfl; (focus (decide +kernel)); exact rfl; (focus (omega))) | ((with_reducible apply Step.ix1); exact rfl; (focus (first | assumption | exact Sl.mk (by omega) | exact gv_sl _ _ | exact Sl.nil _ _ | exact Sl.nil 0 0)); exact rfl; (focus (decide +kernel)); exact rfl; (focus (omega))) | ((with_reducible apply Step.add); exact rfl; exact rfl; (focus (omega)); exact rfl) | ((with_reducible apply Step.lss); exact rfl; exact rfl; exact rfl) | ((with_reducible apply Step.gtr); exact rfl; exact rfl; exact rfl) | ((with_reducible apply Step.len); exact rfl; (focus (first | assumption | exact Sl.mk (by omega) | exact gv_sl _ _ | exact Sl.nil _ _ | exact Sl.nil 0 0)); (focus (decide +kernel)); exact rfl)) | (with_reducible refine AWo.nil ?_) | ((with_reducible apply AW.seq)) | ((with_reducible apply Then.n)) | ((with_reducible apply AW.regL)) | ((with_reducible apply AW.block)) | ((with_reducible apply AW.exit)) | ((with_reducible apply InBlk.n)) | ((with_reducible apply InBlk.hit)) | ((with_reducible apply InBlk.miss); exact rfl) | ((with_reducible apply Then.e)) | ((with_reducible apply AW.skip)) | ((with_reducible apply AW.condT); exact rfl; (focus (first | rfl | (simp only [decide_eq_true_eq, decide_eq_false_iff_not, Bool.not_eq_true', Bool.not_eq_false', Bool.not_true, Bool.not_false]; first | assumption | omega) | (simp; done) | (simp; omega)))) | ((with_reducible apply AW.condF); exact rfl; (focus (first | rfl | (simp only [decide_eq_true_eq, decide_eq_false_iff_not, Bool.not_eq_true', Bool.not_eq_false', Bool.not_true, Bool.not_false]; first | assumption | omega) | (simp; done) | (simp; omega))))))
  refine AW.loopT (fun n t L => ∃ k : Nat, n = l.length - k ∧ 1 ≤ k ∧ k ≤ l.length ∧ L = [] ∧
    t = [(0, v), (1, .func (.func g) #[] cap), (5, .int .i64 (mxI c l (k - 1))), (6, .int .i64 (k : Nat))]) ⟨_, [(0, v), (1, .func (.func g) #[] cap), (5, .int .i64 (l.getD 0 0)), (6, .int .i64 ((1 : Nat) : Int))], [], (Or.inl ⟨rfl, (by repeat (first | exact trivial | (refine And.intro rfl ?_)))⟩), 1, rfl, by omega, by omega, rfl, rfl⟩ ?_
  rintro n t L ⟨k, rfl, hk1, hk, rfl, rfl⟩
  rcases Nat.lt_or_ge k l.length with hlt | hge
  · have hr := h3 k hlt
    have hm := mxI_mem c (l := l) (k - 1) (by omega)
    have hgk := hg _ _ (mem_getD' hlt) hm
    have hs : mxI c l (k + 1 - 1) = if 0 < c (l.getD k 0) (mxI c l (k - 1)) then l.getD k 0 else mxI c l (k - 1) := by
      obtain ⟨k, rfl⟩ : ∃ q, k = q + 1 := ⟨k - 1, by omega⟩
      rfl
    generalize mxI c l (k - 1) = b at *
    generalize l.getD k 0 = x at *
    by_cases hc : 0 < c x b
    · rw [if_pos hc] at hs
      (repeat (first | (with_reducible refine AWo.cons ?_) | ((with_reducible refine Step.id ?_); first | ((with_reducible apply Step.move); exact rfl; exact rfl) | ((with_reducible apply Step.assign); exact rfl; exact rfl) | ((with_reducible apply Step.load); exact rfl; (focus (decide +kernel)); exact rfl; (focus (first | assumption | exact Rd.new rfl (iv_get (by first | omega | (simp; omega))) | exact Rd.new rfl (bv_get (by first | omega | (simp; omega))) | exact Rd.new rfl rfl | exact Rd.old _ (by assumption)))) | ((with_reducible apply Step.ix1z); exact rfl; (focus (first | assumption | exact Sl.mk (by omega) | exact gv_sl _ _ | exact Sl.nil _ _ | exact Sl.nil 0 0)); exact rfl; (focus (decide +kernel)); exact rfl; (focus (omega))) | ((with_reducible apply Step.ix1); exact rfl; (focus (first | assumption | exact Sl.mk (by omega) | exact gv_sl _ _ | exact Sl.nil _ _ | exact Sl.nil 0 0)); exact rfl; (focus (decide +kernel)); exact rfl; (focus (omega))) | ((with_reducible apply Step.add); exact rfl; exact rfl; (focus (omega)); exact rfl) | ((with_reducible apply Step.lss); exact rfl; exact rfl; exact rfl) | ((with_reducible apply Step.gtr); exact rfl; exact rfl; exact rfl) | ((with_reducible apply Step.len); exact rfl; (focus (first | assumption | exact Sl.mk (by omega) | exact gv_sl _ _ | exact Sl.nil _ _ | exact Sl.nil 0 0)); (focus (decide +kernel)); exact rfl) | ((with_reducible apply Step.callV fit); exact rfl; exact rfl; exact hf; exact hb; exact rfl; exact ((by rw [List.append_nil]; exact hgk)))) | (with_reducible refine AWo.nil ?_) | ((with_reducible apply AW.seq)) | ((with_reducible apply Then.n)) | ((with_reducible apply AW.regL)) | ((with_reducible apply AW.block)) | ((with_reducible apply AW.exit)) | ((with_reducible apply InBlk.n)) | ((with_reducible apply InBlk.hit)) | ((with_reducible apply InBlk.miss); exact rfl) | ((with_reducible apply Then.e)) | ((with_reducible apply AW.skip)) | ((with_reducible apply AW.condT); exact rfl; (focus (first | rfl | (simp only [decide_eq_true_eq, decide_eq_false_iff_not, Bool.not_eq_true', Bool.not_eq_false', Bool.not_true, Bool.not_false]; first | assumption | omega) | (simp; done) | (simp; omega)))) | ((with_reducible apply AW.condF); exact rfl; (focus (first | rfl | (simp only [decide_eq_true_eq, decide_eq_false_iff_not, Bool.not_eq_true', Bool.not_eq_false', Bool.not_true, Bool.not_false]; first | assumption | omega) | (simp; done) | (simp; omega))))))
      exact ⟨_, [(0, v), (1, .func (.func g) #[] cap), (5, .int .i64 x), (6, .int .i64 ((k + 1 : Nat) : Int))], [], by omega, (Or.inl ⟨rfl, (by repeat (first | exact trivial | (refine And.intro rfl ?_)))⟩), k + 1, rfl, by omega, by omega, rfl, by rw [hs]⟩
    · rw [if_neg hc] at hs
      (repeat (first | (with_reducible refine AWo.cons ?_) | ((with_reducible refine Step.id ?_); first | ((with_reducible apply Step.move); exact rfl; exact rfl) | ((with_reducible apply Step.assign); exact rfl; exact rfl) | ((with_reducible apply Step.load); exact rfl; (focus (decide +kernel)); exact rfl; (focus (first | assumption | exact Rd.new rfl (iv_get (by first | omega | (simp; omega))) | exact Rd.new rfl (bv_get (by first | omega | (simp; omega))) | exact Rd.new rfl rfl | exact Rd.old _ (by assumption)))) | ((with_reducible apply Step.ix1z); exact rfl; (focus (first | assumption | exact Sl.mk (by omega) | exact gv_sl _ _ | exact Sl.nil _ _ | exact Sl.nil 0 0)); exact rfl; (focus (decide +kernel)); exact rfl; (focus (omega))) | ((with_reducible apply Step.ix1); exact rfl; (focus (first | assumption | exact Sl.mk (by omega) | exact gv_sl _ _ | exact Sl.nil _ _ | exact Sl.nil 0 0)); exact rfl; (focus (decide +kernel)); exact rfl; (focus (omega))) | ((with_reducible apply Step.add); exact rfl; exact rfl; (focus (omega)); exact rfl) | ((with_reducible apply Step.lss); exact rfl; exact rfl; exact rfl) | ((with_reducible apply Step.gtr); exact rfl; exact rfl; exact rfl) | ((with_reducible apply Step.len); exact rfl; (focus (first | assumption | exact Sl.mk (by omega) | exact gv_sl _ _ | exact Sl.nil _ _ | exact Sl.nil 0 0)); (focus (decide +kernel)); exact rfl) | ((with_reducible apply Step.callV fit); exact rfl; exact rfl; exact hf; exact hb; exact rfl; exact ((by rw [List.append_nil]; exact hgk)))) | (with_reducible refine AWo.nil ?_) | ((with_reducible apply AW.seq)) | ((with_reducible apply Then.n)) | ((with_reducible apply AW.regL)) | ((with_reducible apply AW.block)) | ((with_reducible apply AW.exit)) | ((with_reducible apply InBlk.n)) | ((with_reducible apply InBlk.hit)) | ((with_reducible apply InBlk.miss); exact rfl) | ((with_reducible apply Then.e)) | ((with_reducible apply AW.skip)) | ((with_reducible apply AW.condT); exact rfl; (focus (first | rfl | (simp only [decide_eq_true_eq, decide_eq_false_iff_not, Bool.not_eq_true', Bool.not_eq_false', Bool.not_true, Bool.not_false]; first | assumption | omega) | (simp; done) | (simp; omega)))) | ((with_reducible apply AW.condF); exact rfl; (focus (first | rfl | (simp only [decide_eq_true_eq, decide_eq_false_iff_not, Bool.not_eq_true', Bool.not_eq_false', Bool.not_true, Bool.not_false]; first | assumption | omega) | (simp; done) | (simp; omega))))))
      exact ⟨_, [(0, v), (1, .func (.func g) #[] cap), (5, .int .i64 b), (6, .int .i64 ((k + 1 : Nat) : Int))], [], by omega, (Or.inl ⟨rfl, (by repeat (first | exact trivial | (refine And.intro rfl ?_)))⟩), k + 1, rfl, by omega, by omega, rfl, by rw [hs]⟩
  · obtain rfl : k = l.length := by omega
    (repeat (first | (with_reducible refine AWo.cons ?_) | ((with_reducible refine Step.id ?_); first | ((with_reducible apply Step.move); exact rfl; exact rfl) | ((with_reducible apply Step.assign); exact rfl; exact rfl) | ((with_reducible apply Step.load); exact rfl; (focus (decide +kernel)); exact rfl; (focus (first | assumption | exact Rd.new rfl (iv_get (by first | omega | (simp; omega))) | exact Rd.new rfl (bv_get (by first | omega | (simp; omega))) | exact Rd.new rfl rfl | exact Rd.old _ (by assumption)))) | ((with_reducible apply Step.ix1z); exact rfl; (focus (first | assumption | exact Sl.mk (by omega) | exact gv_sl _ _ | exact Sl.nil _ _ | exact Sl.nil 0 0)); exact rfl; (focus (decide +kernel)); exact rfl; (focus (omega))) | ((with_reducible apply Step.ix1); exact rfl; (focus (first | assumption | exact Sl.mk (by omega) | exact gv_sl _ _ | exact Sl.nil _ _ | exact Sl.nil 0 0)); exact rfl; (focus (decide +kernel)); exact rfl; (focus (omega))) | ((with_reducible apply Step.add); exact rfl; exact rfl; (focus (omega)); exact rfl) | ((with_reducible apply Step.lss); exact rfl; exact rfl; exact rfl) | ((with_reducible apply Step.gtr); exact rfl; exact rfl; exact rfl) | ((with_reducible apply Step.len); exact rfl; (focus (first | assumption | exact Sl.mk (by omega) | exact gv_sl _ _ | exact Sl.nil _ _ | exact Sl.nil 0 0)); (focus (decide +kernel)); exact rfl)) | (with_reducible refine AWo.nil ?_) | ((with_reducible apply AW.seq)) | ((with_reducible apply Then.n)) | ((with_reducible apply AW.regL)) | ((with_reducible apply AW.block)) | ((with_reducible apply AW.exit)) | ((with_reducible apply InBlk.n)) | ((with_reducible apply InBlk.hit)) | ((with_reducible apply InBlk.miss); exact rfl) | ((with_reducible apply Then.e)) | ((with_reducible apply AW.skip)) | ((with_reducible apply AW.condT); exact rfl; (focus (first | rfl | (simp only [decide_eq_true_eq, decide_eq_false_iff_not, Bool.not_eq_true', Bool.not_eq_false', Bool.not_true, Bool.not_false]; first | assumption | omega) | (simp; done) | (simp; omega)))) | ((with_reducible apply AW.condF); exact rfl; (focus (first | rfl | (simp only [decide_eq_true_eq, decide_eq_false_iff_not, Bool.not_eq_true', Bool.not_eq_false', Bool.not_true, Bool.not_false]; first | assumption | omega) | (simp; done) | (simp; omega))))))
    (refine AW.retD (l := [(4, _)]) (by repeat (first | exact trivial | (refine And.intro ⟨rfl, by (first | exact .int _ _ | exact Ren.of_gv (by first | (simp; done) | omega | (simp; omega)) | exact .bool _ | exact Ren.of_g0 rfl | exact .slice _ _ _ _ (by first | (simp; done) | omega | (simp; omega)) | exact .ptr _ _ (by first | (simp; done) | omega | (simp; omega)) | exact Ren.of_sl (by assumption) (by first | omega | (simp; omega)))⟩ ?_))) ?_; (repeat (first | refine Then.r ?_ | refine InBlk.r ?_)))
    exact ⟨_, rfl, rfl, rfl⟩
set_option maxRecDepth 100000 in
theorem f120_ok {m : AM} {p : Nat} (x i : Int) (hp : Rd m p 0 (.int .i64 i)) : ACall Try.prog 120 #[.int .i64 x, .pointer (some ⟨p, 0, none⟩)] m (Ret (.bool (decide (x = i))) m) := by
  refine ACall.start Try.func120 rfl rfl ?_
  rw [← List.append_nil m] at hp
  (repeat (first | (with_reducible refine AWo.cons ?_) | ((with_reducible refine Step.id ?_); first | ((with_reducible apply Step.move); exact rfl; exact rfl) | ((with_reducible apply Step.assign); exact rfl; exact rfl) | ((with_reducible apply Step.load); exact rfl; (focus (decide +kernel)); exact rfl; (focus (first | assumption | exact hp | exact Rd.new rfl (iv_get (by first | omega | (simp; omega))) | exact Rd.new rfl (bv_get (by first | omega | (simp; omega))) | exact Rd.new rfl rfl | exact Rd.old _ (by assumption) | exact Rd.old _ (hp)))) | ((with_reducible apply Step.eql); exact rfl; exact rfl; exact rfl) | ((with_reducible apply Step.eqNil); exact rfl; exact rfl; exact rfl; exact rfl)) | (with_reducible refine AWo.nil ?_) | ((with_reducible apply AW.seq)) | ((with_reducible apply Then.n)) | ((with_reducible apply AW.regL)) | ((with_reducible apply AW.block)) | ((with_reducible apply AW.exit)) | ((with_reducible apply InBlk.n)) | ((with_reducible apply InBlk.hit)) | ((with_reducible apply InBlk.miss); exact rfl) | ((with_reducible apply Then.e)) | ((with_reducible apply AW.skip)) | ((with_reducible apply AW.condT); exact rfl; (focus (first | rfl | (simp only [decide_eq_true_eq, decide_eq_false_iff_not, Bool.not_eq_true', Bool.not_eq_false', Bool.not_true, Bool.not_false]; first | assumption | omega) | (simp; done) | (simp; omega)))) | ((with_reducible apply AW.condF); exact rfl; (focus (first | rfl | (simp only [decide_eq_true_eq, decide_eq_false_iff_not, Bool.not_eq_true', Bool.not_eq_false', Bool.not_true, Bool.not_false]; first | assumption | omega) | (simp; done) | (simp; omega))))))
  (refine AW.retD (l := [(3, _)]) (by repeat (first | exact trivial | (refine And.intro ⟨rfl, by (first | exact .int _ _ | exact Ren.of_gv (by first | (simp; done) | omega | (simp; omega)) | exact .bool _ | exact Ren.of_g0 rfl | exact .slice _ _ _ _ (by first | (simp; done) | omega | (simp; omega)) | exact .ptr _ _ (by first | (simp; done) | omega | (simp; omega)) | exact Ren.of_sl (by assumption) (by first | omega | (simp; omega)))⟩ ?_))) ?_; (repeat (first | refine Then.r ?_ | refine InBlk.r ?_)))
  exact ⟨_, rfl, rfl, rfl⟩
end Go.Proofs.Ytmomjannlnafcaa.Abs
namespace Go.Proofs.Ytmomjannlnafcaa.Abs
set_option linter.unusedSimpArgs false
set_option linter.unusedVariables false
open Go.RowKit
open Go.Proofs.Ytmomjannlnafcaa.Sim
open Go.Sort
variable {base : Nat} {R : Pl} {m : AM} {w : World}
theorem iv_l {l z : List Int} {j : Nat} (h : j < l.length) : (iv (l ++ z))[j]? = some (.int .i64 (l.getD j 0)) := by
  rw [iv_get (by simp; omega)]
  simp [List.getElem?_append_left h]
theorem iv_r {l k z : List Int} (hl : k.length = l.length) {j : Nat} (h : ¬ j < l.length) : (iv (l ++ z))[j]? = (iv (k ++ z))[j]? := by
  simp only [iv, List.map_append]
  rw [List.getElem?_append_right (by simp; omega), List.getElem?_append_right (by simp; omega)]
  simp [hl]
theorem rel_int_cellsZ {l z : List Int} {cur : Array Value} {off : Nat} (h : ∀ (j : Nat) (v : Value), (iv (l ++ z))[j]? = some v → ∃ v', cur[off + j]? = some v' ∧ Rel R v v' ∧ v'.oneCell' = true) (j : Nat) (hj : j < l.length) : cur[off + j]? = some (.int .i64 (l.getD j 0)) := by
  obtain ⟨v', h1, h2, _⟩ := h j _ (iv_l hj)
  rw [h1]
  cases h2; rfl
theorem sorted_postZ {i : Nat} {b : Blk} {p : Sim.Place} {l k z : List Int} {n : Nat} {os : Array Obj} (h : MRep base R m w) (hi : m[i]? = some (some b)) (hs : b.kind.solid = true) (hp : R i = some p) (hb : b.cells = iv (l ++ z)) (hl : k.length = l.length) :
    Post base m (m.set i (some { b with cells := iv (k ++ z) })) R R w (grow (putRow (Value.int .i64) (Sort.ahead w n) p.block p.off k.toArray) os) := by
  have hr := h.of hi hp
  unfold BRep at hr
  obtain ⟨hlt, hr⟩ := hr
  have key : ∃ cur ty, w.heap[p.block]? = some (.cells cur ty (0, 0)) ∧ base ≤ p.block ∧ p.off + b.cells.length + p.extra * b.size ≤ cur.size ∧ (b.kind = .own → p.extra = 0) ∧
      ∀ (j : Nat) (v : Value), b.cells[j]? = some v → ∃ v', cur[p.off + j]? = some v' ∧ Rel R v v' ∧ v'.oneCell' = true := by
    split at hr
    · rename_i e; rw [e] at hs; cases hs
    · rename_i e; rw [e] at hs; cases hs
    · exact hr
  obtain ⟨cur, ty, k1, k2, k3, k4, k5⟩ := key
  have hcl : b.cells.length = l.length + z.length := by rw [hb, iv_len]; simp
  let w1 := putRow (Value.int .i64) (Sort.ahead w n) p.block p.off k.toArray
  have hw1 : w1.heap[p.block]? = some (.cells (putCells (Value.int .i64) p.off k.toArray cur) ty (0, 0)) := by
    simp [w1, putRow, mapBlock, Sort.ahead, Array.getElem?_modify, k1, onCells]
  have hot : ∀ q, q ≠ p.block → w1.heap[q]? = w.heap[q]? := fun q hq => by
    simp only [w1, putRow, mapBlock, Sort.ahead, Array.getElem?_modify]
    rw [if_neg (Ne.symm hq)]
  have hsz : w1.heap.size = w.heap.size := by simp [w1, putRow, mapBlock, Sort.ahead]
  have hm1 : MRep base R (m.set i (some { b with cells := iv (k ++ z) })) w1 := by
    refine h.turn hi hs hp _ hs ?_ hot hsz
    unfold BRep
    refine ⟨by rw [hsz]; exact hlt, ?_⟩
    split
    · rename_i e; rw [e] at hs; cases hs
    · rename_i e; rw [e] at hs; cases hs
    · refine ⟨_, ty, hw1, k2, ?_, fun e => k4 e, fun j v hj => ?_⟩
      · simp only [putCells, Array.size_mapIdx, iv_len, List.length_append]
        rw [hl, ← hcl]; exact k3
      · simp only at hj
        have hjl : j < k.length + z.length := by
          have := (List.getElem?_eq_some_iff.1 hj).1
          simpa [iv_len] using this
        have hcs : p.off + j < cur.size := by omega
        by_cases hjk : j < k.length
        · rw [iv_l hjk] at hj
          injection hj with hj; subst hj
          refine ⟨.int .i64 (k.getD j 0), ?_, .int _ _, rfl⟩
          simp only [putCells, Array.getElem?_mapIdx, Array.getElem?_eq_getElem hcs, Option.map_some, Option.some.injEq]
          rw [if_pos ⟨by omega, by simpa using hjk⟩, Nat.add_sub_cancel_left]
          simp [hjk]
        · rw [iv_r (k := l) hl.symm hjk, ← hb] at hj
          obtain ⟨v', e1, e2, e3⟩ := k5 j v hj
          refine ⟨v', ?_, e2, e3⟩
          rw [Array.getElem?_eq_getElem hcs] at e1
          simp only [putCells, Array.getElem?_mapIdx, Array.getElem?_eq_getElem hcs, Option.map_some, Option.some.injEq]
          rw [if_neg (fun hh => hjk (by have := hh.2; simp only [List.size_toArray] at this; omega))]
          simpa using e1
  refine ⟨.refl R, hm1.kept (fun q hq => ?_), rfl, rfl, rfl, by rw [size_grow]; show w.heap.size ≤ w1.heap.size + _; omega, fun q hq ho => ?_, fun q ho => .inr ?_⟩
  · simp only [grow]
    rw [Array.getElem?_append_left hq]
  · show (grow w1 os).heap[q]? = _
    simp only [grow]
    rw [Array.getElem?_append_left (by omega), hot q (fun e => ho ⟨i, b, p, hi, hs, hp, e.symm⟩)]
  · obtain ⟨j, c, q', q1, q2, q3, q4⟩ := ho
    by_cases e : j = i
    · subst e; exact ⟨j, b, q', hi, hs, q3, q4⟩
    · rw [List.getElem?_set_ne (fun x => e x.symm)] at q1
      exact ⟨j, c, q', q1, q2, q3, q4⟩
theorem holds_ofZ {i : Nat} {b : Blk} {p : Sim.Place} {l z : List Int} (h : MRep base R m w) (hi : m[i]? = some (some b)) (hs : b.kind.solid = true) (hp : R i = some p) (hb : b.cells = iv (l ++ z)) : Holds (Value.int .i64) w p.block p.off l.toArray ∧ p.block < w.heap.size := by
  have hr := h.of hi hp
  unfold BRep at hr
  obtain ⟨hlt, hr⟩ := hr
  refine ⟨fun j hj => ?_, hlt⟩
  have key : ∃ cur ty, w.heap[p.block]? = some (.cells cur ty (0, 0)) ∧
      ∀ (j : Nat) (v : Value), b.cells[j]? = some v → ∃ v', cur[p.off + j]? = some v' ∧ Rel R v v' ∧ v'.oneCell' = true := by
    split at hr
    · rename_i e; rw [e] at hs; cases hs
    · rename_i e; rw [e] at hs; cases hs
    · obtain ⟨cur, ty, a1, _, _, _, a5⟩ := hr; exact ⟨cur, ty, a1, a5⟩
  obtain ⟨cur, ty, k1, k5⟩ := key
  have hj' : j < l.length := by simpa using hj
  refine ⟨?_, ?_⟩
  · simp only [World.cell?, k1]
    rw [rel_int_cellsZ (by rw [hb] at k5; exact k5) j hj']
    simp [hj']
  · simp [World.frozen?, k1]
theorem sort_callZ {P : Program} {f : FuncId} {i n c : Nat} {b : Blk} {l k z : List Int} (hi : m[i]? = some (some b)) (hs : b.kind.solid = true) (hb : b.cells = iv (l ++ z)) (hn : n = l.length) (hl : k.length = l.length)
    (h : ∀ (blk off cap : Nat) (w : World), Holds (Value.int .i64) w blk off l.toArray → blk < w.heap.size → Calls P f #[.slice (some ⟨blk, off, none⟩) l.length cap] w fun e w' => e = .returned (.tuple #[]) ∧ ∃ n os, w' = grow (putRow (Value.int .i64) (Sort.ahead w n) blk off k.toArray) os) :
    ACall P f #[.slice (some ⟨i, 0, none⟩) n c] m (fun v m' => v = .tuple #[] ∧ m' = m.set i (some { b with cells := iv (k ++ z) })) := by
  subst hn
  intro base R w args' hbase hm hargs
  have h1 := hargs.1
  have h2 := hargs.2 0 (by simp)
  obtain ⟨x, rfl⟩ : ∃ x, args' = #[x] := ⟨args'[0]'(by simp at h1; omega), by
    apply Array.ext
    · simp at h1; simp; omega
    · intro j a b; have : j = 0 := by simp at b; omega
      subst this; rfl⟩
  simp at h2
  cases h2 with
  | slice _ _ _ _ p hp hle =>
    obtain ⟨hH, hlt⟩ := holds_ofZ hm hi hs hp hb
    refine (h p.block (p.off + 0) (c + p.extra) w hH hlt).mono ?_
    rintro e w' ⟨rfl, n, os, rfl⟩
    exact ⟨.tuple #[], .tuple #[], R, _, rfl, .tuple _ _ rfl (fun i hi => absurd hi (by simp)), sorted_postZ hm hi hs hp hb hl, rfl, rfl⟩
end Go.Proofs.Ytmomjannlnafcaa.Abs
