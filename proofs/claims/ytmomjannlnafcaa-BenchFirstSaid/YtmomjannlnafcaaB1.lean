/- Chapter 8: the span of an order, and what tells whether jobs and orders are valid. -/
import Derived.Test.YtmomjannlnafcaaAbs8
import Derived.Test.YtmomjannlnafcaaProg
namespace Go.Proofs.Ytmomjannlnafcaa.Abs
set_option linter.unusedSimpArgs false
set_option linter.unusedVariables false
open Go.RowKit
open Go.Proofs.Ytmomjannlnafcaa.Sim
open Go.Proofs
theorem fit : Fit Try.prog := ⟨fun f fn h => by
  have key : (Try.prog.funcs.toList.all fun fn => !(fn.name == "runtime.NumGoroutine")) = true := by kernel_rfl
  have := List.all_eq_true.1 key fn (by simpa using Array.mem_of_getElem? h)
  simpa using this, by kernel_rfl⟩
theorem el23 : elemB Try.prog 23 = some (3, 1, 8, #[.int .i64 0]) := by kernel_rfl
theorem el84 : elemB Try.prog 84 = some (4, 1, 1, #[.bool false]) := by kernel_rfl
theorem un23 : Try.prog.underlying 23 = some (.slice 3) := by kernel_rfl
structure Two where
  cut : Int
  sew : Int
instance : Inhabited Two := ⟨⟨0, 0⟩⟩
def Two.cells (x : Two) : List Value := [.int .i64 x.cut, .int .i64 x.sew]
def Twos (m : AM) (v : Value) (l : List Two) : Prop := ∃ a o, Sl v a o l.length ∧ a < m.length ∧ ∀ k, k < l.length → RdL m a (o + k * 2) (l.getD k default).cells
theorem Twos.old {m : AM} {v : Value} {l : List Two} (L : AM) (h : Twos m v l) : Twos (m ++ L) v l := by
  obtain ⟨a, o, h1, h2, h3⟩ := h
  exact ⟨a, o, h1, by simp; omega, fun k hk => (h3 k hk).old L⟩
def tlim1 (x : Two) : Bool := decide (0 ≤ x.cut ∧ x.cut ≤ 10000 ∧ 0 ≤ x.sew ∧ x.sew ≤ 10000)
def tlim (j : List Two) : Prop := ∀ k, k < j.length → 0 ≤ (j.getD k default).cut ∧ (j.getD k default).cut ≤ 10000 ∧ 0 ≤ (j.getD k default).sew ∧ (j.getD k default).sew ≤ 10000
def twosB (j : List Two) : Bool := decide (j.length ≤ 40) && j.all tlim1
theorem tlim_of {j : List Two} (h : twosB j = true) : tlim j ∧ j.length ≤ 40 := by
  simp only [twosB, Bool.and_eq_true, decide_eq_true_eq, List.all_eq_true] at h
  refine ⟨fun k hk => ?_, h.1⟩
  have := h.2 _ (List.getElem_mem hk)
  simpa [tlim1, hk] using this
/-- One step of the span. -/
def spanS (j : List Two) (q : Int × Int) (i : Nat) : Int × Int := (q.1 + (j.getD i default).cut, max (q.1 + (j.getD i default).cut) q.2 + (j.getD i default).sew)
def spanF (j : List Two) (l : List Nat) : Int × Int := l.foldl (spanS j) (0, 0)
theorem take_snoc {α : Type} [Inhabited α] (l : List α) (k : Nat) (d : α) (h : k < l.length) : l.take (k + 1) = l.take k ++ [l.getD k d] := by
  rw [List.take_succ_eq_append_getElem h]; simp [h]
-- function 91
set_option maxRecDepth 100000 in
theorem span_ok {m : AM} {v w : Value} {j : List Two} {l : List Nat} (hj : Twos m v j) (hl : Nats m w l) (hin : ∀ k, k < l.length → l.getD k 0 < j.length) (hlim : tlim j) (hlen : l.length ≤ 1000) :
    ACall Try.prog 91 #[v, w] m (Ret (.int .i64 (spanF j l).2) m) := by
  obtain ⟨a, o, h1, h2, h3⟩ := hj
  obtain ⟨b, u, k1, k2, k3⟩ := hl
  refine ACall.start Try.func91 rfl rfl ?_
  (repeat (first | (with_reducible refine AWo.cons ?_) | ((with_reducible refine Step.id ?_); first | ((with_reducible apply Step.move); exact rfl; exact rfl) | ((with_reducible apply Step.assign); exact rfl; exact rfl) | ((with_reducible apply Step.len); exact rfl; (focus (assumption)); (focus (decide +kernel)); exact rfl)) | (with_reducible refine AWo.nil ?_) | ((with_reducible apply AW.seq)) | ((with_reducible apply Then.n)) | ((with_reducible apply AW.regL)) | ((with_reducible apply AW.block))))
  refine AW.loopT (fun n t L => ∃ (k : Nat) (c s : Int), n = l.length - k ∧ k ≤ l.length ∧ L = [] ∧ (c, s) = spanF j (l.take k) ∧ 0 ≤ c ∧ c ≤ 10000 * k ∧ 0 ≤ s ∧ s ≤ 20000 * k ∧
    t = [(0, v), (1, w), (5, .int .i64 c), (6, .int .i64 s), (9, w), (10, .int .i64 (l.length : Nat)), (11, .int .i64 (k : Nat))]) ⟨_, _, _, (Or.inl ⟨rfl, (by repeat (first | exact trivial | (refine And.intro rfl ?_)))⟩), 0, 0, 0, rfl, Nat.zero_le _, rfl, rfl, by omega, by omega, by omega, by omega, rfl⟩ ?_
  rintro n t L ⟨k, c, s, rfl, hk, rfl, es, e1, e2, e3, e4, rfl⟩
  rcases Nat.lt_or_ge k l.length with hlt | hge
  · have ts := take_snoc l k 0 hlt
    have hi := hin k hlt
    obtain ⟨c1, c2, c3, c4⟩ := hlim _ hi
    have es : spanF j (l.take (k + 1)) = spanS j (c, s) (l.getD k 0) := by rw [ts, es]; simp [spanF]
    have r1 := k3 k hlt
    have r2 := h3 _ hi
    generalize l.getD k 0 = i at ts hi c1 c2 c3 c4 es r1 r2
    (repeat (first | (with_reducible refine AWo.cons ?_) | ((with_reducible refine Step.id ?_); first | ((with_reducible apply Step.move); exact rfl; exact rfl) | ((with_reducible apply Step.assign); exact rfl; exact rfl) | ((with_reducible apply Step.load); exact rfl; (focus (decide +kernel)); exact rfl; (focus (first | exact Rd.old _ (by assumption) | exact Rd.old _ (r2.at_ 0 rfl) | exact Rd.old _ (r2.at_ 1 rfl)))) | ((with_reducible apply Step.ix1); exact rfl; (focus (assumption)); exact rfl; (focus (decide +kernel)); exact rfl; (focus (omega))) | ((with_reducible apply Step.ix (s := 2)); exact rfl; (focus (assumption)); exact rfl; (focus (decide +kernel)); exact rfl; (focus (omega))) | ((with_reducible apply Step.field0); exact rfl; (focus (decide +kernel)); exact rfl) | ((with_reducible apply Step.field (k := 1)); exact rfl; (focus (decide +kernel)); exact rfl) | ((with_reducible apply Step.add); exact rfl; exact rfl; (focus (omega)); exact rfl) | ((with_reducible apply Step.lss); exact rfl; exact rfl; exact rfl) | ((with_reducible apply Step.max); exact rfl; exact rfl; exact rfl)) | (with_reducible refine AWo.nil ?_) | ((with_reducible apply AW.seq)) | ((with_reducible apply Then.n)) | ((with_reducible apply AW.regL)) | ((with_reducible apply AW.block)) | ((with_reducible apply InBlk.n)) | ((with_reducible apply AW.skip)) | ((with_reducible apply AW.condT); exact rfl; (focus ((simp only [decide_eq_true_eq, decide_eq_false_iff_not, Bool.not_eq_true', Bool.not_eq_false', Bool.not_true, Bool.not_false]; first | assumption | omega))))))
    exact ⟨_, _, _, by omega, (Or.inl ⟨rfl, (by repeat (first | exact trivial | (refine And.intro rfl ?_)))⟩), k + 1, _, _, rfl, by omega, rfl, es.symm, by omega, by omega, by omega, by omega, rfl⟩
  · (repeat (first | (with_reducible refine AWo.cons ?_) | ((with_reducible refine Step.id ?_); first | ((with_reducible apply Step.move); exact rfl; exact rfl) | ((with_reducible apply Step.assign); exact rfl; exact rfl) | ((with_reducible apply Step.lss); exact rfl; exact rfl; exact rfl)) | (with_reducible refine AWo.nil ?_) | ((with_reducible apply AW.seq)) | ((with_reducible apply Then.n)) | ((with_reducible apply AW.regL)) | ((with_reducible apply AW.exit)) | ((with_reducible apply InBlk.hit)) | ((with_reducible apply Then.e)) | ((with_reducible apply AW.condF); exact rfl; (focus ((simp only [decide_eq_true_eq, decide_eq_false_iff_not, Bool.not_eq_true', Bool.not_eq_false', Bool.not_true, Bool.not_false]; first | assumption | omega))))))
    (refine AW.retD (l := [(4, _)]) (by repeat (first | exact trivial | (refine And.intro ⟨rfl, by (exact .int _ _)⟩ ?_))) ?_; (repeat (first | refine Then.r ?_ | refine InBlk.r ?_)))
    obtain rfl : k = l.length := by omega
    simp only [List.take_length] at es
    exact ⟨_, rfl, by rw [← es], rfl⟩
-- function 83
set_option maxRecDepth 100000 in
theorem upTo_ok {m : AM} (n : Nat) (hn : n ≤ 100000) : ACall Try.prog 83 #[.int .i64 (n : Nat)] m (New (some { cells := iv ((List.range n).map (Nat.cast : Nat → Int)) }) n m) := by
  refine ACall.start Try.func83 rfl rfl ?_
  (repeat (first | (with_reducible refine AWo.cons ?_) | ((with_reducible refine Step.id ?_); first | ((with_reducible apply Step.move); exact rfl; exact rfl) | ((with_reducible apply Step.assign); exact rfl; exact rfl) | ((with_reducible apply Step.len); exact rfl; (focus (exact Sl.mk (by omega))); (focus (decide +kernel)); exact rfl) | ((with_reducible apply Step.make1 0); exact rfl; exact rfl; exact rfl; exact el23; (focus (omega)); exact rfl; (focus (first | (simp only [List.nil_append, List.cons_append, List.set_cons_zero, List.set_cons_succ, iv_set, bv_set, iv_rep, bv_rep]; done) | (simp only [List.nil_append, List.cons_append, List.set_cons_zero, List.set_cons_succ, iv_set, bv_set, iv_rep, bv_rep]; rfl) | rfl)))) | (with_reducible refine AWo.nil ?_) | ((with_reducible apply AW.seq)) | ((with_reducible apply Then.n)) | ((with_reducible apply AW.regL)) | ((with_reducible apply AW.block))))
  refine AW.loopT (fun r t L => ∃ k : Nat, r = n - k ∧ k ≤ n ∧ L = [some { cells := iv ((List.range k).map (Nat.cast : Nat → Int) ++ List.replicate (n - k) 0) }] ∧
    t = [(3, .slice (some ⟨m.length + 0, 0, none⟩) n n), (8, .int .i64 (n : Nat)), (9, .int .i64 (k : Nat))]) ⟨_, _, _, (Or.inl ⟨rfl, (by repeat (first | exact trivial | (refine And.intro rfl ?_)))⟩), 0, rfl, Nat.zero_le _, by simp, rfl⟩ ?_
  rintro r t L ⟨k, rfl, hk, rfl, rfl⟩
  rcases Nat.lt_or_ge k n with hlt | hge
  · (repeat (first | (with_reducible refine AWo.cons ?_) | ((with_reducible refine Step.id ?_); first | ((with_reducible apply Step.move); exact rfl; exact rfl) | ((with_reducible apply Step.assign); exact rfl; exact rfl) | ((with_reducible apply Step.ix1z); exact rfl; (focus (exact Sl.mk (by omega))); exact rfl; (focus (decide +kernel)); exact rfl; (focus (omega))) | ((with_reducible apply Step.add); exact rfl; exact rfl; (focus (omega)); exact rfl) | ((with_reducible apply Step.lss); exact rfl; exact rfl; exact rfl) | ((with_reducible apply Step.store (k := 0)); exact rfl; exact rfl; exact rfl; exact rfl; (focus (decide +kernel)); exact rfl; exact rfl; (focus (first | omega | (simp [iv, bv]; done) | (simp [iv, bv]; omega))); (focus (first | (simp only [List.nil_append, List.cons_append, List.set_cons_zero, List.set_cons_succ, iv_set, bv_set, iv_rep, bv_rep]; done) | (simp only [List.nil_append, List.cons_append, List.set_cons_zero, List.set_cons_succ, iv_set, bv_set, iv_rep, bv_rep]; rfl) | rfl)))) | (with_reducible refine AWo.nil ?_) | ((with_reducible apply AW.seq)) | ((with_reducible apply Then.n)) | ((with_reducible apply AW.regL)) | ((with_reducible apply AW.block)) | ((with_reducible apply InBlk.n)) | ((with_reducible apply AW.skip)) | ((with_reducible apply AW.condT); exact rfl; (focus ((simp only [decide_eq_true_eq, decide_eq_false_iff_not, Bool.not_eq_true', Bool.not_eq_false', Bool.not_true, Bool.not_false]; first | assumption | omega))))))
    refine ⟨_, _, _, by omega, (Or.inl ⟨rfl, (by repeat (first | exact trivial | (refine And.intro rfl ?_)))⟩), k + 1, rfl, by omega, ?_, rfl⟩
    have : ((List.range k).map (Nat.cast : Nat → Int) ++ List.replicate (n - k) 0).set k (k : Int) = (List.range (k + 1)).map (Nat.cast : Nat → Int) ++ List.replicate (n - (k + 1)) 0 := by
      rw [show n - k = (n - (k + 1)) + 1 by omega, List.replicate_succ, List.set_append_right _ _ (by simp)]
      simp [List.range_succ]
    rw [this]
  · (repeat (first | (with_reducible refine AWo.cons ?_) | ((with_reducible refine Step.id ?_); first | ((with_reducible apply Step.move); exact rfl; exact rfl) | ((with_reducible apply Step.assign); exact rfl; exact rfl) | ((with_reducible apply Step.lss); exact rfl; exact rfl; exact rfl)) | (with_reducible refine AWo.nil ?_) | ((with_reducible apply AW.seq)) | ((with_reducible apply Then.n)) | ((with_reducible apply AW.regL)) | ((with_reducible apply AW.exit)) | ((with_reducible apply InBlk.hit)) | ((with_reducible apply Then.e)) | ((with_reducible apply AW.condF); exact rfl; (focus ((simp only [decide_eq_true_eq, decide_eq_false_iff_not, Bool.not_eq_true', Bool.not_eq_false', Bool.not_true, Bool.not_false]; first | assumption | omega))))))
    obtain rfl : k = n := by omega
    (refine AW.retB (l := [(2, _)]) (Or.inl ⟨rfl, (by repeat (first | exact trivial | (refine And.intro rfl ?_)))⟩) ?_; (repeat (first | refine Then.r ?_ | refine InBlk.r ?_)))
    exact ⟨_, rfl, rfl, by simp⟩
end Go.Proofs.Ytmomjannlnafcaa.Abs
