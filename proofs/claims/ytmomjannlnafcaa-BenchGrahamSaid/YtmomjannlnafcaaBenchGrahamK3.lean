/- Proved here: what the proof of BenchGraham rests on, part 3 of 3. Conditions: those that each theorem names. -/
import Derived.Test.YtmomjannlnafcaaBenchGrahamK2
namespace Go.Proofs.Ytmomjannlnafcaa.Abs
set_option linter.unusedSimpArgs false
set_option linter.unusedVariables false
open Go.RowKit
open Go.Proofs.Ytmomjannlnafcaa.Sim
open Go.Proofs
def time1 (t : Int) : Bool := decide (1 ≤ t ∧ t ≤ 10000)
def timesB (l : List Int) (m : Int) : Bool := decide (l.length ≤ 40) && decide (1 ≤ m) && decide (m ≤ 8) && l.all time1
structure TOk (l : List Int) (m : Int) : Prop where
  len : l.length ≤ 40
  m1 : 1 ≤ m
  m8 : m ≤ 8
  t : ∀ k, k < l.length → 1 ≤ l.getD k 0 ∧ l.getD k 0 ≤ 10000
theorem TOk.of {l : List Int} {m : Int} (h : timesB l m = true) : TOk l m := by
  simp only [timesB, Bool.and_eq_true, decide_eq_true_eq, List.all_eq_true] at h
  refine ⟨h.1.1.1, h.1.1.2, h.1.2, fun k hk => ?_⟩
  have := h.2 _ (List.getElem_mem hk)
  simpa [time1, hk] using this
set_option maxRecDepth 100000 in
theorem f104_ok {m : AM} (x : Int) {b : Bool} (hb : (!time1 x) = b) : ACall Try.prog 104 #[.int .i64 x] m (Ret (.bool b) m) := by
  subst hb
  refine ACall.start Try.func104 rfl rfl ?_
  by_cases h : x < 1
  · (repeat (first | (with_reducible refine AWo.cons ?_) | ((with_reducible refine Step.id ?_); first | ((with_reducible apply Step.gdF); exact rfl; exact rfl; (focus ((simp only [decide_eq_true_eq, decide_eq_false_iff_not, Bool.not_eq_true', Bool.not_eq_false', Bool.not_true, Bool.not_false]; first | assumption | omega)))) | ((with_reducible apply Step.move); exact rfl; exact rfl) | ((with_reducible apply Step.assign); exact rfl; exact rfl) | ((with_reducible apply Step.lss); exact rfl; exact rfl; exact rfl) | ((with_reducible apply Step.pickT); exact rfl; exact rfl; exact rfl; exact rfl; (focus ((simp only [decide_eq_true_eq, decide_eq_false_iff_not, Bool.not_eq_true', Bool.not_eq_false', Bool.not_true, Bool.not_false]; first | assumption | omega))))) | (with_reducible refine AWo.nil ?_) | ((with_reducible apply AW.seq)) | ((with_reducible apply Then.n)) | ((with_reducible apply AW.regL))))
    (refine AW.retD (l := [(2, _)]) (by repeat (first | exact trivial | (refine And.intro ⟨rfl, by (exact .bool _)⟩ ?_))) ?_; (repeat (first | refine Then.r ?_ | refine InBlk.r ?_)))
    exact ⟨_, rfl, by simp [time1]; omega, rfl⟩
  · (repeat (first | (with_reducible refine AWo.cons ?_) | ((with_reducible refine Step.id ?_); first | ((with_reducible apply Step.gdT); exact rfl; exact rfl; (focus ((simp only [decide_eq_true_eq, decide_eq_false_iff_not, Bool.not_eq_true', Bool.not_eq_false', Bool.not_true, Bool.not_false]; first | assumption | omega)))) | ((with_reducible apply Step.move); exact rfl; exact rfl) | ((with_reducible apply Step.assign); exact rfl; exact rfl) | ((with_reducible apply Step.lss); exact rfl; exact rfl; exact rfl) | ((with_reducible apply Step.gtr); exact rfl; exact rfl; exact rfl) | ((with_reducible apply Step.pickF); exact rfl; exact rfl; exact rfl; exact rfl; (focus ((simp only [decide_eq_true_eq, decide_eq_false_iff_not, Bool.not_eq_true', Bool.not_eq_false', Bool.not_true, Bool.not_false]; first | assumption | omega))))) | (with_reducible refine AWo.nil ?_) | ((with_reducible apply AW.seq)) | ((with_reducible apply Then.n)) | ((with_reducible apply AW.regL))))
    (refine AW.retD (l := [(2, _)]) (by repeat (first | exact trivial | (refine And.intro ⟨rfl, by (exact .bool _)⟩ ?_))) ?_; (repeat (first | refine Then.r ?_ | refine InBlk.r ?_)))
    refine ⟨_, rfl, ?_, rfl⟩
    by_cases h2 : 10000 < x
    · rw [show time1 x = false by simp [time1]; omega]; simp; omega
    · rw [show time1 x = true by simp [time1]; omega]; simp; omega
set_option maxRecDepth 100000 in
theorem like_ok {m : AM} {v : Value} {l : List Int} {q : Int} (hl : Ints m v l) (hlen : l.length ≤ 9223372036854775807) {b : Bool} (hb : timesB l q = b) : ACall Try.prog 70 #[v, .int .i64 q] m (Ret (.bool b) m) := by
  subst hb
  obtain ⟨a, o, h1, h2, h3⟩ := id hl
  refine ACall.start Try.func70 rfl rfl ?_
  by_cases c1 : (l.length : Int) ≤ 40
  · by_cases c2 : 1 ≤ q
    · by_cases c3 : q ≤ 8
      · (repeat (first | (with_reducible refine AWo.cons ?_) | ((with_reducible refine Step.id ?_); first | ((with_reducible apply Step.gdT); exact rfl; exact rfl; (focus ((simp only [decide_eq_true_eq, decide_eq_false_iff_not, Bool.not_eq_true', Bool.not_eq_false', Bool.not_true, Bool.not_false]; first | assumption | omega)))) | ((with_reducible apply Step.move); exact rfl; exact rfl) | ((with_reducible apply Step.assign); exact rfl; exact rfl) | ((with_reducible apply Step.leq); exact rfl; exact rfl; exact rfl) | ((with_reducible apply Step.geq); exact rfl; exact rfl; exact rfl) | ((with_reducible apply Step.len); exact rfl; (focus (assumption)); (focus (decide +kernel)); exact rfl) | ((with_reducible apply Step.not); exact rfl; exact rfl) | ((with_reducible apply Step.pickT); exact rfl; exact rfl; exact rfl; exact rfl; (focus ((simp only [decide_eq_true_eq, decide_eq_false_iff_not, Bool.not_eq_true', Bool.not_eq_false', Bool.not_true, Bool.not_false]; first | assumption | omega)))) | ((with_reducible apply Step.callR fit); exact rfl; exact Try.func94; exact rfl; exact rfl; exact ((by rw [List.append_nil]; exact f94_ok hl Try.func104 rfl (fun k => !time1 (l.getD k 0)) hlen (fun k hk => f104_ok _ rfl) (any_all l 0 time1))))) | (with_reducible refine AWo.nil ?_) | ((with_reducible apply AW.seq)) | ((with_reducible apply Then.n)) | ((with_reducible apply AW.regL))))
        (refine AW.retD (l := [(4, _)]) (by repeat (first | exact trivial | (refine And.intro ⟨rfl, by (exact .bool _)⟩ ?_))) ?_; (repeat (first | refine Then.r ?_ | refine InBlk.r ?_)))
        exact ⟨_, rfl, by simp [timesB, c2, c3]; omega, rfl⟩
      · (repeat (first | (with_reducible refine AWo.cons ?_) | ((with_reducible refine Step.id ?_); first | ((with_reducible apply Step.gdT); exact rfl; exact rfl; (focus ((simp only [decide_eq_true_eq, decide_eq_false_iff_not, Bool.not_eq_true', Bool.not_eq_false', Bool.not_true, Bool.not_false]; first | assumption | omega)))) | ((with_reducible apply Step.gdF); exact rfl; exact rfl; (focus ((simp only [decide_eq_true_eq, decide_eq_false_iff_not, Bool.not_eq_true', Bool.not_eq_false', Bool.not_true, Bool.not_false]; first | assumption | omega)))) | ((with_reducible apply Step.move); exact rfl; exact rfl) | ((with_reducible apply Step.assign); exact rfl; exact rfl) | ((with_reducible apply Step.leq); exact rfl; exact rfl; exact rfl) | ((with_reducible apply Step.geq); exact rfl; exact rfl; exact rfl) | ((with_reducible apply Step.len); exact rfl; (focus (assumption)); (focus (decide +kernel)); exact rfl) | ((with_reducible apply Step.pickT); exact rfl; exact rfl; exact rfl; exact rfl; (focus ((simp only [decide_eq_true_eq, decide_eq_false_iff_not, Bool.not_eq_true', Bool.not_eq_false', Bool.not_true, Bool.not_false]; first | assumption | omega)))) | ((with_reducible apply Step.pickF); exact rfl; exact rfl; exact rfl; exact rfl; (focus ((simp only [decide_eq_true_eq, decide_eq_false_iff_not, Bool.not_eq_true', Bool.not_eq_false', Bool.not_true, Bool.not_false]; first | assumption | omega))))) | (with_reducible refine AWo.nil ?_) | ((with_reducible apply AW.seq)) | ((with_reducible apply Then.n)) | ((with_reducible apply AW.regL))))
        (refine AW.retD (l := [(4, _)]) (by repeat (first | exact trivial | (refine And.intro ⟨rfl, by (exact .bool _)⟩ ?_))) ?_; (repeat (first | refine Then.r ?_ | refine InBlk.r ?_)))
        exact ⟨_, rfl, by simp [timesB, c3], rfl⟩
    · (repeat (first | (with_reducible refine AWo.cons ?_) | ((with_reducible refine Step.id ?_); first | ((with_reducible apply Step.gdT); exact rfl; exact rfl; (focus ((simp only [decide_eq_true_eq, decide_eq_false_iff_not, Bool.not_eq_true', Bool.not_eq_false', Bool.not_true, Bool.not_false]; first | assumption | omega)))) | ((with_reducible apply Step.gdF); exact rfl; exact rfl; (focus (first | rfl | (simp only [decide_eq_true_eq, decide_eq_false_iff_not, Bool.not_eq_true', Bool.not_eq_false', Bool.not_true, Bool.not_false]; first | assumption | omega)))) | ((with_reducible apply Step.move); exact rfl; exact rfl) | ((with_reducible apply Step.assign); exact rfl; exact rfl) | ((with_reducible apply Step.leq); exact rfl; exact rfl; exact rfl) | ((with_reducible apply Step.geq); exact rfl; exact rfl; exact rfl) | ((with_reducible apply Step.len); exact rfl; (focus (assumption)); (focus (decide +kernel)); exact rfl) | ((with_reducible apply Step.pickT); exact rfl; exact rfl; exact rfl; exact rfl; (focus ((simp only [decide_eq_true_eq, decide_eq_false_iff_not, Bool.not_eq_true', Bool.not_eq_false', Bool.not_true, Bool.not_false]; first | assumption | omega)))) | ((with_reducible apply Step.pickF); exact rfl; exact rfl; exact rfl; exact rfl; (focus (first | rfl | (simp only [decide_eq_true_eq, decide_eq_false_iff_not, Bool.not_eq_true', Bool.not_eq_false', Bool.not_true, Bool.not_false]; first | assumption | omega))))) | (with_reducible refine AWo.nil ?_) | ((with_reducible apply AW.seq)) | ((with_reducible apply Then.n)) | ((with_reducible apply AW.regL))))
      (refine AW.retD (l := [(4, _)]) (by repeat (first | exact trivial | (refine And.intro ⟨rfl, by (exact .bool _)⟩ ?_))) ?_; (repeat (first | refine Then.r ?_ | refine InBlk.r ?_)))
      exact ⟨_, rfl, by simp [timesB, c2], rfl⟩
  · (repeat (first | (with_reducible refine AWo.cons ?_) | ((with_reducible refine Step.id ?_); first | ((with_reducible apply Step.gdF); exact rfl; exact rfl; (focus (first | rfl | (simp only [decide_eq_true_eq, decide_eq_false_iff_not, Bool.not_eq_true', Bool.not_eq_false', Bool.not_true, Bool.not_false]; first | assumption | omega)))) | ((with_reducible apply Step.move); exact rfl; exact rfl) | ((with_reducible apply Step.assign); exact rfl; exact rfl) | ((with_reducible apply Step.leq); exact rfl; exact rfl; exact rfl) | ((with_reducible apply Step.len); exact rfl; (focus (assumption)); (focus (decide +kernel)); exact rfl) | ((with_reducible apply Step.pickF); exact rfl; exact rfl; exact rfl; exact rfl; (focus (first | rfl | (simp only [decide_eq_true_eq, decide_eq_false_iff_not, Bool.not_eq_true', Bool.not_eq_false', Bool.not_true, Bool.not_false]; first | assumption | omega))))) | (with_reducible refine AWo.nil ?_) | ((with_reducible apply AW.seq)) | ((with_reducible apply Then.n)) | ((with_reducible apply AW.regL))))
    (refine AW.retD (l := [(4, _)]) (by repeat (first | exact trivial | (refine And.intro ⟨rfl, by (exact .bool _)⟩ ?_))) ?_; (repeat (first | refine Then.r ?_ | refine InBlk.r ?_)))
    exact ⟨_, rfl, by simp [timesB, show ¬ l.length ≤ 40 by omega], rfl⟩
set_option maxRecDepth 100000 in
theorem Times_ok {m : AM} {v : Value} {l : List Int} {q : Int} (hl : Ints m v l) (hlen : l.length ≤ 9223372036854775807) {b : Bool} (hb : timesB l q = b) : ACall Try.prog 27 #[v, .int .i64 q] m (Ret (.bool b) m) := by
  subst hb
  obtain ⟨a, o, h1, h2, h3⟩ := id hl
  refine ACall.start Try.func27 rfl rfl ?_
  by_cases c1 : (l.length : Int) > 40
  · (repeat (first | (with_reducible refine AWo.cons ?_) | ((with_reducible refine Step.id ?_); first | ((with_reducible apply Step.gdF); exact rfl; exact rfl; (focus (first | rfl | (simp only [decide_eq_true_eq, decide_eq_false_iff_not, Bool.not_eq_true', Bool.not_eq_false', Bool.not_true, Bool.not_false]; first | assumption | omega)))) | ((with_reducible apply Step.move); exact rfl; exact rfl) | ((with_reducible apply Step.assign); exact rfl; exact rfl) | ((with_reducible apply Step.gtr); exact rfl; exact rfl; exact rfl) | ((with_reducible apply Step.len); exact rfl; (focus (assumption)); (focus (decide +kernel)); exact rfl) | ((with_reducible apply Step.pickT); exact rfl; exact rfl; exact rfl; exact rfl; (focus (first | rfl | (simp only [decide_eq_true_eq, decide_eq_false_iff_not, Bool.not_eq_true', Bool.not_eq_false', Bool.not_true, Bool.not_false]; first | assumption | omega))))) | (with_reducible refine AWo.nil ?_) | ((with_reducible apply AW.seq)) | ((with_reducible apply Then.n)) | ((with_reducible apply AW.regL)) | ((with_reducible apply AW.condT); exact rfl; (focus (rfl)))))
    (refine AW.retD (l := [(4, _)]) (by repeat (first | exact trivial | (refine And.intro ⟨rfl, by (exact .bool _)⟩ ?_))) ?_; (repeat (first | refine Then.r ?_ | refine InBlk.r ?_)))
    exact ⟨_, rfl, by simp [timesB, show ¬ l.length ≤ 40 by omega], rfl⟩
  · by_cases c2 : q < 1
    · (repeat (first | (with_reducible refine AWo.cons ?_) | ((with_reducible refine Step.id ?_); first | ((with_reducible apply Step.gdT); exact rfl; exact rfl; (focus ((simp only [decide_eq_true_eq, decide_eq_false_iff_not, Bool.not_eq_true', Bool.not_eq_false', Bool.not_true, Bool.not_false]; first | assumption | omega)))) | ((with_reducible apply Step.gdF); exact rfl; exact rfl; (focus ((simp only [decide_eq_true_eq, decide_eq_false_iff_not, Bool.not_eq_true', Bool.not_eq_false', Bool.not_true, Bool.not_false]; first | assumption | omega)))) | ((with_reducible apply Step.move); exact rfl; exact rfl) | ((with_reducible apply Step.assign); exact rfl; exact rfl) | ((with_reducible apply Step.lss); exact rfl; exact rfl; exact rfl) | ((with_reducible apply Step.gtr); exact rfl; exact rfl; exact rfl) | ((with_reducible apply Step.len); exact rfl; (focus (assumption)); (focus (decide +kernel)); exact rfl) | ((with_reducible apply Step.pickT); exact rfl; exact rfl; exact rfl; exact rfl; (focus ((simp only [decide_eq_true_eq, decide_eq_false_iff_not, Bool.not_eq_true', Bool.not_eq_false', Bool.not_true, Bool.not_false]; first | assumption | omega)))) | ((with_reducible apply Step.pickF); exact rfl; exact rfl; exact rfl; exact rfl; (focus ((simp only [decide_eq_true_eq, decide_eq_false_iff_not, Bool.not_eq_true', Bool.not_eq_false', Bool.not_true, Bool.not_false]; first | assumption | omega))))) | (with_reducible refine AWo.nil ?_) | ((with_reducible apply AW.seq)) | ((with_reducible apply Then.n)) | ((with_reducible apply AW.regL)) | ((with_reducible apply AW.condT); exact rfl; (focus (rfl)))))
      (refine AW.retD (l := [(4, _)]) (by repeat (first | exact trivial | (refine And.intro ⟨rfl, by (exact .bool _)⟩ ?_))) ?_; (repeat (first | refine Then.r ?_ | refine InBlk.r ?_)))
      exact ⟨_, rfl, by simp [timesB, show ¬ 1 ≤ q by omega], rfl⟩
    · by_cases c3 : 8 < q
      · (repeat (first | (with_reducible refine AWo.cons ?_) | ((with_reducible refine Step.id ?_); first | ((with_reducible apply Step.gdT); exact rfl; exact rfl; (focus ((simp only [decide_eq_true_eq, decide_eq_false_iff_not, Bool.not_eq_true', Bool.not_eq_false', Bool.not_true, Bool.not_false]; first | assumption | omega)))) | ((with_reducible apply Step.move); exact rfl; exact rfl) | ((with_reducible apply Step.assign); exact rfl; exact rfl) | ((with_reducible apply Step.lss); exact rfl; exact rfl; exact rfl) | ((with_reducible apply Step.gtr); exact rfl; exact rfl; exact rfl) | ((with_reducible apply Step.len); exact rfl; (focus (assumption)); (focus (decide +kernel)); exact rfl) | ((with_reducible apply Step.pickF); exact rfl; exact rfl; exact rfl; exact rfl; (focus ((simp only [decide_eq_true_eq, decide_eq_false_iff_not, Bool.not_eq_true', Bool.not_eq_false', Bool.not_true, Bool.not_false]; first | assumption | omega))))) | (with_reducible refine AWo.nil ?_) | ((with_reducible apply AW.seq)) | ((with_reducible apply Then.n)) | ((with_reducible apply AW.regL)) | ((with_reducible apply AW.condT); exact rfl; (focus ((simp only [decide_eq_true_eq, decide_eq_false_iff_not, Bool.not_eq_true', Bool.not_eq_false', Bool.not_true, Bool.not_false]; first | assumption | omega))))))
        (refine AW.retD (l := [(4, _)]) (by repeat (first | exact trivial | (refine And.intro ⟨rfl, by (exact .bool _)⟩ ?_))) ?_; (repeat (first | refine Then.r ?_ | refine InBlk.r ?_)))
        exact ⟨_, rfl, by simp [timesB, show ¬ q ≤ 8 by omega], rfl⟩
      · (repeat (first | (with_reducible refine AWo.cons ?_) | ((with_reducible refine Step.id ?_); first | ((with_reducible apply Step.gdT); exact rfl; exact rfl; (focus ((simp only [decide_eq_true_eq, decide_eq_false_iff_not, Bool.not_eq_true', Bool.not_eq_false', Bool.not_true, Bool.not_false]; first | assumption | omega)))) | ((with_reducible apply Step.move); exact rfl; exact rfl) | ((with_reducible apply Step.assign); exact rfl; exact rfl) | ((with_reducible apply Step.lss); exact rfl; exact rfl; exact rfl) | ((with_reducible apply Step.gtr); exact rfl; exact rfl; exact rfl) | ((with_reducible apply Step.len); exact rfl; (focus (assumption)); (focus (decide +kernel)); exact rfl) | ((with_reducible apply Step.pickF); exact rfl; exact rfl; exact rfl; exact rfl; (focus ((simp only [decide_eq_true_eq, decide_eq_false_iff_not, Bool.not_eq_true', Bool.not_eq_false', Bool.not_true, Bool.not_false]; first | assumption | omega))))) | (with_reducible refine AWo.nil ?_) | ((with_reducible apply AW.seq)) | ((with_reducible apply Then.n)) | ((with_reducible apply AW.regL)) | ((with_reducible apply AW.block)) | ((with_reducible apply AW.skip)) | ((with_reducible apply AW.condF); exact rfl; (focus ((simp only [decide_eq_true_eq, decide_eq_false_iff_not, Bool.not_eq_true', Bool.not_eq_false', Bool.not_true, Bool.not_false]; first | assumption | omega))))))
        refine AW.loopT (fun n t L => ∃ k : Nat, n = l.length - k ∧ k ≤ l.length ∧ (l.take k).all time1 = true ∧ L = [] ∧
          t = [(18, v), (19, .int .i64 (l.length : Nat)), (20, .int .i64 (k : Nat))]) ⟨_, _, _, (Or.inl ⟨rfl, (by repeat (first | exact trivial | (refine And.intro rfl ?_)))⟩), 0, rfl, Nat.zero_le _, by simp, rfl, rfl⟩ ?_
        rintro n t L ⟨k, rfl, hk, hall, rfl, rfl⟩
        rcases Nat.lt_or_ge k l.length with hlt | hge
        · have ts := take_snoc l k 0 hlt
          have hr := h3 k hlt
          have bad : time1 (l.getD k 0) = false → timesB l q = false := fun e => by
            have : l.all time1 = false := by
              rw [List.all_eq_false]
              exact ⟨l.getD k 0, by simp [hlt], by rw [e]; exact Bool.false_ne_true⟩
            simp [timesB, this]
          cases hx : time1 (l.getD k 0) with
          | true =>
            have hx' := hx
            simp only [time1, decide_eq_true_eq] at hx'
            obtain ⟨x1, x2⟩ := hx'
            (repeat (first | (with_reducible refine AWo.cons ?_) | ((with_reducible refine Step.id ?_); first | ((with_reducible apply Step.gdT); exact rfl; exact rfl; (focus ((simp only [decide_eq_true_eq, decide_eq_false_iff_not, Bool.not_eq_true', Bool.not_eq_false', Bool.not_true, Bool.not_false]; first | assumption | omega)))) | ((with_reducible apply Step.move); exact rfl; exact rfl) | ((with_reducible apply Step.assign); exact rfl; exact rfl) | ((with_reducible apply Step.load); exact rfl; (focus (decide +kernel)); exact rfl; (focus (exact Rd.old _ (by assumption)))) | ((with_reducible apply Step.ix1); exact rfl; (focus (assumption)); exact rfl; (focus (decide +kernel)); exact rfl; (focus (omega))) | ((with_reducible apply Step.add); exact rfl; exact rfl; (focus (omega)); exact rfl) | ((with_reducible apply Step.lss); exact rfl; exact rfl; exact rfl) | ((with_reducible apply Step.gtr); exact rfl; exact rfl; exact rfl) | ((with_reducible apply Step.pickF); exact rfl; exact rfl; exact rfl; exact rfl; (focus ((simp only [decide_eq_true_eq, decide_eq_false_iff_not, Bool.not_eq_true', Bool.not_eq_false', Bool.not_true, Bool.not_false]; first | assumption | omega))))) | (with_reducible refine AWo.nil ?_) | ((with_reducible apply AW.seq)) | ((with_reducible apply Then.n)) | ((with_reducible apply AW.regL)) | ((with_reducible apply AW.block)) | ((with_reducible apply InBlk.n)) | ((with_reducible apply AW.skip)) | ((with_reducible apply AW.condT); exact rfl; (focus ((simp only [decide_eq_true_eq, decide_eq_false_iff_not, Bool.not_eq_true', Bool.not_eq_false', Bool.not_true, Bool.not_false]; first | assumption | omega)))) | ((with_reducible apply AW.condF); exact rfl; (focus ((simp only [decide_eq_true_eq, decide_eq_false_iff_not, Bool.not_eq_true', Bool.not_eq_false', Bool.not_true, Bool.not_false]; first | assumption | omega))))))
            exact ⟨_, _, _, by omega, (Or.inl ⟨rfl, (by repeat (first | exact trivial | (refine And.intro rfl ?_)))⟩), k + 1, rfl, by omega, by rw [ts, List.all_append, hall]; simp only [List.all_cons, List.all_nil, hx]; rfl, rfl, rfl⟩
          | false =>
            have hx' := hx
            simp only [time1, decide_eq_false_iff_not] at hx'
            rw [bad hx]
            by_cases d1 : l.getD k 0 < 1
            · (repeat (first | (with_reducible refine AWo.cons ?_) | ((with_reducible refine Step.id ?_); first | ((with_reducible apply Step.gdF); exact rfl; exact rfl; (focus ((simp only [decide_eq_true_eq, decide_eq_false_iff_not, Bool.not_eq_true', Bool.not_eq_false', Bool.not_true, Bool.not_false]; first | assumption | omega)))) | ((with_reducible apply Step.move); exact rfl; exact rfl) | ((with_reducible apply Step.assign); exact rfl; exact rfl) | ((with_reducible apply Step.load); exact rfl; (focus (decide +kernel)); exact rfl; (focus (exact Rd.old _ (by assumption)))) | ((with_reducible apply Step.ix1); exact rfl; (focus (assumption)); exact rfl; (focus (decide +kernel)); exact rfl; (focus (omega))) | ((with_reducible apply Step.lss); exact rfl; exact rfl; exact rfl) | ((with_reducible apply Step.pickT); exact rfl; exact rfl; exact rfl; exact rfl; (focus ((simp only [decide_eq_true_eq, decide_eq_false_iff_not, Bool.not_eq_true', Bool.not_eq_false', Bool.not_true, Bool.not_false]; first | assumption | omega))))) | (with_reducible refine AWo.nil ?_) | ((with_reducible apply AW.seq)) | ((with_reducible apply Then.n)) | ((with_reducible apply AW.regL)) | ((with_reducible apply AW.block)) | ((with_reducible apply AW.skip)) | ((with_reducible apply AW.condT); exact rfl; (focus (first | rfl | (simp only [decide_eq_true_eq, decide_eq_false_iff_not, Bool.not_eq_true', Bool.not_eq_false', Bool.not_true, Bool.not_false]; first | assumption | omega))))))
              (refine AW.retD (l := [(4, _)]) (by repeat (first | exact trivial | (refine And.intro ⟨rfl, by (exact .bool _)⟩ ?_))) ?_; (repeat (first | refine Then.r ?_ | refine InBlk.r ?_)))
              exact ⟨_, rfl, rfl, rfl⟩
            · have d2 : 10000 < l.getD k 0 := by omega
              (repeat (first | (with_reducible refine AWo.cons ?_) | ((with_reducible refine Step.id ?_); first | ((with_reducible apply Step.gdT); exact rfl; exact rfl; (focus ((simp only [decide_eq_true_eq, decide_eq_false_iff_not, Bool.not_eq_true', Bool.not_eq_false', Bool.not_true, Bool.not_false]; first | assumption | omega)))) | ((with_reducible apply Step.move); exact rfl; exact rfl) | ((with_reducible apply Step.assign); exact rfl; exact rfl) | ((with_reducible apply Step.load); exact rfl; (focus (decide +kernel)); exact rfl; (focus (exact Rd.old _ (by assumption)))) | ((with_reducible apply Step.ix1); exact rfl; (focus (assumption)); exact rfl; (focus (decide +kernel)); exact rfl; (focus (omega))) | ((with_reducible apply Step.lss); exact rfl; exact rfl; exact rfl) | ((with_reducible apply Step.gtr); exact rfl; exact rfl; exact rfl) | ((with_reducible apply Step.pickF); exact rfl; exact rfl; exact rfl; exact rfl; (focus ((simp only [decide_eq_true_eq, decide_eq_false_iff_not, Bool.not_eq_true', Bool.not_eq_false', Bool.not_true, Bool.not_false]; first | assumption | omega))))) | (with_reducible refine AWo.nil ?_) | ((with_reducible apply AW.seq)) | ((with_reducible apply Then.n)) | ((with_reducible apply AW.regL)) | ((with_reducible apply AW.block)) | ((with_reducible apply AW.skip)) | ((with_reducible apply AW.condT); exact rfl; (focus ((simp only [decide_eq_true_eq, decide_eq_false_iff_not, Bool.not_eq_true', Bool.not_eq_false', Bool.not_true, Bool.not_false]; first | assumption | omega))))))
              (refine AW.retD (l := [(4, _)]) (by repeat (first | exact trivial | (refine And.intro ⟨rfl, by (exact .bool _)⟩ ?_))) ?_; (repeat (first | refine Then.r ?_ | refine InBlk.r ?_)))
              exact ⟨_, rfl, rfl, rfl⟩
        · (repeat (first | (with_reducible refine AWo.cons ?_) | ((with_reducible refine Step.id ?_); first | ((with_reducible apply Step.assign); exact rfl; exact rfl) | ((with_reducible apply Step.lss); exact rfl; exact rfl; exact rfl)) | (with_reducible refine AWo.nil ?_) | ((with_reducible apply AW.seq)) | ((with_reducible apply Then.n)) | ((with_reducible apply AW.regL)) | ((with_reducible apply AW.exit)) | ((with_reducible apply InBlk.hit)) | ((with_reducible apply Then.e)) | ((with_reducible apply AW.condF); exact rfl; (focus ((simp only [decide_eq_true_eq, decide_eq_false_iff_not, Bool.not_eq_true', Bool.not_eq_false', Bool.not_true, Bool.not_false]; first | assumption | omega))))))
          (refine AW.retD (l := [(4, _)]) (by repeat (first | exact trivial | (refine And.intro ⟨rfl, by (exact .bool _)⟩ ?_))) ?_; (repeat (first | refine Then.r ?_ | refine InBlk.r ?_)))
          rw [List.take_of_length_le hge] at hall
          exact ⟨_, rfl, by simp [timesB, hall]; omega, rfl⟩
def minL (l : List Int) : Int := l.tail.foldl min (l.getD 0 0)
def maxL (l : List Int) : Int := l.tail.foldl max (l.getD 0 0)
theorem tail_take (l : List Int) {k : Nat} (h1 : 1 ≤ k) (h2 : k < l.length) : l.tail.take k = l.tail.take (k - 1) ++ [l.getD k 0] := by
  obtain ⟨k, rfl⟩ : ∃ i, k = i + 1 := ⟨k - 1, by omega⟩
  rw [take_snoc l.tail k 0 (by simp; omega)]
  simp
set_option maxRecDepth 100000 in
theorem min_ok {m : AM} {v : Value} {l : List Int} (hl : Ints m v l) (hpos : 0 < l.length) (hlen : l.length ≤ 1000000) : ACall Try.prog 76 #[v] m (Ret (.int .i64 (minL l)) m) := by
  obtain ⟨a, o, h1, h2, h3⟩ := hl
  have r0 := h3 0 hpos
  have e0 : (0 : Int) = ((0 : Nat) : Int) := rfl
  refine ACall.start Try.func76 rfl rfl ?_
  (repeat (first | (with_reducible refine AWo.cons ?_) | ((with_reducible refine Step.id ?_); first | ((with_reducible apply Step.move); exact rfl; exact rfl) | ((with_reducible apply Step.assign); exact rfl; exact rfl) | ((with_reducible apply Step.load); exact rfl; (focus (decide +kernel)); exact rfl; (focus (exact Rd.old _ (by assumption)))) | ((with_reducible apply Step.ix1); exact rfl; (focus (assumption)); exact rfl; (focus (decide +kernel)); exact rfl; (focus (omega))) | ((with_reducible apply Step.lss); exact rfl; exact rfl; exact rfl) | ((with_reducible apply Step.len); exact rfl; (focus (assumption)); (focus (decide +kernel)); exact rfl)) | (with_reducible refine AWo.nil ?_) | ((with_reducible apply AW.seq)) | ((with_reducible apply Then.n)) | ((with_reducible apply AW.regL)) | ((with_reducible apply AW.block)) | ((with_reducible apply AW.skip)) | ((with_reducible apply AW.condF); exact rfl; (focus ((simp only [decide_eq_true_eq, decide_eq_false_iff_not, Bool.not_eq_true', Bool.not_eq_false', Bool.not_true, Bool.not_false]; first | assumption | omega))))))
  refine AW.loopT (fun n t L => ∃ (k : Nat) (x : Int), n = l.length - k ∧ 1 ≤ k ∧ k ≤ l.length ∧ x = (l.tail.take (k - 1)).foldl min (l.getD 0 0) ∧ L = [] ∧
    t = [(0, v), (3, .int .i64 x), (4, .int .i64 (k : Nat))]) ⟨_, _, _, (Or.inl ⟨rfl, (by repeat (first | exact trivial | (refine And.intro rfl ?_)))⟩), 1, _, rfl, by omega, by omega, rfl, rfl, rfl⟩ ?_
  rintro n t L ⟨k, x, rfl, hk1, hk, hx, rfl, rfl⟩
  rcases Nat.lt_or_ge k l.length with hlt | hge
  · have hr := h3 k hlt
    (repeat (first | (with_reducible refine AWo.cons ?_) | ((with_reducible refine Step.id ?_); first | ((with_reducible apply Step.move); exact rfl; exact rfl) | ((with_reducible apply Step.assign); exact rfl; exact rfl) | ((with_reducible apply Step.load); exact rfl; (focus (decide +kernel)); exact rfl; (focus (exact Rd.old _ (by assumption)))) | ((with_reducible apply Step.ix1); exact rfl; (focus (assumption)); exact rfl; (focus (decide +kernel)); exact rfl; (focus (omega))) | ((with_reducible apply Step.add); exact rfl; exact rfl; (focus (omega)); exact rfl) | ((with_reducible apply Step.lss); exact rfl; exact rfl; exact rfl) | ((with_reducible apply Step.len); exact rfl; (focus (assumption)); (focus (decide +kernel)); exact rfl) | ((with_reducible apply Step.min); exact rfl; exact rfl; exact rfl)) | (with_reducible refine AWo.nil ?_) | ((with_reducible apply AW.seq)) | ((with_reducible apply Then.n)) | ((with_reducible apply AW.regL)) | ((with_reducible apply AW.block)) | ((with_reducible apply InBlk.n)) | ((with_reducible apply AW.skip)) | ((with_reducible apply AW.condT); exact rfl; (focus ((simp only [decide_eq_true_eq, decide_eq_false_iff_not, Bool.not_eq_true', Bool.not_eq_false', Bool.not_true, Bool.not_false]; first | assumption | omega))))))
    refine ⟨_, _, _, by omega, (Or.inl ⟨rfl, (by repeat (first | exact trivial | (refine And.intro rfl ?_)))⟩), k + 1, _, rfl, by omega, by omega, ?_, rfl, rfl⟩
    rw [show k + 1 - 1 = k by omega, tail_take l hk1 hlt, List.foldl_append, ← hx]; rfl
  · (repeat (first | (with_reducible refine AWo.cons ?_) | ((with_reducible refine Step.id ?_); first | ((with_reducible apply Step.move); exact rfl; exact rfl) | ((with_reducible apply Step.assign); exact rfl; exact rfl) | ((with_reducible apply Step.lss); exact rfl; exact rfl; exact rfl) | ((with_reducible apply Step.len); exact rfl; (focus (assumption)); (focus (decide +kernel)); exact rfl)) | (with_reducible refine AWo.nil ?_) | ((with_reducible apply AW.seq)) | ((with_reducible apply Then.n)) | ((with_reducible apply AW.regL)) | ((with_reducible apply AW.exit)) | ((with_reducible apply InBlk.hit)) | ((with_reducible apply Then.e)) | ((with_reducible apply AW.condF); exact rfl; (focus ((simp only [decide_eq_true_eq, decide_eq_false_iff_not, Bool.not_eq_true', Bool.not_eq_false', Bool.not_true, Bool.not_false]; first | assumption | omega))))))
    (refine AW.retD (l := [(2, _)]) (by repeat (first | exact trivial | (refine And.intro ⟨rfl, by (exact .int _ _)⟩ ?_))) ?_; (repeat (first | refine Then.r ?_ | refine InBlk.r ?_)))
    refine ⟨_, rfl, ?_, rfl⟩
    rw [hx, List.take_of_length_le (by simp; omega)]; rfl
set_option maxRecDepth 100000 in
theorem max_ok {m : AM} {v : Value} {l : List Int} (hl : Ints m v l) (hpos : 0 < l.length) (hlen : l.length ≤ 1000000) : ACall Try.prog 32 #[v] m (Ret (.int .i64 (maxL l)) m) := by
  obtain ⟨a, o, h1, h2, h3⟩ := hl
  have r0 := h3 0 hpos
  refine ACall.start Try.func32 rfl rfl ?_
  (repeat (first | (with_reducible refine AWo.cons ?_) | ((with_reducible refine Step.id ?_); first | ((with_reducible apply Step.move); exact rfl; exact rfl) | ((with_reducible apply Step.assign); exact rfl; exact rfl) | ((with_reducible apply Step.load); exact rfl; (focus (decide +kernel)); exact rfl; (focus (exact Rd.old _ (by assumption)))) | ((with_reducible apply Step.ix1); exact rfl; (focus (assumption)); exact rfl; (focus (decide +kernel)); exact rfl; (focus (omega))) | ((with_reducible apply Step.lss); exact rfl; exact rfl; exact rfl) | ((with_reducible apply Step.len); exact rfl; (focus (assumption)); (focus (decide +kernel)); exact rfl)) | (with_reducible refine AWo.nil ?_) | ((with_reducible apply AW.seq)) | ((with_reducible apply Then.n)) | ((with_reducible apply AW.regL)) | ((with_reducible apply AW.block)) | ((with_reducible apply AW.skip)) | ((with_reducible apply AW.condF); exact rfl; (focus ((simp only [decide_eq_true_eq, decide_eq_false_iff_not, Bool.not_eq_true', Bool.not_eq_false', Bool.not_true, Bool.not_false]; first | assumption | omega))))))
  refine AW.loopT (fun n t L => ∃ (k : Nat) (x : Int), n = l.length - k ∧ 1 ≤ k ∧ k ≤ l.length ∧ x = (l.tail.take (k - 1)).foldl max (l.getD 0 0) ∧ L = [] ∧
    t = [(0, v), (3, .int .i64 x), (4, .int .i64 (k : Nat))]) ⟨_, _, _, (Or.inl ⟨rfl, (by repeat (first | exact trivial | (refine And.intro rfl ?_)))⟩), 1, _, rfl, by omega, by omega, rfl, rfl, rfl⟩ ?_
  rintro n t L ⟨k, x, rfl, hk1, hk, hx, rfl, rfl⟩
  rcases Nat.lt_or_ge k l.length with hlt | hge
  · have hr := h3 k hlt
    (repeat (first | (with_reducible refine AWo.cons ?_) | ((with_reducible refine Step.id ?_); first | ((with_reducible apply Step.move); exact rfl; exact rfl) | ((with_reducible apply Step.assign); exact rfl; exact rfl) | ((with_reducible apply Step.load); exact rfl; (focus (decide +kernel)); exact rfl; (focus (exact Rd.old _ (by assumption)))) | ((with_reducible apply Step.ix1); exact rfl; (focus (assumption)); exact rfl; (focus (decide +kernel)); exact rfl; (focus (omega))) | ((with_reducible apply Step.add); exact rfl; exact rfl; (focus (omega)); exact rfl) | ((with_reducible apply Step.lss); exact rfl; exact rfl; exact rfl) | ((with_reducible apply Step.len); exact rfl; (focus (assumption)); (focus (decide +kernel)); exact rfl) | ((with_reducible apply Step.max); exact rfl; exact rfl; exact rfl)) | (with_reducible refine AWo.nil ?_) | ((with_reducible apply AW.seq)) | ((with_reducible apply Then.n)) | ((with_reducible apply AW.regL)) | ((with_reducible apply AW.block)) | ((with_reducible apply InBlk.n)) | ((with_reducible apply AW.skip)) | ((with_reducible apply AW.condT); exact rfl; (focus ((simp only [decide_eq_true_eq, decide_eq_false_iff_not, Bool.not_eq_true', Bool.not_eq_false', Bool.not_true, Bool.not_false]; first | assumption | omega))))))
    refine ⟨_, _, _, by omega, (Or.inl ⟨rfl, (by repeat (first | exact trivial | (refine And.intro rfl ?_)))⟩), k + 1, _, rfl, by omega, by omega, ?_, rfl, rfl⟩
    rw [show k + 1 - 1 = k by omega, tail_take l hk1 hlt, List.foldl_append, ← hx]; rfl
  · (repeat (first | (with_reducible refine AWo.cons ?_) | ((with_reducible refine Step.id ?_); first | ((with_reducible apply Step.move); exact rfl; exact rfl) | ((with_reducible apply Step.assign); exact rfl; exact rfl) | ((with_reducible apply Step.lss); exact rfl; exact rfl; exact rfl) | ((with_reducible apply Step.len); exact rfl; (focus (assumption)); (focus (decide +kernel)); exact rfl)) | (with_reducible refine AWo.nil ?_) | ((with_reducible apply AW.seq)) | ((with_reducible apply Then.n)) | ((with_reducible apply AW.regL)) | ((with_reducible apply AW.exit)) | ((with_reducible apply InBlk.hit)) | ((with_reducible apply Then.e)) | ((with_reducible apply AW.condF); exact rfl; (focus ((simp only [decide_eq_true_eq, decide_eq_false_iff_not, Bool.not_eq_true', Bool.not_eq_false', Bool.not_true, Bool.not_false]; first | assumption | omega))))))
    (refine AW.retD (l := [(2, _)]) (by repeat (first | exact trivial | (refine And.intro ⟨rfl, by (exact .int _ _)⟩ ?_))) ?_; (repeat (first | refine Then.r ?_ | refine InBlk.r ?_)))
    refine ⟨_, rfl, ?_, rfl⟩
    rw [hx, List.take_of_length_le (by simp; omega)]; rfl
set_option maxRecDepth 100000 in
theorem index_ok {m : AM} {v : Value} {l : List Int} (x : Int) (hl : Ints m v l) (hlen : l.length ≤ 9223372036854775807) : ACall Try.prog 75 #[v, .int .i64 x] m (Ret (.int .i64 (idxF (fun k => decide (l.getD k 0 = x)) l.length)) m) := by
  obtain ⟨a, o, h1, h2, h3⟩ := hl
  refine ACall.start Try.func75 rfl rfl ?_
  (repeat (first | (with_reducible refine AWo.cons ?_) | ((with_reducible refine Step.id ?_); first | ((with_reducible apply Step.move); exact rfl; exact rfl) | ((with_reducible apply Step.assign); exact rfl; exact rfl) | ((with_reducible apply Step.len); exact rfl; (focus (assumption)); (focus (decide +kernel)); exact rfl)) | (with_reducible refine AWo.nil ?_) | ((with_reducible apply AW.seq)) | ((with_reducible apply Then.n)) | ((with_reducible apply AW.regL)) | ((with_reducible apply AW.block))))
  refine AW.loopT (fun n t L => ∃ k : Nat, n = l.length - k ∧ k ≤ l.length ∧ (∀ i, i < k → decide (l.getD i 0 = x) = false) ∧ L = [] ∧
    t = [(0, v), (1, .int .i64 x), (7, .int .i64 (l.length : Nat)), (8, .int .i64 (k : Nat))]) ⟨_, _, _, (Or.inl ⟨rfl, (by repeat (first | exact trivial | (refine And.intro rfl ?_)))⟩), 0, rfl, Nat.zero_le _, by omega, rfl, rfl⟩ ?_
  rintro n t L ⟨k, rfl, hk, hz, rfl, rfl⟩
  rcases Nat.lt_or_ge k l.length with hlt | hge
  · have hr := h3 k hlt
    by_cases hp : x = l.getD k 0
    · (repeat (first | (with_reducible refine AWo.cons ?_) | ((with_reducible refine Step.id ?_); first | ((with_reducible apply Step.move); exact rfl; exact rfl) | ((with_reducible apply Step.assign); exact rfl; exact rfl) | ((with_reducible apply Step.load); exact rfl; (focus (decide +kernel)); exact rfl; (focus (exact Rd.old _ (by assumption)))) | ((with_reducible apply Step.ix1); exact rfl; (focus (assumption)); exact rfl; (focus (decide +kernel)); exact rfl; (focus (omega))) | ((with_reducible apply Step.lss); exact rfl; exact rfl; exact rfl) | ((with_reducible apply Step.eql); exact rfl; exact rfl; exact rfl)) | (with_reducible refine AWo.nil ?_) | ((with_reducible apply AW.seq)) | ((with_reducible apply Then.n)) | ((with_reducible apply AW.regL)) | ((with_reducible apply AW.block)) | ((with_reducible apply AW.skip)) | ((with_reducible apply AW.condT); exact rfl; (focus ((simp only [decide_eq_true_eq, decide_eq_false_iff_not, Bool.not_eq_true', Bool.not_eq_false', Bool.not_true, Bool.not_false]; first | assumption | omega))))))
      (refine AW.retD (l := [(4, _)]) (by repeat (first | exact trivial | (refine And.intro ⟨rfl, by (exact .int _ _)⟩ ?_))) ?_; (repeat (first | refine Then.r ?_ | refine InBlk.r ?_)))
      exact ⟨_, rfl, by rw [idxF_hit hlt hz (decide_eq_true hp.symm)], rfl⟩
    · (repeat (first | (with_reducible refine AWo.cons ?_) | ((with_reducible refine Step.id ?_); first | ((with_reducible apply Step.move); exact rfl; exact rfl) | ((with_reducible apply Step.assign); exact rfl; exact rfl) | ((with_reducible apply Step.load); exact rfl; (focus (decide +kernel)); exact rfl; (focus (exact Rd.old _ (by assumption)))) | ((with_reducible apply Step.ix1); exact rfl; (focus (assumption)); exact rfl; (focus (decide +kernel)); exact rfl; (focus (omega))) | ((with_reducible apply Step.add); exact rfl; exact rfl; (focus (omega)); exact rfl) | ((with_reducible apply Step.lss); exact rfl; exact rfl; exact rfl) | ((with_reducible apply Step.eql); exact rfl; exact rfl; exact rfl)) | (with_reducible refine AWo.nil ?_) | ((with_reducible apply AW.seq)) | ((with_reducible apply Then.n)) | ((with_reducible apply AW.regL)) | ((with_reducible apply AW.block)) | ((with_reducible apply InBlk.n)) | ((with_reducible apply AW.skip)) | ((with_reducible apply AW.condT); exact rfl; (focus ((simp only [decide_eq_true_eq, decide_eq_false_iff_not, Bool.not_eq_true', Bool.not_eq_false', Bool.not_true, Bool.not_false]; first | assumption | omega)))) | ((with_reducible apply AW.condF); exact rfl; (focus ((simp only [decide_eq_true_eq, decide_eq_false_iff_not, Bool.not_eq_true', Bool.not_eq_false', Bool.not_true, Bool.not_false]; first | assumption | omega))))))
      exact ⟨_, _, _, by omega, (Or.inl ⟨rfl, (by repeat (first | exact trivial | (refine And.intro rfl ?_)))⟩), k + 1, rfl, by omega, fun i hi => by rcases Nat.lt_succ_iff_lt_or_eq.1 hi with h | h; exact hz i h; rw [h]; exact decide_eq_false (Ne.symm hp), rfl, rfl⟩
  · (repeat (first | (with_reducible refine AWo.cons ?_) | ((with_reducible refine Step.id ?_); first | ((with_reducible apply Step.assign); exact rfl; exact rfl) | ((with_reducible apply Step.lss); exact rfl; exact rfl; exact rfl)) | (with_reducible refine AWo.nil ?_) | ((with_reducible apply AW.seq)) | ((with_reducible apply Then.n)) | ((with_reducible apply AW.regL)) | ((with_reducible apply AW.exit)) | ((with_reducible apply InBlk.hit)) | ((with_reducible apply Then.e)) | ((with_reducible apply AW.condF); exact rfl; (focus ((simp only [decide_eq_true_eq, decide_eq_false_iff_not, Bool.not_eq_true', Bool.not_eq_false', Bool.not_true, Bool.not_false]; first | assumption | omega))))))
    obtain rfl : k = l.length := by omega
    (refine AW.retD (l := [(4, _)]) (by repeat (first | exact trivial | (refine And.intro ⟨rfl, by (exact .int _ _)⟩ ?_))) ?_; (repeat (first | refine Then.r ?_ | refine InBlk.r ?_)))
    exact ⟨_, rfl, by rw [idxF_miss hz], rfl⟩
/-- The bench with the least load, the first of equal ones. -/
theorem minL_le (l : List Int) (k : Nat) (h : k < l.length) : minL l ≤ l.getD k 0 := by
  have key : ∀ (q : List Int) (a : Int), q.foldl min a ≤ a ∧ ∀ y ∈ q, q.foldl min a ≤ y := by
    intro q
    induction q with
    | nil => intro a; simp
    | cons x q ih =>
      intro a
      rw [List.foldl_cons]
      obtain ⟨h1, h2⟩ := ih (min a x)
      refine ⟨by omega, fun y hy => ?_⟩
      rcases List.mem_cons.1 hy with rfl | hy
      · omega
      · exact h2 y hy
  cases l with
  | nil => simp at h
  | cons x q =>
    obtain ⟨h1, h2⟩ := key q x
    cases k with
    | zero => simpa [minL] using h1
    | succ k =>
      have hk : k < q.length := by simpa using h
      have := h2 q[k] (List.getElem_mem hk)
      simpa [minL, hk] using this
theorem minL_mem (l : List Int) (h : 0 < l.length) : ∃ k, k < l.length ∧ l.getD k 0 = minL l := by
  have key : ∀ (q : List Int) (a : Int), q.foldl min a = a ∨ q.foldl min a ∈ q := by
    intro q
    induction q with
    | nil => intro a; simp
    | cons x q ih =>
      intro a
      rw [List.foldl_cons]
      rcases ih (min a x) with h | h
      · rcases Int.le_total a x with h' | h'
        · left; rw [h]; omega
        · right; rw [h, show min a x = x by omega]; simp
      · right; simp [h]
  cases l with
  | nil => simp at h
  | cons x q =>
    rcases key q x with h | h
    · exact ⟨0, by simp, by simpa [minL] using h.symm⟩
    · obtain ⟨k, hk, e⟩ := List.getElem_of_mem h
      exact ⟨k + 1, by simpa using hk, by simpa [minL, hk] using e⟩
theorem maxL_ge (l : List Int) (k : Nat) (h : k < l.length) : l.getD k 0 ≤ maxL l := by
  have key : ∀ (q : List Int) (a : Int), a ≤ q.foldl max a ∧ ∀ y ∈ q, y ≤ q.foldl max a := by
    intro q
    induction q with
    | nil => intro a; simp
    | cons x q ih =>
      intro a
      rw [List.foldl_cons]
      obtain ⟨h1, h2⟩ := ih (max a x)
      refine ⟨by omega, fun y hy => ?_⟩
      rcases List.mem_cons.1 hy with rfl | hy
      · omega
      · exact h2 y hy
  cases l with
  | nil => simp at h
  | cons x q =>
    obtain ⟨h1, h2⟩ := key q x
    cases k with
    | zero => simpa [maxL] using h1
    | succ k =>
      have hk : k < q.length := by simpa using h
      have := h2 q[k] (List.getElem_mem hk)
      simpa [maxL, hk] using this
theorem maxL_mem (l : List Int) (h : 0 < l.length) : ∃ k, k < l.length ∧ l.getD k 0 = maxL l := by
  have key : ∀ (q : List Int) (a : Int), q.foldl max a = a ∨ q.foldl max a ∈ q := by
    intro q
    induction q with
    | nil => intro a; simp
    | cons x q ih =>
      intro a
      rw [List.foldl_cons]
      rcases ih (max a x) with h | h
      · rcases Int.le_total a x with h' | h'
        · right; rw [h, show max a x = x by omega]; simp
        · left; rw [h]; omega
      · right; simp [h]
  cases l with
  | nil => simp at h
  | cons x q =>
    rcases key q x with h | h
    · exact ⟨0, by simp, by simpa [maxL] using h.symm⟩
    · obtain ⟨k, hk, e⟩ := List.getElem_of_mem h
      exact ⟨k + 1, by simpa using hk, by simpa [maxL, hk] using e⟩
/-- The first place of the least. -/
def argm (l : List Int) : Nat := (idxF (fun k => decide (l.getD k 0 = minL l)) l.length).toNat
theorem argm_spec {l : List Int} (h : 0 < l.length) : argm l < l.length ∧ idxF (fun k => decide (l.getD k 0 = minL l)) l.length = (argm l : Nat) ∧ l.getD (argm l) 0 = minL l ∧ ∀ k, k < argm l → minL l < l.getD k 0 := by
  obtain ⟨k, h1, h2⟩ := minL_mem l h
  obtain ⟨q, q1, q2⟩ := least (fun k => k < l.length ∧ l.getD k 0 = minL l) ⟨k, h1, h2⟩
  have hno : ∀ i, i < q → l.getD i 0 ≠ minL l := fun i hi e => q2 i hi ⟨by omega, e⟩
  have e := idxF_hit (pr := fun k => decide (l.getD k 0 = minL l)) q1.1 (fun i hi => decide_eq_false (hno i hi)) (decide_eq_true q1.2)
  have ea : argm l = q := by unfold argm; rw [e]; rfl
  rw [ea]
  exact ⟨q1.1, e, q1.2, fun k hk => by
    have := minL_le l k (by omega)
    have := hno k hk
    omega⟩
end Go.Proofs.Ytmomjannlnafcaa.Abs
namespace Go.Proofs.Ytmomjannlnafcaa.Abs
set_option linter.unusedSimpArgs false
set_option linter.unusedVariables false
open Go.RowKit
open Go.Proofs.Ytmomjannlnafcaa.Sim
open Go.Proofs
set_option maxRecDepth 100000 in
theorem clone_pos {m : AM} {v : Value} {l : List Int} (hl : Ints m v l) (hpos : 0 < l.length) (hlen : l.length ≤ 1000000) : ACall Try.prog 77 #[v] m (New (some { cells := iv l, kind := .grow, size := 1 }) l.length m) := by
  obtain ⟨a, o, h1, h2, h3⟩ := hl
  refine ACall.start Try.func77 rfl rfl ?_
  rcases h1 with ⟨rfl, hn⟩ | ⟨c, hc, rfl⟩ | ⟨hn, _⟩
  · omega
  · have hr := ints_rdl (by omega) h3
    (repeat (first | (with_reducible refine AWo.cons ?_) | ((with_reducible refine Step.id ?_); first | ((with_reducible apply Step.move); exact rfl; exact rfl) | ((with_reducible apply Step.assign); exact rfl; exact rfl) | ((with_reducible apply Step.eqNil); exact rfl; exact rfl; exact un23; exact rfl) | ((with_reducible apply Step.buildS 0); exact rfl; exact rfl; exact (fun _ _ => bs23); exact rfl; (focus (first | (simp only [List.nil_append, List.cons_append, List.set_cons_zero, List.set_cons_succ, iv_set, bv_set, iv_rep, bv_rep]; done) | (simp only [List.nil_append, List.cons_append, List.set_cons_zero, List.set_cons_succ, iv_set, bv_set, iv_rep, bv_rep]; rfl) | rfl)))) | (with_reducible refine AWo.nil ?_) | ((with_reducible apply AW.seq)) | ((with_reducible apply Then.n)) | ((with_reducible apply AW.regL)) | ((with_reducible apply AW.skip)) | ((with_reducible apply AW.condF); exact rfl; (focus (rfl)))))
    ((with_reducible apply Step.appE (k := 1)); exact rfl; exact rfl; exact rfl; exact el23; exact un23; exact rfl; exact rfl; exact (hr.old _); (focus (simp [iv])); (focus (omega)); exact (iv_one _); (focus (omega)); exact rfl; (focus (first | (simp only [List.nil_append, List.cons_append, List.set_cons_zero, List.set_cons_succ, iv_set, bv_set, iv_rep, bv_rep]; done) | (simp only [List.nil_append, List.cons_append, List.set_cons_zero, List.set_cons_succ, iv_set, bv_set, iv_rep, bv_rep]; rfl) | rfl)))
    (repeat (first | (with_reducible refine AWo.cons ?_) | ((with_reducible refine Step.id ?_); ((with_reducible apply Step.assign); exact rfl; exact rfl)) | (with_reducible refine AWo.nil ?_) | ((with_reducible apply Then.n))))
    refine AW.retB (l := [(2, .slice (some ⟨m.length + 0, 0, none⟩) l.length l.length)]) (L1 := [some { cells := iv l, kind := .grow, size := 1 }]) (Back.mv 0 1 rfl rfl rfl rfl (by intro j b hj h; rcases j with _ | _ | _ | _ | _ | _ | j <;> simp_all) (by repeat (first | exact CellsOk.nil | refine CellsOk.cons (by exact g0_iv _) ?_)) (by repeat (first | exact trivial | (refine And.intro ⟨_, rfl, by (exact Ren.slice_mv (by first | (simp; done) | omega | (simp; omega)))⟩ ?_)))) ?_
    exact ⟨_, rfl, rfl, rfl⟩
  · omega
theorem and_pow2 (s i : Nat) : s &&& 2 ^ i = if s.testBit i then 2 ^ i else 0 := by
  apply Nat.eq_of_testBit_eq
  intro k
  rw [Nat.testBit_and, Nat.testBit_two_pow]
  by_cases e : i = k
  · subst e; cases h : s.testBit i <;> simp
  · cases h : s.testBit i <;> simp [e, Nat.testBit_two_pow]
section
variable {p : Nat → Int} {n N : Nat}
/-- The sums: the sets below s are done, of s the first i times. -/
def tabS (p : Nat → Int) (n N s i : Nat) : List Int := tab (fun x => if x < s then sB p n x else if x = s then sm (fun k => if s.testBit k then p k else 0) i else 0) N
theorem tabS_len (s i : Nat) : (tabS p n N s i).length = N := tab_len _ _
theorem tabS_get {s i : Nat} (h : s < N) : (tabS p n N s i).getD s 0 = sm (fun k => if s.testBit k then p k else 0) i := by
  unfold tabS; rw [tab_get _ h, if_neg (by omega), if_pos rfl]
theorem tabS_bit {s i : Nat} (hb : s.testBit i = true) : (tabS p n N s i).set s (sm (fun k => if s.testBit k then p k else 0) i + p i) = tabS p n N s (i + 1) := by
  unfold tabS
  rw [tab_set]
  refine tab_congr fun x _ => ?_
  by_cases e : x = s
  · subst e; rw [if_pos rfl, if_neg (by omega), if_pos rfl]; simp only [sm, if_pos hb]
  · rw [if_neg e, if_neg e, if_neg e]
theorem tabS_no {s i : Nat} (hb : s.testBit i = false) : tabS p n N s i = tabS p n N s (i + 1) := by
  unfold tabS
  refine tab_congr fun x _ => ?_
  by_cases e : x = s
  · subst e; rw [if_neg (by omega), if_pos rfl, if_neg (by omega), if_pos rfl]; simp [sm, hb]
  · rw [if_neg e, if_neg e]
theorem tabS_next (s : Nat) : tabS p n N s n = tabS p n N (s + 1) 0 := by
  unfold tabS
  refine tab_congr fun x _ => ?_
  by_cases e : x = s
  · subst e; rw [if_neg (by omega), if_pos rfl, if_pos (by omega)]; rfl
  · by_cases h : x < s
    · rw [if_pos h, if_pos (by omega)]
    · rw [if_neg h, if_neg e, if_neg (by omega)]
      simp [sm]
theorem tabS_zero : List.replicate N (0 : Int) = tabS p n N 0 0 := by
  rw [tab_rep]; unfold tabS
  refine tab_congr fun x _ => ?_
  rw [if_neg (by omega)]; simp [sm]
theorem tabS_end : tabS p n N N 0 = tab (sB p n) N := tab_congr fun x hx => if_pos hx
/-- One bench more: the sets below s are done, of s comes acc. -/
def tabN (p : Nat → Int) (n N k s : Nat) (acc : Int) : List Int := tab (fun x => if x < s then bestT p n (k + 1) x else if x = s then acc else bestT p n k x) N
theorem tabN_len (k s : Nat) (acc : Int) : (tabN p n N k s acc).length = N := tab_len _ _
theorem tabN_get {k s : Nat} {acc : Int} (h : s < N) : (tabN p n N k s acc).getD s 0 = acc := by
  unfold tabN; rw [tab_get _ h, if_neg (by omega), if_pos rfl]
theorem tabN_set {k s : Nat} {acc x : Int} : (tabN p n N k s acc).set s x = tabN p n N k s x := by
  unfold tabN
  rw [tab_set]
  refine tab_congr fun y _ => ?_
  by_cases e : y = s
  · subst e; rw [if_pos rfl, if_neg (by omega), if_pos rfl]
  · rw [if_neg e, if_neg e, if_neg e]
theorem tabN_next {k s : Nat} : tabN p n N k s (bestT p n (k + 1) s) = tabN p n N k (s + 1) (bestT p n k (s + 1)) := by
  unfold tabN
  refine tab_congr fun y _ => ?_
  by_cases e : y = s
  · subst e; rw [if_neg (by omega), if_pos rfl, if_pos (by omega)]
  · by_cases h : y < s
    · rw [if_pos h, if_pos (by omega)]
    · rw [if_neg h, if_neg e, if_neg (by omega)]
      by_cases e2 : y = s + 1
      · rw [if_pos e2, e2]
      · rw [if_neg e2]
theorem tabN_zero {k : Nat} : tab (bestT p n k) N = tabN p n N k 0 (bestT p n k 0) := by
  unfold tabN
  refine tab_congr fun y _ => ?_
  rw [if_neg (by omega)]
  by_cases e2 : y = 0
  · rw [if_pos e2, e2]
  · rw [if_neg e2]
theorem tabN_end {k : Nat} (x : Int) : tabN p n N k N x = tab (bestT p n (k + 1)) N := tab_congr fun y hy => if_pos hy
theorem sum_bd {l : List Int} (h : ∀ k, k < l.length → 1 ≤ l.getD k 0 ∧ l.getD k 0 ≤ 10000) (q : Nat → Prop) [DecidablePred q] : ∀ i, i ≤ l.length → 0 ≤ sm (fun k => if q k then l.getD k 0 else 0) i ∧ sm (fun k => if q k then l.getD k 0 else 0) i ≤ 10000 * i
  | 0, _ => by simp [sm]
  | i + 1, hi => by
    have h1 := sum_bd h q i (by omega)
    have h2 := h i (by omega)
    simp only [sm]
    split <;> omega
end
set_option maxHeartbeats 1000000 in
set_option maxRecDepth 100000 in
theorem Best_ok {m : AM} {v : Value} {l : List Int} {r : Nat} (hl : Ints m v l) (hok : timesB l ((r + 1 : Nat) : Int) = true) (h12 : l.length ≤ 12) {x : Int} (hx : bestT (fun i => l.getD i 0) l.length r (2 ^ l.length - 1) = x) :
    ACall Try.prog 30 #[v, .int .i64 ((r + 1 : Nat) : Int)] m (Ret (.tuple #[.int .i64 x, .int .i64 0]) m) := by
  subst hx
  have hT := TOk.of hok
  have hr8 := hT.m8
  obtain ⟨a, o, h1, h2, h3⟩ := id hl
  obtain ⟨p, hp⟩ : ∃ p : Nat → Int, p = fun i => l.getD i 0 := ⟨_, rfl⟩
  have hN : 2 ^ l.length ≤ 4096 := by
    have : 2 ^ l.length ≤ 2 ^ 12 := Nat.pow_le_pow_right (by omega) (by omega)
    omega
  have hN1 : 1 ≤ 2 ^ l.length := Nat.one_le_two_pow
  have bd : ∀ (s i : Nat), i ≤ l.length → 0 ≤ sm (fun k => if s.testBit k = true then p k else 0) i ∧ sm (fun k => if s.testBit k = true then p k else 0) i ≤ 10000 * i := fun s i hi => by
    rw [hp]; exact sum_bd hT.t (fun k => s.testBit k = true) i (by omega)
  rw [← hp]
  have er : ((r + 1 : Nat) : Int) - 1 = ((r : Nat) : Int) := by omega
  have eN : ((2 ^ l.length : Nat) : Int) - 1 = ((2 ^ l.length - 1 : Nat) : Int) := by omega
  have pw : ∀ i, i ≤ l.length → 2 ^ i ≤ 4096 := fun i hi => Nat.le_trans (Nat.pow_le_pow_right (by omega) hi) hN
  refine ACall.start Try.func30 rfl rfl ?_
  (repeat (first | (with_reducible refine AWo.cons ?_) | ((with_reducible refine Step.id ?_); first | ((with_reducible apply Step.move); exact rfl; exact rfl) | ((with_reducible apply Step.assign); exact rfl; exact rfl) | ((with_reducible apply Step.shl1); exact rfl; exact rfl; (focus (omega)); exact rfl) | ((with_reducible apply Step.gtr); exact rfl; exact rfl; exact rfl) | ((with_reducible apply Step.len); exact rfl; (focus (first | assumption | exact Sl.mk (by omega))); (focus (decide +kernel)); exact rfl) | ((with_reducible apply Step.not); exact rfl; exact rfl) | ((with_reducible apply Step.callR fit); exact rfl; exact Try.func70; exact rfl; exact rfl; exact (like_ok (hl.old []) (by omega) hok)) | ((with_reducible apply Step.make1 0); exact rfl; exact rfl; exact rfl; exact el23; (focus (omega)); exact rfl; (focus (first | (simp only [List.nil_append, List.cons_append, List.set_cons_zero, List.set_cons_succ, iv_set, bv_set, iv_rep, bv_rep]; done) | (simp only [List.nil_append, List.cons_append, List.set_cons_zero, List.set_cons_succ, iv_set, bv_set, iv_rep, bv_rep]; rfl) | rfl)))) | (with_reducible refine AWo.nil ?_) | ((with_reducible apply AW.seq)) | ((with_reducible apply Then.n)) | ((with_reducible apply AW.regL)) | ((with_reducible apply AW.block)) | ((with_reducible apply InBlk.n)) | ((with_reducible apply AW.skip)) | ((with_reducible apply AW.condF); exact rfl; (focus (first | rfl | (simp only [decide_eq_true_eq, decide_eq_false_iff_not, Bool.not_eq_true', Bool.not_eq_false', Bool.not_true, Bool.not_false]; first | assumption | omega))))))
  generalize hN2 : 2 ^ l.length = N at *
  refine AW.loopT (fun n' t L => ∃ s : Nat, n' = N - s ∧ s ≤ N ∧ L = [some { cells := iv (tabS p l.length N s 0) }] ∧
    t = [(0, v), (1, .int .i64 ((r + 1 : Nat) : Int)), (6, .slice (some ⟨m.length + 0, 0, none⟩) N N), (28, .int .i64 (N : Nat)), (29, .int .i64 (s : Nat))]) ⟨_, _, _, (Or.inl ⟨rfl, (by repeat (first | exact trivial | (refine And.intro rfl ?_)))⟩), 0, rfl, Nat.zero_le _, by rw [tabS_zero], rfl⟩ ?_
  rintro n' t L ⟨s, rfl, hs, rfl, rfl⟩
  rcases Nat.lt_or_ge s N with hlt | hge
  · (repeat (first | (with_reducible refine AWo.cons ?_) | ((with_reducible refine Step.id ?_); first | ((with_reducible apply Step.move); exact rfl; exact rfl) | ((with_reducible apply Step.assign); exact rfl; exact rfl) | ((with_reducible apply Step.lss); exact rfl; exact rfl; exact rfl) | ((with_reducible apply Step.len); exact rfl; (focus (assumption)); (focus (decide +kernel)); exact rfl)) | (with_reducible refine AWo.nil ?_) | ((with_reducible apply AW.seq)) | ((with_reducible apply Then.n)) | ((with_reducible apply AW.regL)) | ((with_reducible apply AW.block)) | ((with_reducible apply AW.skip)) | ((with_reducible apply AW.condT); exact rfl; (focus ((simp only [decide_eq_true_eq, decide_eq_false_iff_not, Bool.not_eq_true', Bool.not_eq_false', Bool.not_true, Bool.not_false]; first | assumption | omega))))))
    refine AW.loopT (fun n' t L => ∃ i : Nat, n' = l.length - i ∧ i ≤ l.length ∧ L = [some { cells := iv (tabS p l.length N s i) }] ∧
      t = [(0, v), (1, .int .i64 ((r + 1 : Nat) : Int)), (6, .slice (some ⟨m.length + 0, 0, none⟩) N N), (28, .int .i64 (N : Nat)), (29, .int .i64 (s : Nat)), (7, .int .i64 (s : Nat)), (32, v), (33, .int .i64 (l.length : Nat)), (34, .int .i64 (i : Nat))]) ⟨_, _, _, (Or.inl ⟨rfl, (by repeat (first | exact trivial | (refine And.intro rfl ?_)))⟩), 0, rfl, Nat.zero_le _, rfl, rfl⟩ ?_
    rintro n' t L ⟨i, rfl, hi, rfl, rfl⟩
    rcases Nat.lt_or_ge i l.length with hlt2 | hge2
    · have hr := h3 i (by omega)
      have hpi := pw i hi
      have hti := hT.t i (by omega)
      have b1 := bd s i hi
      have gS := tabS_get (p := p) (n := l.length) (i := i) hlt
      have lS := tabS_len (p := p) (n := l.length) (N := N) s i
      have and2 := and_pow2 s i
      have ep : l.getD i 0 = p i := by rw [hp]
      rw [ep] at hr hti
      have hi62 : i ≤ 62 := by omega
      have hs63 : s ≤ 4096 := by omega
      cases hb : s.testBit i with
      | true =>
        have hset := tabS_bit (p := p) (n := l.length) (N := N) hb
        rw [← gS] at hset b1
        rw [hb] at and2
        have hne : ¬ ((s &&& 2 ^ i : Nat) : Int) = 0 := by
          rw [and2, if_pos rfl]; have := Nat.one_le_two_pow (n := i); omega
        generalize hrow : tabS p l.length N s i = row at *
        clear hN1 and2
        (repeat (first | (with_reducible refine AWo.cons ?_) | ((with_reducible refine Step.id ?_); first | ((with_reducible apply Step.move); exact rfl; exact rfl) | ((with_reducible apply Step.assign); exact rfl; exact rfl) | ((with_reducible apply Step.load); exact rfl; (focus (decide +kernel)); exact rfl; (focus (first | exact Rd.new rfl (iv_get (by first | omega | (simp; omega))) | exact Rd.old _ (by assumption)))) | ((with_reducible apply Step.ix1z); exact rfl; (focus (exact Sl.mk (by omega))); exact rfl; (focus (decide +kernel)); exact rfl; (focus (omega))) | ((with_reducible apply Step.ix1); exact rfl; (focus (assumption)); exact rfl; (focus (decide +kernel)); exact rfl; (focus (omega))) | ((with_reducible apply Step.shl1); exact rfl; exact rfl; (focus (omega)); exact rfl) | ((with_reducible apply Step.andN); exact rfl; exact rfl; (focus (omega)); (focus (omega)); exact rfl) | ((with_reducible apply Step.add); exact rfl; exact rfl; (focus (omega)); exact rfl) | ((with_reducible apply Step.lss); exact rfl; exact rfl; exact rfl) | ((with_reducible apply Step.neq); exact rfl; exact rfl; exact rfl) | ((with_reducible apply Step.store (k := 0)); exact rfl; exact rfl; exact rfl; exact rfl; (focus (decide +kernel)); exact rfl; exact rfl; (focus (first | omega | (simp [iv, bv]; done) | (simp [iv, bv]; omega))); (focus (first | (simp only [List.nil_append, List.cons_append, List.set_cons_zero, List.set_cons_succ, iv_set, bv_set, iv_rep, bv_rep]; done) | (simp only [List.nil_append, List.cons_append, List.set_cons_zero, List.set_cons_succ, iv_set, bv_set, iv_rep, bv_rep]; rfl) | rfl)))) | (with_reducible refine AWo.nil ?_) | ((with_reducible apply AW.seq)) | ((with_reducible apply Then.n)) | ((with_reducible apply AW.regL)) | ((with_reducible apply AW.block)) | ((with_reducible apply InBlk.n)) | ((with_reducible apply AW.skip)) | ((with_reducible apply AW.condT); exact rfl; (focus ((simp only [decide_eq_true_eq, decide_eq_false_iff_not, Bool.not_eq_true', Bool.not_eq_false', Bool.not_true, Bool.not_false]; first | assumption | omega))))))
        exact ⟨_, _, _, by omega, (Or.inl ⟨rfl, (by repeat (first | exact trivial | (refine And.intro rfl ?_)))⟩), i + 1, rfl, by omega, by rw [← hset], rfl⟩
      | false =>
        have hno := tabS_no (p := p) (n := l.length) (N := N) hb
        rw [hb] at and2
        have hne : ((s &&& 2 ^ i : Nat) : Int) = 0 := by rw [and2]; simp
        generalize hrow : tabS p l.length N s i = row at *
        clear hN1 and2
        (repeat (first | (with_reducible refine AWo.cons ?_) | ((with_reducible refine Step.id ?_); first | ((with_reducible apply Step.move); exact rfl; exact rfl) | ((with_reducible apply Step.assign); exact rfl; exact rfl) | ((with_reducible apply Step.load); exact rfl; (focus (decide +kernel)); exact rfl; (focus (exact Rd.old _ (by assumption)))) | ((with_reducible apply Step.ix1); exact rfl; (focus (assumption)); exact rfl; (focus (decide +kernel)); exact rfl; (focus (omega))) | ((with_reducible apply Step.shl1); exact rfl; exact rfl; (focus (omega)); exact rfl) | ((with_reducible apply Step.andN); exact rfl; exact rfl; (focus (omega)); (focus (omega)); exact rfl) | ((with_reducible apply Step.add); exact rfl; exact rfl; (focus (omega)); exact rfl) | ((with_reducible apply Step.lss); exact rfl; exact rfl; exact rfl) | ((with_reducible apply Step.neq); exact rfl; exact rfl; exact rfl)) | (with_reducible refine AWo.nil ?_) | ((with_reducible apply AW.seq)) | ((with_reducible apply Then.n)) | ((with_reducible apply AW.regL)) | ((with_reducible apply AW.block)) | ((with_reducible apply InBlk.n)) | ((with_reducible apply AW.skip)) | ((with_reducible apply AW.condT); exact rfl; (focus ((simp only [decide_eq_true_eq, decide_eq_false_iff_not, Bool.not_eq_true', Bool.not_eq_false', Bool.not_true, Bool.not_false]; first | assumption | omega)))) | ((with_reducible apply AW.condF); exact rfl; (focus ((simp only [decide_eq_true_eq, decide_eq_false_iff_not, Bool.not_eq_true', Bool.not_eq_false', Bool.not_true, Bool.not_false]; first | assumption | omega))))))
        exact ⟨_, _, _, by omega, (Or.inl ⟨rfl, (by repeat (first | exact trivial | (refine And.intro rfl ?_)))⟩), i + 1, rfl, by omega, by rw [← hno], rfl⟩
    · obtain rfl : i = l.length := by omega
      (repeat (first | (with_reducible refine AWo.cons ?_) | ((with_reducible refine Step.id ?_); first | ((with_reducible apply Step.move); exact rfl; exact rfl) | ((with_reducible apply Step.add); exact rfl; exact rfl; (focus (omega)); exact rfl) | ((with_reducible apply Step.lss); exact rfl; exact rfl; exact rfl)) | (with_reducible refine AWo.nil ?_) | ((with_reducible apply AW.seq)) | ((with_reducible apply Then.n)) | ((with_reducible apply AW.regL)) | ((with_reducible apply AW.exit)) | ((with_reducible apply InBlk.n)) | ((with_reducible apply InBlk.hit)) | ((with_reducible apply Then.e)) | ((with_reducible apply AW.condF); exact rfl; (focus ((simp only [decide_eq_true_eq, decide_eq_false_iff_not, Bool.not_eq_true', Bool.not_eq_false', Bool.not_true, Bool.not_false]; first | assumption | omega))))))
      exact ⟨_, _, _, by omega, (Or.inl ⟨rfl, (by repeat (first | exact trivial | (refine And.intro rfl ?_)))⟩), s + 1, rfl, by omega, by rw [tabS_next], rfl⟩
  · obtain rfl : s = N := by omega
    rw [tabS_end]
    obtain ⟨A, hA⟩ : ∃ A, A = tab (sB p l.length) s := ⟨_, rfl⟩
    have lA : A.length = s := by rw [hA, tab_len]
    have gA : ∀ x, x < s → A.getD x 0 = sB p l.length x := fun x hx => by rw [hA, tab_get _ hx]
    rw [← hA]
    have c1 := clone_pos (m := m ++ [some { cells := iv A }]) (l := A) (ints_new (k := 0) rfl rfl s lA.symm) (by omega) (by omega)
    rw [lA] at c1
    (repeat (first | (with_reducible refine AWo.cons ?_) | ((with_reducible refine Step.id ?_); first | ((with_reducible apply Step.move); exact rfl; exact rfl) | ((with_reducible apply Step.assign); exact rfl; exact rfl) | ((with_reducible apply Step.subE); exact rfl; exact rfl; (focus (assumption)); (focus (omega)); exact rfl) | ((with_reducible apply Step.lss); exact rfl; exact rfl; exact rfl) | ((with_reducible apply Step.callN fit (k := 1)); exact rfl; exact rfl; exact Try.func77; exact rfl; exact rfl; exact (c1); (focus (first | (simp only [List.nil_append, List.cons_append, List.set_cons_zero, List.set_cons_succ, iv_set, bv_set, iv_rep, bv_rep]; done) | (simp only [List.nil_append, List.cons_append, List.set_cons_zero, List.set_cons_succ, iv_set, bv_set, iv_rep, bv_rep]; rfl) | rfl)))) | (with_reducible refine AWo.nil ?_) | ((with_reducible apply AW.seq)) | ((with_reducible apply Then.n)) | ((with_reducible apply AW.regL)) | ((with_reducible apply AW.block)) | ((with_reducible apply AW.exit)) | ((with_reducible apply InBlk.hit)) | ((with_reducible apply Then.e)) | ((with_reducible apply AW.condF); exact rfl; (focus ((simp only [decide_eq_true_eq, decide_eq_false_iff_not, Bool.not_eq_true', Bool.not_eq_false', Bool.not_true, Bool.not_false]; first | assumption | omega))))))
    refine AW.loopT (fun n' t L => ∃ (k : Nat) (B : List Int), n' = r - k ∧ k ≤ r ∧ B = tab (bestT p l.length k) s ∧ L = [some { cells := iv A }, some { cells := iv B, kind := .grow, size := 1 }] ∧
      t = [(6, .slice (some ⟨m.length + 0, 0, none⟩) s s), (10, .slice (some ⟨m.length + 1, 0, none⟩) s s), (56, .int .i64 (r : Nat)), (57, .int .i64 (k : Nat))]) ⟨_, _, _, (Or.inl ⟨rfl, (by repeat (first | exact trivial | (refine And.intro rfl ?_)))⟩), 0, A, rfl, Nat.zero_le _, hA, rfl, rfl⟩ ?_
    rintro n' t L ⟨k, B, rfl, hk, hB, rfl, rfl⟩
    have lB : B.length = s := by rw [hB, tab_len]
    have gB : ∀ x, x < s → B.getD x 0 = bestT p l.length k x := fun x hx => by rw [hB, tab_get _ hx]
    rcases Nat.lt_or_ge k r with hlt | hge
    · have c2 := clone_pos (m := m ++ [some { cells := iv A }, some { cells := iv B, kind := .grow, size := 1 }]) (l := B) (ints_new (k := 1) rfl rfl s lB.symm) (by omega) (by omega)
      rw [lB] at c2
      (repeat (first | (with_reducible refine AWo.cons ?_) | ((with_reducible refine Step.id ?_); first | ((with_reducible apply Step.move); exact rfl; exact rfl) | ((with_reducible apply Step.assign); exact rfl; exact rfl) | ((with_reducible apply Step.lss); exact rfl; exact rfl; exact rfl) | ((with_reducible apply Step.len); exact rfl; (focus (exact Sl.mk (by omega))); (focus (decide +kernel)); exact rfl) | ((with_reducible apply Step.callN fit (k := 2)); exact rfl; exact rfl; exact Try.func77; exact rfl; exact rfl; exact (c2); (focus (first | (simp only [List.nil_append, List.cons_append, List.set_cons_zero, List.set_cons_succ, iv_set, bv_set, iv_rep, bv_rep]; done) | (simp only [List.nil_append, List.cons_append, List.set_cons_zero, List.set_cons_succ, iv_set, bv_set, iv_rep, bv_rep]; rfl) | rfl)))) | (with_reducible refine AWo.nil ?_) | ((with_reducible apply AW.seq)) | ((with_reducible apply Then.n)) | ((with_reducible apply AW.regL)) | ((with_reducible apply AW.block)) | ((with_reducible apply AW.skip)) | ((with_reducible apply AW.condT); exact rfl; (focus ((simp only [decide_eq_true_eq, decide_eq_false_iff_not, Bool.not_eq_true', Bool.not_eq_false', Bool.not_true, Bool.not_false]; first | assumption | omega))))))
      refine AW.loopT (fun n' t L => ∃ (x : Nat), n' = s - x ∧ x ≤ s ∧ L = [some { cells := iv A }, some { cells := iv B, kind := .grow, size := 1 }, some { cells := iv (tabN p l.length s k x (bestT p l.length k x)), kind := .grow, size := 1 }] ∧
        t = [(6, .slice (some ⟨m.length + 0, 0, none⟩) s s), (10, .slice (some ⟨m.length + 1, 0, none⟩) s s), (56, .int .i64 (r : Nat)), (57, .int .i64 (k : Nat)), (11, .slice (some ⟨m.length + 2, 0, none⟩) s s), (62, .int .i64 (s : Nat)), (63, .int .i64 (x : Nat))]) ⟨_, _, _, (Or.inl ⟨rfl, (by repeat (first | exact trivial | (refine And.intro rfl ?_)))⟩), 0, rfl, Nat.zero_le _, by rw [hB, tabN_zero], rfl⟩ ?_
      rintro n' t L ⟨x, rfl, hx, rfl, rfl⟩
      rcases Nat.lt_or_ge x s with hlt2 | hge2
      · (repeat (first | (with_reducible refine AWo.cons ?_) | ((with_reducible refine Step.id ?_); first | ((with_reducible apply Step.move); exact rfl; exact rfl) | ((with_reducible apply Step.assign); exact rfl; exact rfl) | ((with_reducible apply Step.lss); exact rfl; exact rfl; exact rfl)) | (with_reducible refine AWo.nil ?_) | ((with_reducible apply AW.seq)) | ((with_reducible apply Then.n)) | ((with_reducible apply AW.regL)) | ((with_reducible apply AW.block)) | ((with_reducible apply AW.skip)) | ((with_reducible apply AW.condT); exact rfl; (focus ((simp only [decide_eq_true_eq, decide_eq_false_iff_not, Bool.not_eq_true', Bool.not_eq_false', Bool.not_true, Bool.not_false]; first | assumption | omega))))))
        refine AW.loopT (fun n' t L => ∃ (q : Nat) (acc : Int), n' = q ∧ q ≤ x ∧ nxtF (sB p l.length) (bestT p l.length k) x acc (subs x q) = bestT p l.length (k + 1) x ∧ L = [some { cells := iv A }, some { cells := iv B, kind := .grow, size := 1 }, some { cells := iv (tabN p l.length s k x acc), kind := .grow, size := 1 }] ∧
          t = [(6, .slice (some ⟨m.length + 0, 0, none⟩) s s), (10, .slice (some ⟨m.length + 1, 0, none⟩) s s), (56, .int .i64 (r : Nat)), (57, .int .i64 (k : Nat)), (11, .slice (some ⟨m.length + 2, 0, none⟩) s s), (62, .int .i64 (s : Nat)), (63, .int .i64 (x : Nat)), (12, .int .i64 (x : Nat)), (13, .int .i64 (q : Nat))]) ⟨_, _, _, (Or.inl ⟨rfl, (by repeat (first | exact trivial | (refine And.intro rfl ?_)))⟩), x, bestT p l.length k x, rfl, Nat.le_refl _, rfl, rfl, rfl⟩ ?_
        rintro n' t L ⟨q, acc, rfl, hq, hacc, rfl, rfl⟩
        by_cases hq0 : n' = 0
        · subst hq0
          rw [subs_zero] at hacc
          simp only [nxtF, List.foldl_nil] at hacc
          subst hacc
          (repeat (first | (with_reducible refine AWo.cons ?_) | ((with_reducible refine Step.id ?_); first | ((with_reducible apply Step.move); exact rfl; exact rfl) | ((with_reducible apply Step.add); exact rfl; exact rfl; (focus (omega)); exact rfl) | ((with_reducible apply Step.gtr); exact rfl; exact rfl; exact rfl)) | (with_reducible refine AWo.nil ?_) | ((with_reducible apply AW.seq)) | ((with_reducible apply Then.n)) | ((with_reducible apply AW.regL)) | ((with_reducible apply AW.exit)) | ((with_reducible apply InBlk.n)) | ((with_reducible apply InBlk.hit)) | ((with_reducible apply Then.e)) | ((with_reducible apply AW.condF); exact rfl; (focus (rfl)))))
          exact ⟨_, _, _, by omega, (Or.inl ⟨rfl, (by repeat (first | exact trivial | (refine And.intro rfl ?_)))⟩), x + 1, rfl, by omega, by rw [tabN_next], rfl⟩
        · rw [subs_pos hq0] at hacc
          simp only [nxtF, List.foldl_cons] at hacc
          have g1 := gA n' (by omega)
          have hle := andn_le x n'
          have g2 := gB (andn x n') (by omega)
          have g3 := tabN_get (p := p) (n := l.length) (k := k) (acc := acc) hlt2
          have l3 := tabN_len (p := p) (n := l.length) (N := s) k x acc
          have st := tabN_set (p := p) (n := l.length) (N := s) (k := k) (s := x) (acc := acc) (x := min ((tabN p l.length s k x acc).getD x 0) (max (A.getD n' 0) (B.getD (andn x n') 0)))
          have e1 : ((n' : Nat) : Int) - 1 = ((n' - 1 : Nat) : Int) := by omega
          have hal := Nat.and_le_left (n := n' - 1) (m := x)
          have har := Nat.and_le_right (n := n' - 1) (m := x)
          rw [← g1, ← g2] at hacc
          have hnx := Nat.le_trans har (Nat.le_of_lt hlt2)
          generalize hrow : tabN p l.length s k x acc = row at *
          (repeat (first | (with_reducible refine AWo.cons ?_) | ((with_reducible refine Step.id ?_); first | ((with_reducible apply Step.move); exact rfl; exact rfl) | ((with_reducible apply Step.assign); exact rfl; exact rfl) | ((with_reducible apply Step.load); exact rfl; (focus (decide +kernel)); exact rfl; (focus (exact Rd.new rfl (iv_get (by first | omega | (simp; omega)))))) | ((with_reducible apply Step.ix1z); exact rfl; (focus (exact Sl.mk (by omega))); exact rfl; (focus (decide +kernel)); exact rfl; (focus (omega))) | ((with_reducible apply Step.subE); exact rfl; exact rfl; (focus (assumption)); (focus (omega)); exact rfl) | ((with_reducible apply Step.andN); exact rfl; exact rfl; (focus (omega)); (focus (omega)); exact rfl) | ((with_reducible apply Step.andnN); exact rfl; exact rfl; (focus (omega)); (focus (omega)); exact rfl) | ((with_reducible apply Step.gtr); exact rfl; exact rfl; exact rfl) | ((with_reducible apply Step.max); exact rfl; exact rfl; exact rfl) | ((with_reducible apply Step.min); exact rfl; exact rfl; exact rfl) | ((with_reducible apply Step.store (k := 2)); exact rfl; exact rfl; exact rfl; exact rfl; (focus (decide +kernel)); exact rfl; exact rfl; (focus (first | omega | (simp [iv, bv]; done) | (simp [iv, bv]; omega))); (focus (first | (simp only [List.nil_append, List.cons_append, List.set_cons_zero, List.set_cons_succ, iv_set, bv_set, iv_rep, bv_rep]; done) | (simp only [List.nil_append, List.cons_append, List.set_cons_zero, List.set_cons_succ, iv_set, bv_set, iv_rep, bv_rep]; rfl) | rfl)))) | (with_reducible refine AWo.nil ?_) | ((with_reducible apply AW.seq)) | ((with_reducible apply Then.n)) | ((with_reducible apply AW.regL)) | ((with_reducible apply AW.block)) | ((with_reducible apply AW.drawL fit); (focus (decide +kernel))) | ((with_reducible apply InBlk.n)) | ((with_reducible apply AW.skip)) | ((with_reducible apply AW.condT); exact rfl; (focus ((simp only [decide_eq_true_eq, decide_eq_false_iff_not, Bool.not_eq_true', Bool.not_eq_false', Bool.not_true, Bool.not_false]; first | assumption | omega))))))
          refine ⟨_, _, _, ?_, (Or.inl ⟨rfl, (by repeat (first | exact trivial | (refine And.intro rfl ?_)))⟩), (n' - 1) &&& x, _, rfl, har, hacc, ?_, rfl⟩
          · omega
          · rw [st, g3]
      · obtain rfl : x = s := by omega
        rw [tabN_end]
        (repeat (first | (with_reducible refine AWo.cons ?_) | ((with_reducible refine Step.id ?_); first | ((with_reducible apply Step.move); exact rfl; exact rfl) | ((with_reducible apply Step.assign); exact rfl; exact rfl) | ((with_reducible apply Step.add); exact rfl; exact rfl; (focus (omega)); exact rfl) | ((with_reducible apply Step.lss); exact rfl; exact rfl; exact rfl)) | (with_reducible refine AWo.nil ?_) | ((with_reducible apply AW.seq)) | ((with_reducible apply Then.n)) | ((with_reducible apply AW.regL)) | ((with_reducible apply AW.exit)) | ((with_reducible apply InBlk.n)) | ((with_reducible apply InBlk.hit)) | ((with_reducible apply Then.e)) | ((with_reducible apply AW.condF); exact rfl; (focus ((simp only [decide_eq_true_eq, decide_eq_false_iff_not, Bool.not_eq_true', Bool.not_eq_false', Bool.not_true, Bool.not_false]; first | assumption | omega))))))
        exact ⟨_, _, [some { cells := iv A }, some { cells := iv (tab (bestT p l.length (k + 1)) x), kind := .grow, size := 1 }], by omega, (Back.mv 1 2 rfl rfl rfl rfl (by intro j b hj h; rcases j with _ | _ | _ | _ | _ | _ | j <;> first | exact absurd rfl hj | exact h | (simp at h; done)) (by repeat (first | exact CellsOk.nil | refine CellsOk.cons (by exact g0_iv _) ?_)) (by repeat (first | exact trivial | (refine And.intro ⟨_, rfl, by (first | exact .int _ _ | exact Ren.slice_mv (by first | (simp; done) | omega | (simp; omega)) | exact Ren.slice_ne (by first | (simp; done) | omega | (simp; omega)) (by omega))⟩ ?_)))), k + 1, _, rfl, by omega, rfl, rfl, rfl⟩
    · obtain rfl : k = r := by omega
      have gL := gB (s - 1) (by omega)
      (repeat (first | (with_reducible refine AWo.cons ?_) | ((with_reducible refine Step.id ?_); first | ((with_reducible apply Step.move); exact rfl; exact rfl) | ((with_reducible apply Step.assign); exact rfl; exact rfl) | ((with_reducible apply Step.load); exact rfl; (focus (decide +kernel)); exact rfl; (focus (exact Rd.new rfl (iv_get (by first | omega | (simp; omega)))))) | ((with_reducible apply Step.ix1z); exact rfl; (focus (exact Sl.mk (by omega))); exact rfl; (focus (decide +kernel)); exact rfl; (focus (omega))) | ((with_reducible apply Step.subE); exact rfl; exact rfl; (focus (assumption)); (focus (omega)); exact rfl) | ((with_reducible apply Step.lss); exact rfl; exact rfl; exact rfl) | ((with_reducible apply Step.len); exact rfl; (focus (exact Sl.mk (by omega))); (focus (decide +kernel)); exact rfl)) | (with_reducible refine AWo.nil ?_) | ((with_reducible apply AW.seq)) | ((with_reducible apply Then.n)) | ((with_reducible apply AW.regL)) | ((with_reducible apply AW.exit)) | ((with_reducible apply InBlk.hit)) | ((with_reducible apply Then.e)) | ((with_reducible apply AW.condF); exact rfl; (focus ((simp only [decide_eq_true_eq, decide_eq_false_iff_not, Bool.not_eq_true', Bool.not_eq_false', Bool.not_true, Bool.not_false]; first | assumption | omega))))))
      (refine AW.retD (l := [(4, _), (5, _)]) (by repeat (first | exact trivial | (refine And.intro ⟨rfl, by (exact .int _ _)⟩ ?_))) ?_; (repeat (first | refine Then.r ?_ | refine InBlk.r ?_)))
      refine ⟨_, rfl, ?_, rfl⟩
      rw [gL]
end Go.Proofs.Ytmomjannlnafcaa.Abs
namespace Go.Proofs.Ytmomjannlnafcaa.Abs
set_option linter.unusedSimpArgs false
set_option linter.unusedVariables false
open Go.RowKit
open Go.Proofs.Ytmomjannlnafcaa.Sim
open Go.Proofs
def ixI (l : List Int) (c : Int → Int → Int) (a b : Int) : Int := c (l.getD a.toNat 0) (l.getD b.toNat 0)
set_option maxRecDepth 100000 in
theorem f105_ok {m : AM} {v : Value} {l : List Int} {c : Int → Int → Int} {g a1 a2 : Nat} {fn : Func} {bd : Code} (hf : Try.prog.funcs[g]? = some fn) (hb : fn.body = some bd) (hl : Ints m v l) (h1 : Rd m a1 0 (.func (.func g) #[] #[])) (h2 : Rd m a2 0 v)
    (hc : ∀ x y : Int, ACall Try.prog g (#[] ++ #[.int .i64 x, .int .i64 y] ++ #[]) m (Ret (.int .i64 (c x y)) m)) (x y : Int) (hx : 0 ≤ x ∧ x < l.length) (hy : 0 ≤ y ∧ y < l.length) :
    ACall Try.prog 105 #[.int .i64 x, .int .i64 y, .pointer (some ⟨a1, 0, none⟩), .pointer (some ⟨a2, 0, none⟩)] m (Ret (.int .i64 (ixI l c x y)) m) := by
  obtain ⟨a, o, k1, k2, k3⟩ := id hl
  obtain ⟨x, rfl⟩ := Int.eq_ofNat_of_zero_le hx.1
  obtain ⟨y, rfl⟩ := Int.eq_ofNat_of_zero_le hy.1
  have r1 := k3 x (by omega)
  have r2 := k3 y (by omega)
  rw [← List.append_nil m] at h1 h2 r1 r2 hc
  refine ACall.start Try.func105 rfl rfl ?_
  (repeat (first | (with_reducible refine AWo.cons ?_) | ((with_reducible refine Step.id ?_); first | ((with_reducible apply Step.move); exact rfl; exact rfl) | ((with_reducible apply Step.assign); exact rfl; exact rfl) | ((with_reducible apply Step.load); exact rfl; (focus (decide +kernel)); exact rfl; (focus (assumption))) | ((with_reducible apply Step.ix1); exact rfl; (focus (assumption)); exact rfl; (focus (decide +kernel)); exact rfl; (focus (omega))) | ((with_reducible apply Step.callV fit); exact rfl; exact rfl; exact hf; exact hb; exact rfl; exact (hc _ _))) | (with_reducible refine AWo.nil ?_) | ((with_reducible apply AW.seq)) | ((with_reducible apply Then.n)) | ((with_reducible apply AW.regL)) | ((with_reducible apply AW.drawL fit); (focus (decide +kernel)))))
  (refine AW.retD (l := [(6, _)]) (by repeat (first | exact trivial | (refine And.intro ⟨rfl, by (exact .int _ _)⟩ ?_))) ?_; (repeat (first | refine Then.r ?_ | refine InBlk.r ?_)))
  exact ⟨_, rfl, by simp [ixI], rfl⟩
set_option maxRecDepth 100000 in
theorem sortedI_ok {m : AM} {v : Value} {l : List Int} {c : Int → Int → Int} {le : Int → Int → Bool} {g : Nat} {fn : Func} {bd : Code} (hf : Try.prog.funcs[g]? = some fn) (hb : fn.body = some bd) (hl : Ints m v l) (hlen : l.length ≤ 40) (hT : TO le)
    (hX : ∀ x y : Int, 0 ≤ x → x < y → y < l.length → Cross le (ixI l c) x y)
    (hc : ∀ (m : AM) (x y : Int), ACall Try.prog g (#[] ++ #[.int .i64 x, .int .i64 y] ++ #[]) m (Ret (.int .i64 (c x y)) m)) :
    ACall Try.prog 73 #[v, .func (.func g) #[] #[]] m (New (some { cells := iv (ms le (upI l.length)) }) l.length m) := by
  obtain ⟨a, o, k1, k2, k3⟩ := id hl
  obtain ⟨bv, hbv⟩ : ∃ bv : Blk, bv = { cells := [v] } := ⟨_, rfl⟩
  obtain ⟨bf, hbf⟩ : ∃ bf : Blk, bf = { cells := [.func (.func g) #[] #[]] } := ⟨_, rfl⟩
  have hC : CmpOk (m ++ [some bv, some bf, some { cells := iv (upI l.length) }]) (m.length + 2) 1 .own (ixI l c) (fun x => 0 ≤ x ∧ x < l.length) 105 #[.pointer (some ⟨m.length + 1, 0, none⟩), .pointer (some ⟨m.length + 0, 0, none⟩)] := by
    refine ⟨by simp, rfl, fun r x y hx hy => ?_⟩
    have hl' : Ints (St (m ++ [some bv, some bf, some { cells := iv (upI l.length) }]) (m.length + 2) .own 1 r) v l :=
      ⟨a, o, k1, by rw [St.len]; simp; omega, fun k hk => St.rd_ne ((k3 k hk).old _) (by omega)⟩
    exact f105_ok hf hb hl' (St.rd_ne (Rd.new (L := [some bv, some bf, some { cells := iv (upI l.length) }]) (k := 1) rfl (by rw [hbf]; rfl)) (by omega))
      (St.rd_ne (Rd.new (L := [some bv, some bf, some { cells := iv (upI l.length) }]) (k := 0) rfl (by rw [hbv]; rfl)) (by omega)) (fun x y => hc _ x y) x y hx hy
  have hst := stable_ok hC hT Try.func105 rfl l.length (upI l.length) (upI_len _) hlen (fun x hx => upI_mem.1 hx) (upI_cross hX)
  rw [St.self (by rw [get_app]; rfl)] at hst
  have hset : St (m ++ [some bv, some bf, some { cells := iv (upI l.length) }]) (m.length + 2) .own 1 (ms le (upI l.length)) = m ++ [some bv, some bf, some { cells := iv (ms le (upI l.length)) }] := by
    unfold St; rw [set_app]; rfl
  rw [hset] at hst
  refine ACall.start Try.func73 rfl rfl ?_
  subst hbv hbf
  have hv := k1.cells
  (repeat (first | (with_reducible refine AWo.cons ?_) | ((with_reducible refine Step.id ?_); first | ((with_reducible apply Step.move); exact rfl; exact rfl) | ((with_reducible apply Step.assign); exact rfl; exact rfl) | ((with_reducible apply Step.load); exact rfl; (focus (decide +kernel)); exact rfl; (focus (exact Rd.new rfl rfl))) | ((with_reducible apply Step.len); exact rfl; (focus (assumption)); (focus (decide +kernel)); exact rfl) | ((with_reducible apply Step.fn); exact rfl; exact rfl; exact rfl) | ((with_reducible apply Step.callN fit (k := 2)); exact rfl; exact rfl; exact Try.func83; exact rfl; exact rfl; exact (upTo_ok _ (by omega)); (focus (first | (simp only [List.nil_append, List.cons_append, List.set_cons_zero, List.set_cons_succ, iv_set, bv_set, iv_rep, bv_rep]; done) | (simp only [List.nil_append, List.cons_append, List.set_cons_zero, List.set_cons_succ, iv_set, bv_set, iv_rep, bv_rep]; rfl) | rfl))) | ((with_reducible apply Step.callM fit); exact rfl; exact Try.func101; exact rfl; exact rfl; exact (hst)) | ((with_reducible apply Step.boxV 0); exact rfl; exact rfl; (focus (assumption)); exact rfl; (focus (first | (simp only [List.nil_append, List.cons_append, List.set_cons_zero, List.set_cons_succ, iv_set, bv_set, iv_rep, bv_rep]; done) | (simp only [List.nil_append, List.cons_append, List.set_cons_zero, List.set_cons_succ, iv_set, bv_set, iv_rep, bv_rep]; rfl) | rfl))) | ((with_reducible apply Step.box 1); exact rfl; exact rfl; (focus (kernel_rfl)); exact rfl; (focus (first | (simp only [List.nil_append, List.cons_append, List.set_cons_zero, List.set_cons_succ, iv_set, bv_set, iv_rep, bv_rep]; done) | (simp only [List.nil_append, List.cons_append, List.set_cons_zero, List.set_cons_succ, iv_set, bv_set, iv_rep, bv_rep]; rfl) | rfl)))) | (with_reducible refine AWo.nil ?_) | ((with_reducible apply AW.seq)) | ((with_reducible apply Then.n)) | ((with_reducible apply AW.regL))))
  refine AW.retB (l := [(4, .slice (some ⟨m.length + 0, 0, none⟩) l.length l.length)]) (L1 := [some { cells := iv (ms le (upI l.length)) }]) (Back.mv 0 2 rfl rfl rfl rfl (by intro j b hj h; rcases j with _ | _ | _ | _ | _ | _ | j <;> simp_all) (by repeat (first | exact CellsOk.nil | refine CellsOk.cons (by exact g0_iv _) ?_)) (by repeat (first | exact trivial | (refine And.intro ⟨_, rfl, by (exact Ren.slice_mv (by first | (simp; done) | omega | (simp; omega)))⟩ ?_)))) ?_
  exact ⟨_, rfl, rfl, rfl⟩
def leL (l : List Int) (a b : Int) : Bool := decide (-(l.getD a.toNat 0) < -(l.getD b.toNat 0) ∨ -(l.getD a.toNat 0) = -(l.getD b.toNat 0) ∧ ((0 : Int) < 0 ∨ (0 : Int) = 0 ∧ a ≤ b))
theorem leL_to (l : List Int) : TO (leL l) := lex_to (fun a => -(l.getD a.toNat 0)) (fun _ => 0)
theorem leL_iff {l : List Int} {a b : Int} : leL l a b = true ↔ l.getD b.toNat 0 < l.getD a.toNat 0 ∨ l.getD b.toNat 0 = l.getD a.toNat 0 ∧ a ≤ b := by
  simp only [leL, decide_eq_true_eq, Int.lt_irrefl, false_or, true_and]; omega
theorem leL_cross (l : List Int) (x y : Int) (hxy : x < y) : Cross (leL l) (ixI l fun x y => cmpI y x) x y := by
  unfold Cross ixI
  simp only [leL, decide_eq_false_iff_not, cmpI, Int.lt_irrefl, false_or, true_and]
  generalize l.getD x.toNat 0 = X
  generalize l.getD y.toNat 0 = Y
  split
  · omega
  · split <;> omega
set_option maxRecDepth 100000 in
theorem f74_ok {m : AM} (x y : Int) : ACall Try.prog 74 #[.int .i64 x, .int .i64 y] m (Ret (.int .i64 (cmpI y x)) m) := by
  refine ACall.start Try.func74 rfl rfl ?_
  (repeat (first | (with_reducible refine AWo.cons ?_) | ((with_reducible refine Step.id ?_); first | ((with_reducible apply Step.move); exact rfl; exact rfl) | ((with_reducible apply Step.assign); exact rfl; exact rfl) | ((with_reducible apply Step.callR fit); exact rfl; exact Try.func68; exact rfl; exact rfl; exact (compare_ok _ _ rfl))) | (with_reducible refine AWo.nil ?_) | ((with_reducible apply AW.seq)) | ((with_reducible apply Then.n)) | ((with_reducible apply AW.regL))))
  (refine AW.retD (l := [(4, _)]) (by repeat (first | exact trivial | (refine And.intro ⟨rfl, by (exact .int _ _)⟩ ?_))) ?_; (repeat (first | refine Then.r ?_ | refine InBlk.r ?_)))
  exact ⟨_, rfl, rfl, rfl⟩
def ordL (l : List Int) : List Int := ms (leL l) (upI l.length)
theorem ordL_len (l : List Int) : (ordL l).length = l.length := by rw [ordL, ms_len, upI_len]
theorem ordL_mem {l : List Int} {x : Int} : x ∈ ordL l ↔ 0 ≤ x ∧ x < l.length := by rw [ordL, ms_mem]; exact upI_mem
theorem ordL_get {l : List Int} {k : Nat} (h : k < l.length) : ∃ i : Nat, (ordL l).getD k 0 = (i : Int) ∧ i < l.length := by
  have : (ordL l).getD k 0 ∈ ordL l := by
    have hk : k < (ordL l).length := by rw [ordL_len]; exact h
    rw [List.getD_eq_getElem?_getD, List.getElem?_eq_getElem hk]; exact List.getElem_mem hk
  obtain ⟨h1, h2⟩ := ordL_mem.1 this
  exact ⟨((ordL l).getD k 0).toNat, by omega, by omega⟩
/-- One job to the bench with the least load. -/
def longS (l : List Int) (st : List Int × List Int) (i : Int) : List Int × List Int :=
  (st.1.set i.toNat (argm st.2 : Nat), st.2.set (argm st.2) (st.2.getD (argm st.2) 0 + l.getD i.toNat 0))
def longF (l : List Int) (q k : Nat) : List Int × List Int := ((ordL l).take k).foldl (longS l) (List.replicate l.length 0, List.replicate q 0)
theorem longF_succ {l : List Int} {q k : Nat} (h : k < l.length) : longF l q (k + 1) = longS l (longF l q k) ((ordL l).getD k 0) := by
  unfold longF
  rw [take_snoc (ordL l) k 0 (by rw [ordL_len]; exact h), List.foldl_append]; rfl
theorem longF_len {l : List Int} {q : Nat} : ∀ k, k ≤ l.length → (longF l q k).1.length = l.length ∧ (longF l q k).2.length = q
  | 0, _ => by simp [longF]
  | k + 1, h => by
    rw [longF_succ h]
    have := longF_len (l := l) (q := q) k (by omega)
    simp [longS, this]
theorem getD_set (l : List Int) (i j : Nat) (x : Int) (h : i < l.length) : (l.set i x).getD j 0 = if i = j then x else l.getD j 0 := by
  simp only [List.getD_eq_getElem?_getD, List.getElem?_set]
  by_cases e : i = j
  · subst e; simp [h]
  · simp [e]
theorem longF_bd {l : List Int} {q : Nat} (hq : 0 < q) (ht : ∀ k, k < l.length → 1 ≤ l.getD k 0 ∧ l.getD k 0 ≤ 10000) : ∀ k, k ≤ l.length → ∀ b, 0 ≤ (longF l q k).2.getD b 0 ∧ (longF l q k).2.getD b 0 ≤ 10000 * k
  | 0, _, b => by simp [longF, List.getElem?_replicate]; split <;> simp
  | k + 1, h, b => by
    rw [longF_succ h]
    have h1 := longF_bd hq ht k (by omega)
    have h2 := longF_len (l := l) (q := q) k (by omega)
    obtain ⟨i, hi, hil⟩ := ordL_get h
    have h3 := argm_spec (l := (longF l q k).2) (by omega)
    have h4 := h1 b
    have h5 := h1 (argm (longF l q k).2)
    have h6 := ht i hil
    simp only [longS, hi, Int.toNat_natCast]
    rw [getD_set _ _ _ _ h3.1]
    split <;> omega
set_option maxRecDepth 100000 in
theorem Long_ok {m : AM} {v : Value} {l : List Int} {q : Nat} (hl : Ints m v l) (hok : timesB l q = true) {row : List Int} (hrow : (longF l q l.length).1 = row) :
    ACall Try.prog 28 #[v, .int .i64 (q : Nat)] m (NewT (fun N => .tuple #[.slice (some ⟨N, 0, none⟩) l.length l.length, .int .i64 0]) (some { cells := iv row }) m) := by
  subst hrow
  have hT := TOk.of hok
  have h40 := hT.len
  have hq1 := hT.m1
  have hq8 := hT.m8
  obtain ⟨a, o, h1, h2, h3⟩ := id hl
  have hs := fun L => sortedI_ok (m := m ++ L) (c := fun x y => cmpI y x) (le := leL l) Try.func74 rfl (hl.old L) h40 (leL_to l) (fun x y _ h _ => leL_cross l x y h) (fun m x y => by rw [Array.append_empty, Array.empty_append]; exact f74_ok x y)
  refine ACall.start Try.func28 rfl rfl ?_
  (repeat (first | (with_reducible refine AWo.cons ?_) | ((with_reducible refine Step.id ?_); first | ((with_reducible apply Step.move); exact rfl; exact rfl) | ((with_reducible apply Step.assign); exact rfl; exact rfl) | ((with_reducible apply Step.not); exact rfl; exact rfl) | ((with_reducible apply Step.callR fit); exact rfl; exact Try.func70; exact rfl; exact rfl; exact (like_ok (hl.old []) (by omega) hok))) | (with_reducible refine AWo.nil ?_) | ((fail_if_success (with_reducible refine AW.atR (id := 3) ?_)); ((with_reducible apply AW.seq))) | ((with_reducible apply Then.n)) | ((with_reducible apply AW.regL)) | ((with_reducible apply AW.skip)) | ((with_reducible apply AW.condF); exact rfl; (focus (rfl)))))
  refine AW.joinG (fr [(0, v), (1, .int .i64 (q : Nat)), (6, .slice (some ⟨m.length + 0, 0, none⟩) l.length l.length), (7, .slice (some ⟨m.length + 1, 0, none⟩) q q)]) (m ++ [some { cells := iv (List.replicate l.length 0) }, some { cells := iv (List.replicate q 0) }]) ?_ ?_
  · (repeat' (first | ((with_reducible refine Step.id ?_); first | ((with_reducible apply Step.move); exact rfl; exact rfl) | ((with_reducible apply Step.assign); exact rfl; exact rfl) | ((with_reducible apply Step.len); exact rfl; (focus (assumption)); (focus (decide +kernel)); exact rfl) | ((with_reducible apply Step.make1 0); exact rfl; exact rfl; exact rfl; exact el23; (focus (omega)); exact rfl; (focus (first | (simp only [List.nil_append, List.cons_append, List.set_cons_zero, List.set_cons_succ, iv_set, bv_set, iv_rep, bv_rep]; done) | (simp only [List.nil_append, List.cons_append, List.set_cons_zero, List.set_cons_succ, iv_set, bv_set, iv_rep, bv_rep]; rfl) | rfl))) | ((with_reducible apply Step.make1 1); exact rfl; exact rfl; exact rfl; exact el23; (focus (omega)); exact rfl; (focus (first | (simp only [List.nil_append, List.cons_append, List.set_cons_zero, List.set_cons_succ, iv_set, bv_set, iv_rep, bv_rep]; done) | (simp only [List.nil_append, List.cons_append, List.set_cons_zero, List.set_cons_succ, iv_set, bv_set, iv_rep, bv_rep]; rfl) | rfl)))) | ((with_reducible apply Then.n)) | ((with_reducible apply AW.drawT fit (T := (.step 0 (.step 1 (.step 3 (.both (.step 2 (.step 5 (.step 4 (.step 6 .done)))) (.step 4 (.step 2 (.step 5 (.step 6 .done)))))))))); (focus (decide +kernel))) | ((with_reducible apply AWt.step); exact rfl) | ((with_reducible apply AWt.done)) | refine AWt.both ?_ ?_))
    all_goals first | (refine Gc.perm [0,1] rfl (by decide) ?_ (CellsOk.ren ?_) ?_; (focus (intro p hp; rcases p with _ | _ | p <;> first | rfl | exact absurd hp (lenB (n := 2) rfl))); (focus (repeat (first | exact CellsOk.nil | refine CellsOk.cons (by exact g0_iv _) ?_))); (focus ((repeat (first | exact trivial | (refine And.intro ⟨_, rfl, ?_⟩ ?_; (focus (first | exact .int _ _ | (refine Ren.slice_sg ?_; (focus (first | (simp; done) | omega | (simp; omega)))) | (refine Ren.of_sl_sg (by assumption) ?_ ?_; (focus (first | (simp; done) | omega | (simp; omega))); (focus (simp; done)))))))); done))) | (refine Gc.perm [1,0] rfl (by decide) ?_ (CellsOk.ren ?_) ?_; (focus (intro p hp; rcases p with _ | _ | p <;> first | rfl | exact absurd hp (lenB (n := 2) rfl))); (focus (repeat (first | exact CellsOk.nil | refine CellsOk.cons (by exact g0_iv _) ?_))); (focus ((repeat (first | exact trivial | (refine And.intro ⟨_, rfl, ?_⟩ ?_; (focus (first | exact .int _ _ | (refine Ren.slice_sg ?_; (focus (first | (simp; done) | omega | (simp; omega)))) | (refine Ren.of_sl_sg (by assumption) ?_ ?_; (focus (first | (simp; done) | omega | (simp; omega))); (focus (simp; done)))))))); done)))
  (repeat (first | (with_reducible refine AWo.cons ?_) | ((with_reducible refine Step.id ?_); first | ((with_reducible apply Step.move); exact rfl; exact rfl) | ((with_reducible apply Step.len); exact rfl; (focus (exact Sl.mk (by omega))); (focus (decide +kernel)); exact rfl) | ((with_reducible apply Step.callN fit (k := 2)); exact rfl; exact rfl; exact Try.func73; exact rfl; exact rfl; exact (hs _); (focus (first | (simp only [List.nil_append, List.cons_append, List.set_cons_zero, List.set_cons_succ, iv_set, bv_set, iv_rep, bv_rep]; done) | (simp only [List.nil_append, List.cons_append, List.set_cons_zero, List.set_cons_succ, iv_set, bv_set, iv_rep, bv_rep]; rfl) | rfl)))) | (with_reducible refine AWo.nil ?_) | ((with_reducible apply AW.seq)) | ((with_reducible apply Then.n)) | ((with_reducible apply AW.regL)) | ((with_reducible apply AW.block))))
  refine AW.loopT (fun n' t L => ∃ k : Nat, n' = l.length - k ∧ k ≤ l.length ∧ L = [some { cells := iv (longF l q k).1 }, some { cells := iv (longF l q k).2 }, some { cells := iv (ordL l) }] ∧
    t = [(0, v), (6, .slice (some ⟨m.length + 0, 0, none⟩) l.length l.length), (7, .slice (some ⟨m.length + 1, 0, none⟩) q q), (21, .slice (some ⟨m.length + 2, 0, none⟩) l.length l.length), (22, .int .i64 (l.length : Nat)), (23, .int .i64 (k : Nat))]) ⟨_, _, _, (Or.inl ⟨rfl, (by repeat (first | exact trivial | (refine And.intro rfl ?_)))⟩), 0, rfl, Nat.zero_le _, rfl, rfl⟩ ?_
  rintro n' t L ⟨k, rfl, hk, rfl, rfl⟩
  rcases Nat.lt_or_ge k l.length with hlt | hge
  · obtain ⟨l1, l2⟩ := longF_len (l := l) (q := q) k hk
    have sp := argm_spec (l := (longF l q k).2) (by omega)
    have bd := longF_bd (l := l) (q := q) (by omega) hT.t k hk (argm (longF l q k).2)
    have su := longF_succ (l := l) (q := q) hlt
    obtain ⟨i, hi, hil⟩ := ordL_get hlt
    have hr := h3 i hil
    have ht := hT.t i hil
    have lo := ordL_len l
    rw [hi] at su
    simp only [longS, Int.toNat_natCast] at su
    have hro : Rd (m ++ [some { cells := iv (longF l q k).1 }, some { cells := iv (longF l q k).2 }, some { cells := iv (ordL l) }]) (m.length + 2) k (.int .i64 (i : Nat)) := by
      rw [← hi]; exact Rd.new rfl (iv_get (by omega))
    have mi := min_ok (m := m ++ [some { cells := iv ((longF l q k).1) }, some { cells := iv (longF l q k).2 }, some { cells := iv (ordL l) }]) (l := (longF l q k).2) (ints_new (k := 1) rfl rfl q l2.symm) (by omega) (by omega)
    have ix := index_ok (m := m ++ [some { cells := iv ((longF l q k).1) }, some { cells := iv (longF l q k).2 }, some { cells := iv (ordL l) }]) (l := (longF l q k).2) (minL (longF l q k).2) (ints_new (k := 1) rfl rfl q l2.symm) (by omega)
    rw [sp.2.1] at ix
    have ha := sp.1
    clear sp
    generalize hA : (longF l q k).1 = A at *
    generalize hB : (longF l q k).2 = B at *
    generalize hb : argm B = b at *
    (repeat (first | (with_reducible refine AWo.cons ?_) | ((with_reducible refine Step.id ?_); first | ((with_reducible apply Step.move); exact rfl; exact rfl) | ((with_reducible apply Step.assign); exact rfl; exact rfl) | ((with_reducible apply Step.load); exact rfl; (focus (decide +kernel)); exact rfl; (focus (first | assumption | exact Rd.new rfl (iv_get (by first | omega | (simp; omega))) | exact Rd.old _ (by assumption)))) | ((with_reducible apply Step.ix1z); exact rfl; (focus (exact Sl.mk (by omega))); exact rfl; (focus (decide +kernel)); exact rfl; (focus (omega))) | ((with_reducible apply Step.ix1); exact rfl; (focus (assumption)); exact rfl; (focus (decide +kernel)); exact rfl; (focus (omega))) | ((with_reducible apply Step.add); exact rfl; exact rfl; (focus (omega)); exact rfl) | ((with_reducible apply Step.lss); exact rfl; exact rfl; exact rfl) | ((with_reducible apply Step.callR fit); exact rfl; exact Try.func76; exact rfl; exact rfl; exact (mi)) | ((with_reducible apply Step.callR fit); exact rfl; exact Try.func75; exact rfl; exact rfl; exact (ix)) | ((with_reducible apply Step.store (k := 0)); exact rfl; exact rfl; exact rfl; exact rfl; (focus (decide +kernel)); exact rfl; exact rfl; (focus (first | omega | (simp [iv, bv]; done) | (simp [iv, bv]; omega))); (focus (first | (simp only [List.nil_append, List.cons_append, List.set_cons_zero, List.set_cons_succ, iv_set, bv_set, iv_rep, bv_rep]; done) | (simp only [List.nil_append, List.cons_append, List.set_cons_zero, List.set_cons_succ, iv_set, bv_set, iv_rep, bv_rep]; rfl) | rfl))) | ((with_reducible apply Step.store (k := 1)); exact rfl; exact rfl; exact rfl; exact rfl; (focus (decide +kernel)); exact rfl; exact rfl; (focus (first | omega | (simp [iv, bv]; done) | (simp [iv, bv]; omega))); (focus (first | (simp only [List.nil_append, List.cons_append, List.set_cons_zero, List.set_cons_succ, iv_set, bv_set, iv_rep, bv_rep]; done) | (simp only [List.nil_append, List.cons_append, List.set_cons_zero, List.set_cons_succ, iv_set, bv_set, iv_rep, bv_rep]; rfl) | rfl)))) | (with_reducible refine AWo.nil ?_) | ((with_reducible apply AW.seq)) | ((with_reducible apply Then.n)) | ((with_reducible apply AW.regL)) | ((with_reducible apply AW.block)) | ((with_reducible apply AW.drawL fit); (focus (decide +kernel))) | ((with_reducible apply InBlk.n)) | ((with_reducible apply AW.skip)) | ((with_reducible apply AW.condT); exact rfl; (focus ((simp only [decide_eq_true_eq, decide_eq_false_iff_not, Bool.not_eq_true', Bool.not_eq_false', Bool.not_true, Bool.not_false]; first | assumption | omega))))))
    exact ⟨_, _, _, by omega, (Or.inl ⟨rfl, (by repeat (first | exact trivial | (refine And.intro rfl ?_)))⟩), k + 1, rfl, by omega, by rw [su], rfl⟩
  · obtain rfl : k = l.length := by omega
    (repeat (first | (with_reducible refine AWo.cons ?_) | ((with_reducible refine Step.id ?_); first | ((with_reducible apply Step.move); exact rfl; exact rfl) | ((with_reducible apply Step.assign); exact rfl; exact rfl) | ((with_reducible apply Step.lss); exact rfl; exact rfl; exact rfl)) | (with_reducible refine AWo.nil ?_) | ((with_reducible apply AW.seq)) | ((with_reducible apply Then.n)) | ((with_reducible apply AW.regL)) | ((with_reducible apply AW.exit)) | ((with_reducible apply InBlk.hit)) | ((with_reducible apply Then.e)) | ((with_reducible apply AW.condF); exact rfl; (focus ((simp only [decide_eq_true_eq, decide_eq_false_iff_not, Bool.not_eq_true', Bool.not_eq_false', Bool.not_true, Bool.not_false]; first | assumption | omega))))))
    refine AW.retB (l := [(4, .slice (some ⟨m.length + 0, 0, none⟩) l.length l.length), (5, .int .i64 0)]) (L1 := [some { cells := iv (longF l q l.length).1 }]) (Back.trim rfl rfl (by repeat (first | exact CellsOk.nil | refine CellsOk.cons (by exact g0_iv _) ?_)) (by repeat (first | exact trivial | (refine And.intro ⟨rfl, by (first | exact .int _ _ | exact .slice _ _ _ _ (by first | (simp; done) | omega | (simp; omega)))⟩ ?_)))) ?_
    exact ⟨_, rfl, rfl, rfl⟩
set_option maxRecDepth 100000 in
theorem Long_no {m : AM} {v : Value} {l : List Int} {q : Int} (hl : Ints m v l) (hlen : l.length ≤ 9223372036854775807) (hok : timesB l q = false) : ACall Try.prog 28 #[v, .int .i64 q] m (Ret (.tuple #[.slice none 0 0, .int .i64 2]) m) := by
  refine ACall.start Try.func28 rfl rfl ?_
  (repeat (first | (with_reducible refine AWo.cons ?_) | ((with_reducible refine Step.id ?_); first | ((with_reducible apply Step.move); exact rfl; exact rfl) | ((with_reducible apply Step.assign); exact rfl; exact rfl) | ((with_reducible apply Step.not); exact rfl; exact rfl) | ((with_reducible apply Step.callR fit); exact rfl; exact Try.func70; exact rfl; exact rfl; exact (like_ok (hl.old []) hlen hok))) | (with_reducible refine AWo.nil ?_) | ((with_reducible apply AW.seq)) | ((with_reducible apply Then.n)) | ((with_reducible apply AW.regL)) | ((with_reducible apply AW.condT); exact rfl; (focus (rfl)))))
  (refine AW.retD (l := [(4, _), (5, _)]) (by repeat (first | exact trivial | (refine And.intro ⟨rfl, by (first | exact .int _ _ | exact Ren.of_g0 rfl)⟩ ?_))) ?_; (repeat (first | refine Then.r ?_ | refine InBlk.r ?_)))
  exact ⟨_, rfl, rfl, rfl⟩
set_option maxRecDepth 100000 in
theorem Best_no {m : AM} {v : Value} {l : List Int} {q : Int} (hl : Ints m v l) (hlen : l.length ≤ 9223372036854775807) (hok : timesB l q = false) : ACall Try.prog 30 #[v, .int .i64 q] m (Ret (.tuple #[.int .i64 0, .int .i64 2]) m) := by
  refine ACall.start Try.func30 rfl rfl ?_
  (repeat (first | (with_reducible refine AWo.cons ?_) | ((with_reducible refine Step.id ?_); first | ((with_reducible apply Step.move); exact rfl; exact rfl) | ((with_reducible apply Step.assign); exact rfl; exact rfl) | ((with_reducible apply Step.not); exact rfl; exact rfl) | ((with_reducible apply Step.callR fit); exact rfl; exact Try.func70; exact rfl; exact rfl; exact (like_ok (hl.old []) hlen hok))) | (with_reducible refine AWo.nil ?_) | ((with_reducible apply AW.seq)) | ((with_reducible apply Then.n)) | ((with_reducible apply AW.regL)) | ((with_reducible apply AW.block)) | ((with_reducible apply AW.condT); exact rfl; (focus (rfl)))))
  (refine AW.retD (l := [(4, _), (5, _)]) (by repeat (first | exact trivial | (refine And.intro ⟨rfl, by (exact .int _ _)⟩ ?_))) ?_; (repeat (first | refine Then.r ?_ | refine InBlk.r ?_)))
  exact ⟨_, rfl, rfl, rfl⟩
set_option maxRecDepth 100000 in
theorem Best_big {m : AM} {v : Value} {l : List Int} {q : Int} (hl : Ints m v l) (hok : timesB l q = true) (h12 : 12 < l.length) : ACall Try.prog 30 #[v, .int .i64 q] m (Ret (.tuple #[.int .i64 0, .int .i64 3]) m) := by
  have hlen := (TOk.of hok).len
  obtain ⟨a, o, h1, h2, h3⟩ := id hl
  refine ACall.start Try.func30 rfl rfl ?_
  (repeat (first | (with_reducible refine AWo.cons ?_) | ((with_reducible refine Step.id ?_); first | ((with_reducible apply Step.move); exact rfl; exact rfl) | ((with_reducible apply Step.assign); exact rfl; exact rfl) | ((with_reducible apply Step.gtr); exact rfl; exact rfl; exact rfl) | ((with_reducible apply Step.len); exact rfl; (focus (assumption)); (focus (decide +kernel)); exact rfl) | ((with_reducible apply Step.not); exact rfl; exact rfl) | ((with_reducible apply Step.callR fit); exact rfl; exact Try.func70; exact rfl; exact rfl; exact (like_ok (hl.old []) (by omega) hok))) | (with_reducible refine AWo.nil ?_) | ((with_reducible apply AW.seq)) | ((with_reducible apply Then.n)) | ((with_reducible apply AW.regL)) | ((with_reducible apply AW.block)) | ((with_reducible apply AW.condT); exact rfl; (focus ((simp only [decide_eq_true_eq, decide_eq_false_iff_not, Bool.not_eq_true', Bool.not_eq_false', Bool.not_true, Bool.not_false]; first | assumption | omega)))) | ((with_reducible apply AW.condF); exact rfl; (focus (rfl)))))
  (refine AW.retD (l := [(4, _), (5, _)]) (by repeat (first | exact trivial | (refine And.intro ⟨rfl, by (exact .int _ _)⟩ ?_))) ?_; (repeat (first | refine Then.r ?_ | refine InBlk.r ?_)))
  exact ⟨_, rfl, rfl, rfl⟩
end Go.Proofs.Ytmomjannlnafcaa.Abs
namespace Go.Proofs.Ytmomjannlnafcaa.Abs
set_option linter.unusedSimpArgs false
set_option linter.unusedVariables false
open Go.RowKit
open Go.Proofs.Ytmomjannlnafcaa.Sim
open Go.Proofs
/-- The job that the rule takes in round k, found by looking at all: the first greatest one of those not met. -/
structure Pick (l : List Int) (mt : List Bool) (i : Nat) (x : Int) : Prop where
  none : x < 0 → x = -1 ∧ ∀ j, j < i → mt.getD j false = true
  some : 0 ≤ x → x < i ∧ mt.getD x.toNat false = false ∧ ∀ j : Nat, j < i → mt.getD j false = false → leL l x j = true
theorem Pick.zero (l : List Int) (mt : List Bool) : Pick l mt 0 (-1) := ⟨fun _ => ⟨rfl, fun j hj => by omega⟩, fun h => by omega⟩
theorem Pick.take {l : List Int} {mt : List Bool} {i : Nat} {x : Int} (h : Pick l mt i x) (hm : mt.getD i false = false) (hx : x < 0 ∨ 0 ≤ x ∧ l.getD x.toNat 0 < l.getD i 0) : Pick l mt (i + 1) i :=
  ⟨fun h' => by omega, fun _ => by
    refine ⟨by omega, by rw [Int.toNat_natCast]; exact hm, fun j hj hjm => ?_⟩
    rcases Nat.lt_succ_iff_lt_or_eq.1 hj with h' | h'
    · rcases hx with hx | ⟨hx, hlt⟩
      · rw [(h.none hx).2 j h'] at hjm; cases hjm
      · have h3 := (h.some hx).2.2 j h' hjm
        rw [leL_iff] at h3 ⊢
        simp only [Int.toNat_natCast] at *
        omega
    · subst h'
      rw [leL_iff]; omega⟩
end Go.Proofs.Ytmomjannlnafcaa.Abs
namespace Go.Proofs.Ytmomjannlnafcaa.Abs
set_option linter.unusedSimpArgs false
set_option linter.unusedVariables false
open Go.RowKit
open Go.Proofs.Ytmomjannlnafcaa.Sim
open Go.Proofs
/-- The index of the k-th job. -/
def oi (l : List Int) (k : Nat) : Nat := ((ordL l).getD k 0).toNat
theorem oi_lt {l : List Int} {k : Nat} (h : k < l.length) : oi l k < l.length ∧ (ordL l).getD k 0 = (oi l k : Nat) := by
  obtain ⟨i, hi, hil⟩ := ordL_get h
  unfold oi
  rw [hi]; exact ⟨by omega, by simp⟩
theorem ordL_nodup (l : List Int) : (ordL l).Nodup := (ms_perm.nodup_iff).2 (upI_nodup l.length)
theorem oi_inj {l : List Int} {i k : Nat} (hi : i < l.length) (hk : k < l.length) (h : oi l i = oi l k) : i = k := by
  have h1 := (oi_lt hi).2
  have h2 := (oi_lt hk).2
  have li : i < (ordL l).length := by rw [ordL_len]; exact hi
  have lk : k < (ordL l).length := by rw [ordL_len]; exact hk
  have : (ordL l)[i] = (ordL l)[k] := by
    have e1 : (ordL l).getD i 0 = (ordL l)[i] := by simp [li]
    have e2 : (ordL l).getD k 0 = (ordL l)[k] := by simp [lk]
    rw [← e1, ← e2, h1, h2, h]
  exact (List.getElem_inj (ordL_nodup l)).1 this
theorem oi_sur {l : List Int} {i : Nat} (h : i < l.length) : ∃ k, k < l.length ∧ oi l k = i := by
  have : (i : Int) ∈ ordL l := ordL_mem.2 (by omega)
  obtain ⟨k, hk, e⟩ := List.getElem_of_mem this
  have hk' : k < l.length := by rw [← ordL_len]; exact hk
  refine ⟨k, hk', ?_⟩
  unfold oi
  simp [hk, e]
theorem perm_sumI {l k : List Int} (h : l.Perm k) : l.sum = k.sum := by
  induction h with
  | nil => rfl
  | cons x _ ih => simp only [List.sum_cons, ih]
  | swap x y l => simp only [List.sum_cons]; omega
  | trans _ _ h1 h2 => exact h1.trans h2
/-- A sum over all jobs is a sum over the order. -/
theorem sm_list (f : Nat → Int) : ∀ n, sm f n = ((List.range n).map f).sum
  | 0 => rfl
  | n + 1 => by rw [List.range_succ, List.map_append, List.sum_append, ← sm_list f n]; simp [sm]
theorem sm_perm {f : Nat → Int} {l : List Int} : sm (fun k => f (oi l k)) l.length = sm f l.length := by
  rw [sm_list, sm_list]
  have hp : ((List.range l.length).map (oi l)).Perm (List.range l.length) := by
    have h1 : (List.range l.length).map (oi l) = (ordL l).map Int.toNat := by
      refine List.ext_getElem (by simp [ordL_len]) fun k h1 h2 => ?_
      have hk : k < (ordL l).length := by simpa using h2
      simp [oi, hk]
    have h2 : (List.range l.length) = (upI l.length).map Int.toNat := by
      unfold upI
      rw [List.map_map]
      have : (Int.toNat ∘ (Nat.cast : Nat → Int)) = id := by funext k; simp
      rw [this, List.map_id]
    rw [h1, h2]
    exact List.Perm.map _ ms_perm
  have h3 := perm_sumI (hp.map f)
  rw [List.map_map] at h3
  exact h3
/-- The bench of the k-th job. -/
def bk (l : List Int) (q k : Nat) : Nat := argm (longF l q k).2
theorem longF_load {l : List Int} {q : Nat} (hq : 0 < q) : ∀ k, k ≤ l.length → ∀ b, (longF l q k).2.getD b 0 = if b < q then ld (fun i => l.getD (oi l i) 0) (bk l q) k b else 0
  | 0, _, b => by
    have e : (longF l q 0).2 = List.replicate q 0 := rfl
    rw [e, List.getD_eq_getElem?_getD, List.getElem?_replicate]
    simp only [ld, sm, ite_self]
    split <;> rfl
  | k + 1, h, b => by
    have h1 := longF_load (l := l) hq k (by omega) b
    have h2 := longF_len (l := l) (q := q) k (by omega)
    have h3 := argm_spec (l := (longF l q k).2) (by rw [h2.2]; exact hq)
    have ho := oi_lt (l := l) (k := k) h
    have h4 := longF_load (l := l) hq k (by omega) (argm (longF l q k).2)
    rw [longF_succ h, ho.2]
    simp only [longS, Int.toNat_natCast]
    rw [getD_set _ _ _ _ h3.1, ld_succ]
    by_cases e : argm (longF l q k).2 = b
    · rw [if_pos e, h4, if_pos (by omega), if_pos (by omega)]
      have : bk l q k = b := e
      rw [if_pos this, e]
    · rw [if_neg e, h1]
      have : ¬ bk l q k = b := e
      rw [if_neg this, Int.add_zero]
theorem longF_out {l : List Int} {q : Nat} : ∀ k, k ≤ l.length → ∀ j, j < k → (longF l q k).1.getD (oi l j) 0 = (bk l q j : Nat)
  | 0, _, j, hj => by omega
  | k + 1, h, j, hj => by
    have h2 := longF_len (l := l) (q := q) k (by omega)
    have ho := oi_lt (l := l) (k := k) h
    rw [longF_succ h, ho.2]
    simp only [longS, Int.toNat_natCast]
    rw [getD_set _ _ _ _ (by omega)]
    rcases Nat.lt_succ_iff_lt_or_eq.1 hj with h' | h'
    · rw [if_neg (fun e => by have := oi_inj (l := l) (i := k) (k := j) (by omega) (by omega) e; omega)]
      exact longF_out k (by omega) j h'
    · subst h'
      rw [if_pos rfl]; rfl
/-- The bench of each job. -/
def ob (l : List Int) (q i : Nat) : Nat := ((longF l q l.length).1.getD i 0).toNat
theorem ob_spec {l : List Int} {q i : Nat} (hq : 0 < q) (h : i < l.length) : ob l q i < q ∧ (longF l q l.length).1.getD i 0 = (ob l q i : Nat) := by
  obtain ⟨k, hk, rfl⟩ := oi_sur h
  have h1 := longF_out (l := l) (q := q) l.length (Nat.le_refl _) k hk
  unfold ob
  rw [h1]
  have h2 := longF_len (l := l) (q := q) k (by omega)
  have h3 := argm_spec (l := (longF l q k).2) (by omega)
  have : bk l q k < q := by unfold bk; omega
  simp; exact this
theorem ob_oi {l : List Int} {q k : Nat} (h : k < l.length) : ob l q (oi l k) = bk l q k := by
  unfold ob
  rw [longF_out (l := l) (q := q) l.length (Nat.le_refl _) k h]; simp
theorem ld_oi {l : List Int} {f : Nat → Nat} {b : Nat} : ld (fun i => l.getD (oi l i) 0) (fun i => f (oi l i)) l.length b = ld (fun i => l.getD i 0) f l.length b :=
  sm_perm (f := fun i => if f i = b then l.getD i 0 else 0)
theorem ld_congr {p : Nat → Int} {f g : Nat → Nat} {n b : Nat} (h : ∀ i, i < n → f i = g i) : ld p f n b = ld p g n b := sm_congr fun i hi => by
  show (if f i = b then p i else 0) = if g i = b then p i else 0
  rw [h i hi]
/-- The loads that Long leaves, bench by bench. -/
theorem graham_law {l : List Int} {r : Nat} (ht : ∀ k, k < l.length → 1 ≤ l.getD k 0 ∧ l.getD k 0 ≤ 10000) {x : Int} (hx : bestT (fun i => l.getD i 0) l.length r (2 ^ l.length - 1) = x) (b : Nat) (hb : b < r + 1) :
    3 * ((r + 1 : Nat) : Int) * ld (fun i => l.getD i 0) (ob l (r + 1)) l.length b ≤ (4 * ((r + 1 : Nat) : Int) - 1) * x := by
  have hp : ∀ i, i < l.length → 0 ≤ l.getD i 0 := fun i hi => by have := ht i hi; omega
  obtain ⟨f, f1, f2⟩ := (best_iff hp (x := x) r).1 (by rw [hx]; exact Int.le_refl _)
  have h0 : 0 ≤ x := by
    have := f2 0 (by omega)
    have h2 : 0 ≤ ld (fun i => l.getD i 0) f l.length 0 := sm_nonneg fun i hi => by
      show 0 ≤ if f i = 0 then l.getD i 0 else 0
      have := hp i hi
      split <;> omega
    omega
  have e : ld (fun i => l.getD i 0) (ob l (r + 1)) l.length b = ld (fun i => l.getD (oi l i) 0) (bk l (r + 1)) l.length b := by
    rw [← ld_oi]
    exact ld_congr fun i hi => ob_oi hi
  rw [e]
  refine graham (p := fun i => l.getD (oi l i) 0) (g := fun i => f (oi l i)) (n := l.length) (m := r + 1) (best := x) (by omega) (fun i hi => ?_) (fun i _ => f1 _) (fun i k hik hk => ?_) (fun i hi => ?_) (fun i hi b' hb' => ?_) (fun b' hb' => ?_) h0 b hb
  · have h2 := longF_len (l := l) (q := r + 1) i (by omega)
    have h3 := argm_spec (l := (longF l (r + 1) i).2) (by omega)
    unfold bk; omega
  · rcases Nat.lt_or_eq_of_le hik with h' | rfl
    · have hs : Srt (leL l) (ordL l) := ms_srt (leL_to l)
      have := srt_get hs h' (by rw [ordL_len]; exact hk)
      rw [leL_iff] at this
      show l.getD (oi l k) 0 ≤ l.getD (oi l i) 0
      unfold oi
      omega
    · exact Int.le_refl _
  · have := ht (oi l i) (oi_lt hi).1
    show 0 < l.getD (oi l i) 0
    omega
  · have h2 := longF_len (l := l) (q := r + 1) i (by omega)
    have h3 := argm_spec (l := (longF l (r + 1) i).2) (by omega)
    have h4 := longF_load (l := l) (q := r + 1) (by omega) i (by omega) b'
    have h5 := longF_load (l := l) (q := r + 1) (by omega) i (by omega) (bk l (r + 1) i)
    have h6 := minL_le (longF l (r + 1) i).2 b' (by omega)
    have h7 : bk l (r + 1) i < r + 1 := by unfold bk; omega
    rw [if_pos hb'] at h4
    rw [if_pos h7] at h5
    rw [← h4, ← h5]
    have : (longF l (r + 1) i).2.getD (bk l (r + 1) i) 0 = minL (longF l (r + 1) i).2 := h3.2.2.1
    omega
  · rw [ld_oi]; exact f2 b' hb'
theorem best_le {l : List Int} {r : Nat} (ht : ∀ k, k < l.length → 1 ≤ l.getD k 0 ∧ l.getD k 0 ≤ 10000) {x : Int} (hx : bestT (fun i => l.getD i 0) l.length r (2 ^ l.length - 1) = x) (f : Nat → Nat) (hf : ∀ i, f i < r + 1) (y : Int) (hy : ∀ b, b < r + 1 → ld (fun i => l.getD i 0) f l.length b ≤ y) : x ≤ y := by
  have hp : ∀ i, i < l.length → 0 ≤ l.getD i 0 := fun i hi => by have := ht i hi; omega
  rw [← hx]
  exact (best_iff hp r).2 ⟨f, hf, hy⟩
/-- What an assignment gives each bench, as a row. -/
def rowB (l : List Int) (f : Nat → Nat) (q i : Nat) : List Int := tab (fun b => ld (fun i => l.getD i 0) f i b) q
theorem rowB_len (l : List Int) (f : Nat → Nat) (q i : Nat) : (rowB l f q i).length = q := tab_len _ _
theorem rowB_get {l : List Int} {f : Nat → Nat} {q i b : Nat} (h : b < q) : (rowB l f q i).getD b 0 = ld (fun i => l.getD i 0) f i b := tab_get _ h
theorem rowB_zero (l : List Int) (f : Nat → Nat) (q : Nat) : List.replicate q (0 : Int) = rowB l f q 0 := by rw [tab_rep]; rfl
theorem rowB_set {l : List Int} {f : Nat → Nat} {q i : Nat} (h : f i < q) : (rowB l f q i).set (f i) ((rowB l f q i).getD (f i) 0 + l.getD i 0) = rowB l f q (i + 1) := by
  rw [rowB_get h]
  unfold rowB
  rw [tab_set]
  refine tab_congr fun b _ => ?_
  rw [ld_succ]
  by_cases e : b = f i
  · subst e; rw [if_pos rfl, if_pos rfl]
  · rw [if_neg e, if_neg (Ne.symm e), Int.add_zero]
theorem rowB_bd {l : List Int} {f : Nat → Nat} {q : Nat} (ht : ∀ k, k < l.length → 1 ≤ l.getD k 0 ∧ l.getD k 0 ≤ 10000) {i b : Nat} (hi : i ≤ l.length) (hb : b < q) : 0 ≤ (rowB l f q i).getD b 0 ∧ (rowB l f q i).getD b 0 ≤ 10000 * i := by
  rw [rowB_get hb]
  exact sum_bd ht (fun k => f k = b) i hi
theorem rowB_max {l : List Int} {f : Nat → Nat} {r : Nat} : (∀ b, b < r + 1 → ld (fun i => l.getD i 0) f l.length b ≤ maxL (rowB l f (r + 1) l.length)) ∧ ∃ b, b < r + 1 ∧ ld (fun i => l.getD i 0) f l.length b = maxL (rowB l f (r + 1) l.length) := by
  refine ⟨fun b hb => ?_, ?_⟩
  · rw [← rowB_get hb]; exact maxL_ge _ _ (by rw [rowB_len]; exact hb)
  · obtain ⟨k, h1, h2⟩ := maxL_mem (rowB l f (r + 1) l.length) (by rw [rowB_len]; omega)
    rw [rowB_len] at h1
    exact ⟨k, h1, by rw [← h2, rowB_get h1]⟩
/-- The caller's assignment. -/
def own (k : List Int) (q i : Nat) : Nat := if i < k.length then ((IntKind.u64.wrap (k.getD i 0)) % (q : Int)).toNat else 0
theorem u64_range (x : Int) : 0 ≤ IntKind.u64.wrap x ∧ IntKind.u64.wrap x < 18446744073709551616 := by
  simp only [IntKind.wrap, IntKind.signed, IntKind.bits]
  simp
  omega
theorem own_lt (k : List Int) {q : Nat} (hq : 0 < q) (i : Nat) : own k q i < q := by
  unfold own
  split
  · have h1 := Int.emod_lt_of_pos (IntKind.u64.wrap (k.getD i 0)) (show (0 : Int) < q by omega)
    have h2 := Int.emod_nonneg (IntKind.u64.wrap (k.getD i 0)) (show (q : Int) ≠ 0 by omega)
    omega
  · exact hq
theorem own_eq {k : List Int} {q i : Nat} (hq : 0 < q) (h : i < k.length) : IntKind.u64.wrap (k.getD i 0) % (q : Int) = (own k q i : Nat) := by
  unfold own
  rw [if_pos h]
  have h2 := Int.emod_nonneg (IntKind.u64.wrap (k.getD i 0)) (show (q : Int) ≠ 0 by omega)
  omega
section
variable {P : Program} {nt : Nat} {ops : Array Oper} {t : Fm} {m : AM} {K : Fm → AM → Prop} {d T : Nat} {p : String} {af : Array Edge} {X Y : TypeId} {x y : Operand} {a b : Int} {c : Nat}
theorem Step.remU (hx : evo t x = some (.int .u64 a)) (hy : evo t y = some (.int .u64 b)) (he : a % b = ((c : Nat) : Int)) (ha : 0 ≤ a) (hb : 1 ≤ b) (hlt : Nat.blt d nt = true) (hK : K (put t d (.int .u64 ((c : Nat) : Int))) m) : Step P nt ops ⟨some d, .binOp .rem X x y Y, T, p, af, none⟩ t m K := by
  rw [← he] at hK
  refine .ground rfl rfl hlt (by simp [Op.operands, hx, hy, g1, g0]) (fun h => by simp only [aquiet, evD_of hx, evD_of hy, aint, anil]; simpa [evD_of hx, evD_of hy] using h) ?_ (by simp [g1, g0]) hK
  simp [execOp, eqGuard, binOp, evD_of hx, evD_of hy, Op.intDiv, show ¬ b = 0 by omega, Int.tmod_eq_emod_of_nonneg ha, bind, Sem.bind, pure, Sim.still]
end
set_option maxHeartbeats 2000000 in
set_option maxRecDepth 100000 in
theorem BenchGraham_ok {m : AM} {v w : Value} {l k : List Int} {q : Int} (hl : Ints m v l) (hk : Ints m w k) (hlen : l.length ≤ 9223372036854775807) (hlen2 : k.length ≤ 9223372036854775807) : ACall Try.prog 7 #[v, .int .i64 q, w] m (Ret (.bool true) m) := by
  obtain ⟨a, o, h1, h2, h3⟩ := id hl
  obtain ⟨b, u, k1, k2, k3⟩ := id hk
  cases hok : timesB l q with
  | false =>
    refine ACall.start Try.func7 rfl rfl ?_
    (repeat (first | (with_reducible refine AWo.cons ?_) | ((with_reducible refine Step.id ?_); first | ((with_reducible apply Step.gdT); exact rfl; exact rfl; (focus (rfl))) | ((with_reducible apply Step.gdF); exact rfl; exact rfl; (focus (rfl))) | ((with_reducible apply Step.move); exact rfl; exact rfl) | ((with_reducible apply Step.assign); exact rfl; exact rfl) | ((with_reducible apply Step.eql); exact rfl; exact rfl; exact rfl) | ((with_reducible apply Step.neq); exact rfl; exact rfl; exact rfl) | ((with_reducible apply Step.eqlB); exact rfl; exact rfl; exact un4; exact rfl) | ((with_reducible apply Step.not); exact rfl; exact rfl) | ((with_reducible apply Step.extract); exact rfl; exact rfl; exact rfl) | ((with_reducible apply Step.pickT); exact rfl; exact rfl; exact rfl; exact rfl; (focus (rfl))) | ((with_reducible apply Step.callR fit); exact rfl; exact Try.func28; exact rfl; exact rfl; exact (Long_no (hl.old _) hlen hok)) | ((with_reducible apply Step.callR fit); exact rfl; exact Try.func30; exact rfl; exact rfl; exact (Best_no (hl.old _) hlen hok)) | ((with_reducible apply Step.callR fit); exact rfl; exact Try.func27; exact rfl; exact rfl; exact (Times_ok (hl.old _) hlen hok)) | ((with_reducible apply Step.callR fit); exact rfl; exact Try.func24; exact rfl; exact rfl; exact (awake_ok))) | (with_reducible refine AWo.nil ?_) | ((with_reducible apply AW.seq)) | ((with_reducible apply Then.n)) | ((with_reducible apply AW.regL)) | ((with_reducible apply AW.condT); exact rfl; (focus (rfl)))))
    (refine AW.retD (l := [(6, _)]) (by repeat (first | exact trivial | (refine And.intro ⟨rfl, by (exact .bool _)⟩ ?_))) ?_; (repeat (first | refine Then.r ?_ | refine InBlk.r ?_)))
    exact ⟨_, rfl, rfl, rfl⟩
  | true =>
    have hT := TOk.of hok
    have h40 := hT.len
    have hq1 := hT.m1
    have hq8 := hT.m8
    obtain ⟨r, rfl⟩ : ∃ r : Nat, q = ((r + 1 : Nat) : Int) := ⟨(q - 1).toNat, by omega⟩
    obtain ⟨row, hrow⟩ : ∃ row, (longF l (r + 1) l.length).1 = row := ⟨_, rfl⟩
    have lrow : row.length = l.length := by rw [← hrow]; exact (longF_len l.length (Nat.le_refl _)).1
    refine ACall.start Try.func7 rfl rfl ?_
    rcases Nat.lt_or_ge 12 l.length with hbig | h12
    · (repeat (first | (with_reducible refine AWo.cons ?_) | ((with_reducible refine Step.id ?_); first | ((with_reducible apply Step.gdT); exact rfl; exact rfl; (focus (rfl))) | ((with_reducible apply Step.move); exact rfl; exact rfl) | ((with_reducible apply Step.assign); exact rfl; exact rfl) | ((with_reducible apply Step.gtr); exact rfl; exact rfl; exact rfl) | ((with_reducible apply Step.eql); exact rfl; exact rfl; exact rfl) | ((with_reducible apply Step.neq); exact rfl; exact rfl; exact rfl) | ((with_reducible apply Step.eqlB); exact rfl; exact rfl; exact un4; exact rfl) | ((with_reducible apply Step.len); exact rfl; (focus (assumption)); (focus (decide +kernel)); exact rfl) | ((with_reducible apply Step.not); exact rfl; exact rfl) | ((with_reducible apply Step.extract); exact rfl; exact rfl; exact rfl) | ((with_reducible apply Step.pickT); exact rfl; exact rfl; exact rfl; exact rfl; (focus (rfl))) | ((with_reducible apply Step.pickF); exact rfl; exact rfl; exact rfl; exact rfl; (focus (rfl))) | ((with_reducible apply Step.callT fit (k := 0)); exact rfl; exact rfl; exact Try.func28; exact rfl; exact rfl; exact (Long_ok (hl.old _) hok hrow); (focus (first | (simp only [List.nil_append, List.cons_append, List.set_cons_zero, List.set_cons_succ, iv_set, bv_set, iv_rep, bv_rep]; done) | (simp only [List.nil_append, List.cons_append, List.set_cons_zero, List.set_cons_succ, iv_set, bv_set, iv_rep, bv_rep]; rfl) | rfl))) | ((with_reducible apply Step.callR fit); exact rfl; exact Try.func30; exact rfl; exact rfl; exact (Best_big (hl.old _) hok hbig)) | ((with_reducible apply Step.callR fit); exact rfl; exact Try.func27; exact rfl; exact rfl; exact (Times_ok (hl.old _) hlen hok)) | ((with_reducible apply Step.callR fit); exact rfl; exact Try.func24; exact rfl; exact rfl; exact (awake_ok))) | (with_reducible refine AWo.nil ?_) | ((with_reducible apply AW.seq)) | ((with_reducible apply Then.n)) | ((with_reducible apply AW.regL)) | ((with_reducible apply AW.condT); exact rfl; (focus ((simp only [decide_eq_true_eq, decide_eq_false_iff_not, Bool.not_eq_true', Bool.not_eq_false', Bool.not_true, Bool.not_false]; first | assumption | omega))))))
      (refine AW.retD (l := [(6, _)]) (by repeat (first | exact trivial | (refine And.intro ⟨rfl, by (exact .bool _)⟩ ?_))) ?_; (repeat (first | refine Then.r ?_ | refine InBlk.r ?_)))
      exact ⟨_, rfl, rfl, rfl⟩
    · obtain ⟨x, hx⟩ : ∃ x, bestT (fun i => l.getD i 0) l.length r (2 ^ l.length - 1) = x := ⟨_, rfl⟩
      (repeat (first | (with_reducible refine AWo.cons ?_) | ((with_reducible refine Step.id ?_); first | ((with_reducible apply Step.gdT); exact rfl; exact rfl; (focus (rfl))) | ((with_reducible apply Step.move); exact rfl; exact rfl) | ((with_reducible apply Step.assign); exact rfl; exact rfl) | ((with_reducible apply Step.gtr); exact rfl; exact rfl; exact rfl) | ((with_reducible apply Step.neq); exact rfl; exact rfl; exact rfl) | ((with_reducible apply Step.len); exact rfl; (focus (first | assumption | exact Sl.mk (by omega))); (focus (decide +kernel)); exact rfl) | ((with_reducible apply Step.not); exact rfl; exact rfl) | ((with_reducible apply Step.extract); exact rfl; exact rfl; exact rfl) | ((with_reducible apply Step.pickF); exact rfl; exact rfl; exact rfl; exact rfl; (focus (rfl))) | ((with_reducible apply Step.callT fit (k := 0)); exact rfl; exact rfl; exact Try.func28; exact rfl; exact rfl; exact (Long_ok (hl.old _) hok hrow); (focus (first | (simp only [List.nil_append, List.cons_append, List.set_cons_zero, List.set_cons_succ, iv_set, bv_set, iv_rep, bv_rep]; done) | (simp only [List.nil_append, List.cons_append, List.set_cons_zero, List.set_cons_succ, iv_set, bv_set, iv_rep, bv_rep]; rfl) | rfl))) | ((with_reducible apply Step.callR fit); exact rfl; exact Try.func30; exact rfl; exact rfl; exact (Best_ok (hl.old _) hok h12 hx)) | ((with_reducible apply Step.callR fit); exact rfl; exact Try.func27; exact rfl; exact rfl; exact (Times_ok (hl.old _) hlen hok))) | (with_reducible refine AWo.nil ?_) | ((fail_if_success (with_reducible refine AW.atR (id := 7) ?_)); ((with_reducible apply AW.seq))) | ((with_reducible apply Then.n)) | ((with_reducible apply AW.regL)) | ((with_reducible apply AW.skip)) | ((with_reducible apply AW.condF); exact rfl; (focus (first | (simp only [decide_eq_true_eq, decide_eq_false_iff_not, Bool.not_eq_true', Bool.not_eq_false', Bool.not_true, Bool.not_false]; first | assumption | omega) | (simp; done))))))
      refine AW.joinG (fr [(0, v), (1, .int .i64 ((r + 1 : Nat) : Int)), (2, w), (7, .slice (some ⟨m.length + 0, 0, none⟩) l.length l.length), (9, .int .i64 x), (11, .slice (some ⟨m.length + 1, 0, none⟩) (r + 1) (r + 1)), (12, .slice (some ⟨m.length + 2, 0, none⟩) (r + 1) (r + 1))]) (m ++ [some { cells := iv row }, some { cells := iv (List.replicate (r + 1) 0) }, some { cells := iv (List.replicate (r + 1) 0) }]) ?_ ?_
      · (repeat' (first | ((with_reducible refine Step.id ?_); first | ((with_reducible apply Step.move); exact rfl; exact rfl) | ((with_reducible apply Step.assign); exact rfl; exact rfl) | ((with_reducible apply Step.make1 1); exact rfl; exact rfl; exact rfl; exact el23; (focus (omega)); exact rfl; (focus (first | (simp only [List.nil_append, List.cons_append, List.set_cons_zero, List.set_cons_succ, iv_set, bv_set, iv_rep, bv_rep]; done) | (simp only [List.nil_append, List.cons_append, List.set_cons_zero, List.set_cons_succ, iv_set, bv_set, iv_rep, bv_rep]; rfl) | rfl))) | ((with_reducible apply Step.make1 2); exact rfl; exact rfl; exact rfl; exact el23; (focus (omega)); exact rfl; (focus (first | (simp only [List.nil_append, List.cons_append, List.set_cons_zero, List.set_cons_succ, iv_set, bv_set, iv_rep, bv_rep]; done) | (simp only [List.nil_append, List.cons_append, List.set_cons_zero, List.set_cons_succ, iv_set, bv_set, iv_rep, bv_rep]; rfl) | rfl)))) | ((with_reducible apply Then.n)) | ((with_reducible apply AW.drawT fit (T := (.step 0 (.step 2 (.both (.step 1 (.step 4 (.step 3 (.step 5 .done)))) (.step 3 (.step 1 (.step 4 (.step 5 .done))))))))); (focus (decide +kernel))) | ((with_reducible apply AWt.step); exact rfl) | ((with_reducible apply AWt.done)) | refine AWt.both ?_ ?_))
        all_goals first | (refine Gc.perm [0,1,2] rfl (by decide) ?_ (CellsOk.ren ?_) ?_; (focus (intro p hp; rcases p with _ | _ | _ | p <;> first | rfl | exact absurd hp (lenB (n := 3) rfl))); (focus (repeat (first | exact CellsOk.nil | refine CellsOk.cons (by exact g0_iv _) ?_))); (focus ((repeat (first | exact trivial | (refine And.intro ⟨_, rfl, ?_⟩ ?_; (focus (first | exact .int _ _ | (refine Ren.slice_sg ?_; (focus (first | (simp; done) | omega | (simp; omega)))) | (refine Ren.of_sl_sg (by assumption) ?_ ?_; (focus (first | (simp; done) | omega | (simp; omega))); (focus (simp; done)))))))); done))) | (refine Gc.perm [0,2,1] rfl (by decide) ?_ (CellsOk.ren ?_) ?_; (focus (intro p hp; rcases p with _ | _ | _ | p <;> first | rfl | exact absurd hp (lenB (n := 3) rfl))); (focus (repeat (first | exact CellsOk.nil | refine CellsOk.cons (by exact g0_iv _) ?_))); (focus ((repeat (first | exact trivial | (refine And.intro ⟨_, rfl, ?_⟩ ?_; (focus (first | exact .int _ _ | (refine Ren.slice_sg ?_; (focus (first | (simp; done) | omega | (simp; omega)))) | (refine Ren.of_sl_sg (by assumption) ?_ ?_; (focus (first | (simp; done) | omega | (simp; omega))); (focus (simp; done)))))))); done)))
      (repeat (first | (with_reducible refine AWo.cons ?_) | ((with_reducible refine Step.id ?_); first | ((with_reducible apply Step.move); exact rfl; exact rfl) | ((with_reducible apply Step.len); exact rfl; (focus (assumption)); (focus (decide +kernel)); exact rfl)) | (with_reducible refine AWo.nil ?_) | ((with_reducible apply AW.seq)) | ((with_reducible apply Then.n)) | ((with_reducible apply AW.regL)) | ((with_reducible apply AW.block))))
      refine AW.loopT (fun n' t L => ∃ i : Nat, n' = l.length - i ∧ i ≤ l.length ∧ L = [some { cells := iv row }, some { cells := iv (rowB l (ob l (r + 1)) (r + 1) i) }, some { cells := iv (rowB l (own k (r + 1)) (r + 1) i) }] ∧
        t = [(0, v), (1, .int .i64 ((r + 1 : Nat) : Int)), (2, w), (7, .slice (some ⟨m.length + 0, 0, none⟩) l.length l.length), (9, .int .i64 x), (11, .slice (some ⟨m.length + 1, 0, none⟩) (r + 1) (r + 1)), (12, .slice (some ⟨m.length + 2, 0, none⟩) (r + 1) (r + 1)), (67, v), (68, .int .i64 (l.length : Nat)), (69, .int .i64 (i : Nat))]) ⟨_, _, _, (Or.inl ⟨rfl, (by repeat (first | exact trivial | (refine And.intro rfl ?_)))⟩), 0, rfl, Nat.zero_le _, by rw [rowB_zero l (ob l (r + 1)), ← rowB_zero l (own k (r + 1)), ← rowB_zero l (ob l (r + 1))], rfl⟩ ?_
      rintro n' t L ⟨i, rfl, hi, rfl, rfl⟩
      rcases Nat.lt_or_ge i l.length with hlt | hge
      · have hr := h3 i hlt
        have ht := hT.t i hlt
        obtain ⟨o1, o2⟩ := ob_spec (l := l) (q := r + 1) (by omega) hlt
        rw [hrow] at o2
        have b1 := rowB_bd (l := l) (f := ob l (r + 1)) (q := r + 1) hT.t hi o1
        have s1 := rowB_set (l := l) (f := ob l (r + 1)) (q := r + 1) (i := i) o1
        have w1 := own_lt k (q := r + 1) (by omega) i
        have b2 := rowB_bd (l := l) (f := own k (r + 1)) (q := r + 1) hT.t hi w1
        have s2 := rowB_set (l := l) (f := own k (r + 1)) (q := r + 1) (i := i) w1
        have l1 := rowB_len l (ob l (r + 1)) (r + 1) i
        have l2 := rowB_len l (own k (r + 1)) (r + 1) i
        have hro : ∀ L, Rd (m ++ (some { cells := iv row } :: L)) (m.length + 0) i (.int .i64 ((ob l (r + 1) i : Nat) : Int)) := fun L => by
          rw [← o2]; exact Rd.new rfl (iv_get (by omega))
        generalize hA : rowB l (ob l (r + 1)) (r + 1) i = A at *
        generalize hB : rowB l (own k (r + 1)) (r + 1) i = B at *
        generalize hob : ob l (r + 1) i = c at *
        by_cases hik : i < k.length
        · have hrk := k3 i hik
          have ow := own_eq (k := k) (q := r + 1) (i := i) (by omega) hik
          have ur := u64_range (k.getD i 0)
          have uw : IntKind.u64.wrap ((r + 1 : Nat) : Int) = ((r + 1 : Nat) : Int) := u64_in (by omega)
          generalize hown : own k (r + 1) i = e at *
          (repeat (first | (with_reducible refine AWo.cons ?_) | ((with_reducible refine Step.id ?_); first | ((with_reducible apply Step.gdT); exact rfl; exact rfl; (focus (rfl))) | ((with_reducible apply Step.move); exact rfl; exact rfl) | ((with_reducible apply Step.assign); exact rfl; exact rfl) | ((with_reducible apply Step.load); exact rfl; (focus (decide +kernel)); exact rfl; (focus (first | exact hro _ | exact Rd.new rfl (iv_get (by first | omega | (simp; omega))) | exact Rd.old _ (by assumption)))) | ((with_reducible apply Step.ix1z); exact rfl; (focus (exact Sl.mk (by omega))); exact rfl; (focus (decide +kernel)); exact rfl; (focus (omega))) | ((with_reducible apply Step.ix1); exact rfl; (focus (assumption)); exact rfl; (focus (decide +kernel)); exact rfl; (focus (omega))) | ((with_reducible apply Step.add); exact rfl; exact rfl; (focus (omega)); exact rfl) | ((with_reducible apply Step.lss); exact rfl; exact rfl; exact rfl) | ((with_reducible apply Step.geq); exact rfl; exact rfl; exact rfl) | ((with_reducible apply Step.len); exact rfl; (focus (assumption)); (focus (decide +kernel)); exact rfl) | ((with_reducible apply Step.pickF); exact rfl; exact rfl; exact rfl; exact rfl; (focus (rfl))) | ((with_reducible apply Step.store (k := 1)); exact rfl; exact rfl; exact rfl; exact rfl; (focus (decide +kernel)); exact rfl; exact rfl; (focus (first | omega | (simp [iv, bv]; done) | (simp [iv, bv]; omega))); (focus (first | (simp only [List.nil_append, List.cons_append, List.set_cons_zero, List.set_cons_succ, iv_set, bv_set, iv_rep, bv_rep]; done) | (simp only [List.nil_append, List.cons_append, List.set_cons_zero, List.set_cons_succ, iv_set, bv_set, iv_rep, bv_rep]; rfl) | rfl)))) | (with_reducible refine AWo.nil ?_) | ((with_reducible apply AW.seq)) | ((with_reducible apply Then.n)) | ((with_reducible apply AW.regL)) | ((with_reducible apply AW.block)) | ((with_reducible apply AW.skip)) | ((with_reducible apply AW.condT); exact rfl; (focus ((simp only [decide_eq_true_eq, decide_eq_false_iff_not, Bool.not_eq_true', Bool.not_eq_false', Bool.not_true, Bool.not_false]; first | assumption | omega)))) | ((with_reducible apply AW.condF); exact rfl; (focus ((simp only [decide_eq_true_eq, decide_eq_false_iff_not, Bool.not_eq_true', Bool.not_eq_false', Bool.not_true, Bool.not_false]; first | assumption | omega))))))
          ((with_reducible apply Step.conv); exact rfl; exact un3i; exact un46u; exact rfl; exact rfl)
          (repeat (first | (with_reducible refine AWo.cons ?_) | ((with_reducible refine Step.id ?_); ((with_reducible apply Step.move); exact rfl; exact rfl))))
          ((with_reducible apply Step.conv); exact rfl; exact un3i; exact un46u; exact uw; exact rfl)
          (repeat ((with_reducible refine AWo.cons ?_)))
          ((with_reducible apply Step.remU); exact rfl; exact rfl; exact ow; exact ur.1; (focus (omega)); exact rfl)
          (repeat ((with_reducible refine AWo.cons ?_)))
          ((with_reducible apply Step.toI); exact rfl; exact un46u; exact un3i; (focus (omega)); exact rfl)
          (repeat (first | (with_reducible refine AWo.cons ?_) | ((with_reducible refine Step.id ?_); first | ((with_reducible apply Step.move); exact rfl; exact rfl) | ((with_reducible apply Step.assign); exact rfl; exact rfl) | ((with_reducible apply Step.load); exact rfl; (focus (decide +kernel)); exact rfl; (focus (exact Rd.new rfl (iv_get (by first | omega | (simp; omega)))))) | ((with_reducible apply Step.ix1z); exact rfl; (focus (exact Sl.mk (by omega))); exact rfl; (focus (decide +kernel)); exact rfl; (focus (omega))) | ((with_reducible apply Step.add); exact rfl; exact rfl; (focus (omega)); exact rfl) | ((with_reducible apply Step.store (k := 2)); exact rfl; exact rfl; exact rfl; exact rfl; (focus (decide +kernel)); exact rfl; exact rfl; (focus (first | omega | (simp [iv, bv]; done) | (simp [iv, bv]; omega))); (focus (first | (simp only [List.nil_append, List.cons_append, List.set_cons_zero, List.set_cons_succ, iv_set, bv_set, iv_rep, bv_rep]; done) | (simp only [List.nil_append, List.cons_append, List.set_cons_zero, List.set_cons_succ, iv_set, bv_set, iv_rep, bv_rep]; rfl) | rfl)))) | (with_reducible refine AWo.nil ?_) | ((with_reducible apply Then.n)) | ((with_reducible apply AW.regL)) | ((with_reducible apply InBlk.n))))
          exact ⟨_, _, _, by omega, (Or.inl ⟨rfl, (by repeat (first | exact trivial | (refine And.intro rfl ?_)))⟩), i + 1, rfl, by omega, by rw [← s1, ← s2], rfl⟩
        · have hown : own k (r + 1) i = 0 := if_neg hik
          rw [hown] at w1 b2 s2
          have b3 : 0 ≤ B.getD (nat_lit 0) 0 ∧ B.getD (nat_lit 0) 0 ≤ 10000 * (i : Int) := b2
          (repeat (first | (with_reducible refine AWo.cons ?_) | ((with_reducible refine Step.id ?_); first | ((with_reducible apply Step.gdT); exact rfl; exact rfl; (focus (rfl))) | ((with_reducible apply Step.move); exact rfl; exact rfl) | ((with_reducible apply Step.assign); exact rfl; exact rfl) | ((with_reducible apply Step.load); exact rfl; (focus (decide +kernel)); exact rfl; (focus (first | exact hro _ | exact Rd.new rfl (iv_get (by first | omega | (simp; omega))) | exact Rd.old _ (by assumption)))) | ((with_reducible apply Step.ix1z); exact rfl; (focus (exact Sl.mk (by omega))); exact rfl; (focus (decide +kernel)); exact rfl; (focus (omega))) | ((with_reducible apply Step.ix1); exact rfl; (focus (assumption)); exact rfl; (focus (decide +kernel)); exact rfl; (focus (omega))) | ((with_reducible apply Step.add); exact rfl; exact rfl; (focus (omega)); exact rfl) | ((with_reducible apply Step.lss); exact rfl; exact rfl; exact rfl) | ((with_reducible apply Step.geq); exact rfl; exact rfl; exact rfl) | ((with_reducible apply Step.len); exact rfl; (focus (assumption)); (focus (decide +kernel)); exact rfl) | ((with_reducible apply Step.pickF); exact rfl; exact rfl; exact rfl; exact rfl; (focus (rfl))) | ((with_reducible apply Step.store (k := 1)); exact rfl; exact rfl; exact rfl; exact rfl; (focus (decide +kernel)); exact rfl; exact rfl; (focus (first | omega | (simp [iv, bv]; done) | (simp [iv, bv]; omega))); (focus (first | (simp only [List.nil_append, List.cons_append, List.set_cons_zero, List.set_cons_succ, iv_set, bv_set, iv_rep, bv_rep]; done) | (simp only [List.nil_append, List.cons_append, List.set_cons_zero, List.set_cons_succ, iv_set, bv_set, iv_rep, bv_rep]; rfl) | rfl))) | ((with_reducible apply Step.store (k := 2)); exact rfl; exact rfl; exact rfl; exact rfl; (focus (decide +kernel)); exact rfl; exact rfl; (focus (first | omega | (simp [iv, bv]; done) | (simp [iv, bv]; omega))); (focus (first | (simp only [List.nil_append, List.cons_append, List.set_cons_zero, List.set_cons_succ, iv_set, bv_set, iv_rep, bv_rep]; done) | (simp only [List.nil_append, List.cons_append, List.set_cons_zero, List.set_cons_succ, iv_set, bv_set, iv_rep, bv_rep]; rfl) | rfl)))) | (with_reducible refine AWo.nil ?_) | ((with_reducible apply AW.seq)) | ((with_reducible apply Then.n)) | ((with_reducible apply AW.regL)) | ((with_reducible apply AW.block)) | ((with_reducible apply InBlk.n)) | ((with_reducible apply AW.skip)) | ((with_reducible apply AW.condT); exact rfl; (focus ((simp only [decide_eq_true_eq, decide_eq_false_iff_not, Bool.not_eq_true', Bool.not_eq_false', Bool.not_true, Bool.not_false]; first | assumption | omega)))) | ((with_reducible apply AW.condF); exact rfl; (focus ((simp only [decide_eq_true_eq, decide_eq_false_iff_not, Bool.not_eq_true', Bool.not_eq_false', Bool.not_true, Bool.not_false]; first | assumption | omega))))))
          exact ⟨_, _, _, by omega, (Or.inl ⟨rfl, (by repeat (first | exact trivial | (refine And.intro rfl ?_)))⟩), i + 1, rfl, by omega, by rw [← s1, ← s2], rfl⟩
      · obtain rfl : i = l.length := by omega
        obtain ⟨m1, b1, m2, m3⟩ := rowB_max (l := l) (f := ob l (r + 1)) (r := r)
        obtain ⟨n1, b2, n2, n3⟩ := rowB_max (l := l) (f := own k (r + 1)) (r := r)
        have g1 := graham_law hT.t hx b1 m2
        rw [m3] at g1
        have obf : ∀ i, i < l.length → ob l (r + 1) i < r + 1 := fun i hi => (ob_spec (by omega) hi).1
        have g2 : x ≤ maxL (rowB l (ob l (r + 1)) (r + 1) l.length) := best_le hT.t hx (fun i => if i < l.length then ob l (r + 1) i else 0) (fun i => by
          show (if i < l.length then ob l (r + 1) i else 0) < r + 1
          by_cases h : i < l.length
          · rw [if_pos h]; exact obf i h
          · rw [if_neg h]; omega) _ fun b hb => by
          rw [ld_congr (g := ob l (r + 1)) fun i hi => if_pos hi]; exact m1 b hb
        have g3 : x ≤ maxL (rowB l (own k (r + 1)) (r + 1) l.length) := best_le hT.t hx (own k (r + 1)) (fun i => own_lt k (by omega) i) _ n1
        have x0 : 0 ≤ x := by
          have hp : ∀ i, i < l.length → 0 ≤ l.getD i 0 := fun i hi => by have := hT.t i hi; omega
          obtain ⟨f, f1, f2⟩ := (best_iff hp (x := x) r).1 (by rw [hx]; exact Int.le_refl _)
          have := f2 0 (by omega)
          have h2 : 0 ≤ ld (fun i => l.getD i 0) f l.length 0 := sm_nonneg fun i hi => by
            show 0 ≤ if f i = 0 then l.getD i 0 else 0
            have := hp i hi
            split <;> omega
          omega
        have y0 := rowB_bd (l := l) (f := ob l (r + 1)) (q := r + 1) hT.t (Nat.le_refl _) m2
        rw [rowB_get m2, m3] at y0
        have l1 := rowB_len l (ob l (r + 1)) (r + 1) l.length
        have l2 := rowB_len l (own k (r + 1)) (r + 1) l.length
        generalize hA : rowB l (ob l (r + 1)) (r + 1) l.length = A at *
        generalize hB : rowB l (own k (r + 1)) (r + 1) l.length = B at *
        have ma := max_ok (m := m ++ [some { cells := iv row }, some { cells := iv A }, some { cells := iv B }]) (l := A) (ints_new (k := 1) rfl rfl (r + 1) l1.symm) (by omega) (by omega)
        have mb := max_ok (m := m ++ [some { cells := iv row }, some { cells := iv A }, some { cells := iv B }]) (l := B) (ints_new (k := 2) rfl rfl (r + 1) l2.symm) (by omega) (by omega)
        generalize hMA : maxL A = MA at *
        generalize hMB : maxL B = MB at *
        have z1 : 0 ≤ 3 * ((r + 1 : Nat) : Int) * MA ∧ 3 * ((r + 1 : Nat) : Int) * MA ≤ 24 * MA := ⟨Int.mul_nonneg (by omega) y0.1, Int.mul_le_mul_of_nonneg_right (by omega) y0.1⟩
        have z2 : 0 ≤ (4 * ((r + 1 : Nat) : Int) - 1) * x ∧ (4 * ((r + 1 : Nat) : Int) - 1) * x ≤ 31 * x := ⟨Int.mul_nonneg (by omega) x0, Int.mul_le_mul_of_nonneg_right (by omega) x0⟩
        (repeat (first | (with_reducible refine AWo.cons ?_) | ((with_reducible refine Step.id ?_); first | ((with_reducible apply Step.gdT); exact rfl; exact rfl; (focus ((simp only [decide_eq_true_eq, decide_eq_false_iff_not, Bool.not_eq_true', Bool.not_eq_false', Bool.not_true, Bool.not_false]; first | assumption | omega)))) | ((with_reducible apply Step.move); exact rfl; exact rfl) | ((with_reducible apply Step.assign); exact rfl; exact rfl) | ((with_reducible apply Step.sub); exact rfl; exact rfl; (focus (omega)); exact rfl) | ((with_reducible apply Step.mul); exact rfl; exact rfl; (focus (omega)); exact rfl) | ((with_reducible apply Step.lss); exact rfl; exact rfl; exact rfl) | ((with_reducible apply Step.leq); exact rfl; exact rfl; exact rfl) | ((with_reducible apply Step.pickT); exact rfl; exact rfl; exact rfl; exact rfl; (focus ((simp only [decide_eq_true_eq, decide_eq_false_iff_not, Bool.not_eq_true', Bool.not_eq_false', Bool.not_true, Bool.not_false]; first | assumption | omega)))) | ((with_reducible apply Step.callR fit); exact rfl; exact Try.func32; exact rfl; exact rfl; exact (ma)) | ((with_reducible apply Step.callR fit); exact rfl; exact Try.func32; exact rfl; exact rfl; exact (mb)) | ((with_reducible apply Step.callR fit); exact rfl; exact Try.func24; exact rfl; exact rfl; exact (awake_ok))) | (with_reducible refine AWo.nil ?_) | ((with_reducible apply AW.seq)) | ((with_reducible apply Then.n)) | ((with_reducible apply AW.regL)) | ((with_reducible apply AW.exit)) | ((with_reducible apply InBlk.hit)) | ((with_reducible apply Then.e)) | ((with_reducible apply AW.condF); exact rfl; (focus ((simp only [decide_eq_true_eq, decide_eq_false_iff_not, Bool.not_eq_true', Bool.not_eq_false', Bool.not_true, Bool.not_false]; first | assumption | omega))))))
        (refine AW.retD (l := [(6, _)]) (by repeat (first | exact trivial | (refine And.intro ⟨rfl, by (exact .bool _)⟩ ?_))) ?_; (repeat (first | refine Then.r ?_ | refine InBlk.r ?_)))
        exact ⟨_, rfl, rfl, rfl⟩
end Go.Proofs.Ytmomjannlnafcaa.Abs
