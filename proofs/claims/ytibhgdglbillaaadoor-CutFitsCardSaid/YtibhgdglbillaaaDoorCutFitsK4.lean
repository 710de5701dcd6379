/- Proved here: what the proof of CutFits rests on, part 4 of 4. Conditions: those that each theorem names. -/
import Derived.Test.YtibhgdglbillaaaDoorCutFitsK3
namespace Go.Proofs.YtibhgdglbillaaaDoor.Abs
set_option linter.unusedSimpArgs false
set_option linter.unusedVariables false
open Go.RowKit
open Go.Proofs.YtibhgdglbillaaaDoor.Sim
open Go.Proofs
def stripB (n x : Int) : Bool := decide (1 ≤ x ∧ x ≤ n)
def stripsB (n : Int) (l : List Int) : Bool := decide (1 ≤ n) && decide (n ≤ 2000) && decide (l.length ≤ 14) && l.all (stripB n)
structure SpOk (n : Int) (l : List Int) : Prop where
  n1 : 1 ≤ n
  n2 : n ≤ 2000
  len : l.length ≤ 14
  at_ : ∀ i, i < l.length → 1 ≤ l.getD i 0 ∧ l.getD i 0 ≤ n
theorem SpOk.of {n : Int} {l : List Int} (h : stripsB n l = true) : SpOk n l := by
  simp only [stripsB, Bool.and_eq_true, decide_eq_true_eq, List.all_eq_true] at h
  obtain ⟨⟨⟨h1, h2⟩, h3⟩, h4⟩ := h
  refine ⟨h1, h2, h3, fun i hi => ?_⟩
  have := h4 (l.getD i 0) (by simp [hi])
  simpa [stripB] using this
set_option maxRecDepth 100000 in
theorem valid_ok {m : AM} {v : Value} {l : List Int} {n : Int} (hl : Ints m v l) (hlen : l.length ≤ 9223372036854775807) {b : Bool} (hb : stripsB n l = b) : ACall Tryd.prog 88 #[.int .i64 n, v] m (Ret (.bool b) m) := by
  subst hb
  obtain ⟨a, o, h1, h2, h3⟩ := id hl
  refine ACall.start Tryd.func88 rfl rfl ?_
  by_cases c1 : n < 1
  · (repeat (first | (with_reducible refine AWo.cons ?_) | ((with_reducible refine Step.id ?_); first | ((with_reducible apply Step.gdF); exact rfl; exact rfl; (focus (first | rfl | (simp only [decide_eq_true_eq, decide_eq_false_iff_not, Bool.not_eq_true', Bool.not_eq_false', Bool.not_true, Bool.not_false]; first | assumption | omega)))) | ((with_reducible apply Step.move); exact rfl; exact rfl) | ((with_reducible apply Step.assign); exact rfl; exact rfl) | ((with_reducible apply Step.lss); exact rfl; exact rfl; exact rfl) | ((with_reducible apply Step.pickT); exact rfl; exact rfl; exact rfl; exact rfl; (focus (first | rfl | (simp only [decide_eq_true_eq, decide_eq_false_iff_not, Bool.not_eq_true', Bool.not_eq_false', Bool.not_true, Bool.not_false]; first | assumption | omega))))) | (with_reducible refine AWo.nil ?_) | ((with_reducible apply AW.seq)) | ((with_reducible apply Then.n)) | ((with_reducible apply AW.regL)) | ((with_reducible apply AW.condT); exact rfl; (focus (rfl)))))
    (refine AW.retD (l := [(4, _)]) (by repeat (first | exact trivial | (refine And.intro ⟨rfl, by (exact .bool _)⟩ ?_))) ?_; (repeat (first | refine Then.r ?_ | refine InBlk.r ?_)))
    exact ⟨_, rfl, by simp [stripsB, show ¬ 1 ≤ n by omega], rfl⟩
  · by_cases c2 : 2000 < n
    · (repeat (first | (with_reducible refine AWo.cons ?_) | ((with_reducible refine Step.id ?_); first | ((with_reducible apply Step.gdT); exact rfl; exact rfl; (focus ((simp only [decide_eq_true_eq, decide_eq_false_iff_not, Bool.not_eq_true', Bool.not_eq_false', Bool.not_true, Bool.not_false]; first | assumption | omega)))) | ((with_reducible apply Step.gdF); exact rfl; exact rfl; (focus ((simp only [decide_eq_true_eq, decide_eq_false_iff_not, Bool.not_eq_true', Bool.not_eq_false', Bool.not_true, Bool.not_false]; first | assumption | omega)))) | ((with_reducible apply Step.move); exact rfl; exact rfl) | ((with_reducible apply Step.assign); exact rfl; exact rfl) | ((with_reducible apply Step.lss); exact rfl; exact rfl; exact rfl) | ((with_reducible apply Step.gtr); exact rfl; exact rfl; exact rfl) | ((with_reducible apply Step.pickT); exact rfl; exact rfl; exact rfl; exact rfl; (focus ((simp only [decide_eq_true_eq, decide_eq_false_iff_not, Bool.not_eq_true', Bool.not_eq_false', Bool.not_true, Bool.not_false]; first | assumption | omega)))) | ((with_reducible apply Step.pickF); exact rfl; exact rfl; exact rfl; exact rfl; (focus ((simp only [decide_eq_true_eq, decide_eq_false_iff_not, Bool.not_eq_true', Bool.not_eq_false', Bool.not_true, Bool.not_false]; first | assumption | omega))))) | (with_reducible refine AWo.nil ?_) | ((with_reducible apply AW.seq)) | ((with_reducible apply Then.n)) | ((with_reducible apply AW.regL)) | ((with_reducible apply AW.condT); exact rfl; (focus (rfl)))))
      (refine AW.retD (l := [(4, _)]) (by repeat (first | exact trivial | (refine And.intro ⟨rfl, by (exact .bool _)⟩ ?_))) ?_; (repeat (first | refine Then.r ?_ | refine InBlk.r ?_)))
      exact ⟨_, rfl, by simp [stripsB, show ¬ n ≤ 2000 by omega], rfl⟩
    · by_cases c3 : 14 < l.length
      · (repeat (first | (with_reducible refine AWo.cons ?_) | ((with_reducible refine Step.id ?_); first | ((with_reducible apply Step.gdT); exact rfl; exact rfl; (focus ((simp only [decide_eq_true_eq, decide_eq_false_iff_not, Bool.not_eq_true', Bool.not_eq_false', Bool.not_true, Bool.not_false]; first | assumption | omega)))) | ((with_reducible apply Step.move); exact rfl; exact rfl) | ((with_reducible apply Step.assign); exact rfl; exact rfl) | ((with_reducible apply Step.lss); exact rfl; exact rfl; exact rfl) | ((with_reducible apply Step.gtr); exact rfl; exact rfl; exact rfl) | ((with_reducible apply Step.len); exact rfl; (focus (assumption)); (focus (decide +kernel)); exact rfl) | ((with_reducible apply Step.pickF); exact rfl; exact rfl; exact rfl; exact rfl; (focus ((simp only [decide_eq_true_eq, decide_eq_false_iff_not, Bool.not_eq_true', Bool.not_eq_false', Bool.not_true, Bool.not_false]; first | assumption | omega))))) | (with_reducible refine AWo.nil ?_) | ((with_reducible apply AW.seq)) | ((with_reducible apply Then.n)) | ((with_reducible apply AW.regL)) | ((with_reducible apply AW.condT); exact rfl; (focus ((simp only [decide_eq_true_eq, decide_eq_false_iff_not, Bool.not_eq_true', Bool.not_eq_false', Bool.not_true, Bool.not_false]; first | assumption | omega))))))
        (refine AW.retD (l := [(4, _)]) (by repeat (first | exact trivial | (refine And.intro ⟨rfl, by (exact .bool _)⟩ ?_))) ?_; (repeat (first | refine Then.r ?_ | refine InBlk.r ?_)))
        exact ⟨_, rfl, by simp [stripsB, show ¬ l.length ≤ 14 by omega], rfl⟩
      · (repeat (first | (with_reducible refine AWo.cons ?_) | ((with_reducible refine Step.id ?_); first | ((with_reducible apply Step.gdT); exact rfl; exact rfl; (focus ((simp only [decide_eq_true_eq, decide_eq_false_iff_not, Bool.not_eq_true', Bool.not_eq_false', Bool.not_true, Bool.not_false]; first | assumption | omega)))) | ((with_reducible apply Step.move); exact rfl; exact rfl) | ((with_reducible apply Step.assign); exact rfl; exact rfl) | ((with_reducible apply Step.lss); exact rfl; exact rfl; exact rfl) | ((with_reducible apply Step.gtr); exact rfl; exact rfl; exact rfl) | ((with_reducible apply Step.len); exact rfl; (focus (assumption)); (focus (decide +kernel)); exact rfl) | ((with_reducible apply Step.pickF); exact rfl; exact rfl; exact rfl; exact rfl; (focus ((simp only [decide_eq_true_eq, decide_eq_false_iff_not, Bool.not_eq_true', Bool.not_eq_false', Bool.not_true, Bool.not_false]; first | assumption | omega))))) | (with_reducible refine AWo.nil ?_) | ((with_reducible apply AW.seq)) | ((with_reducible apply Then.n)) | ((with_reducible apply AW.regL)) | ((with_reducible apply AW.block)) | ((with_reducible apply AW.skip)) | ((with_reducible apply AW.condF); exact rfl; (focus ((simp only [decide_eq_true_eq, decide_eq_false_iff_not, Bool.not_eq_true', Bool.not_eq_false', Bool.not_true, Bool.not_false]; first | assumption | omega))))))
        refine AW.loopT (fun q t L => ∃ k : Nat, q = l.length - k ∧ k ≤ l.length ∧ (l.take k).all (stripB n) = true ∧ L = [] ∧
          t = [(0, .int .i64 n), (18, v), (19, .int .i64 (l.length : Nat)), (20, .int .i64 (k : Nat))]) ⟨_, _, _, (Or.inl ⟨rfl, (by repeat (first | exact trivial | (refine And.intro rfl ?_)))⟩), 0, rfl, Nat.zero_le _, by simp, rfl, rfl⟩ ?_
        rintro q t L ⟨k, rfl, hk, hall, rfl, rfl⟩
        rcases Nat.lt_or_ge k l.length with hlt | hge
        · have ts := take_snoc l k 0 hlt
          have hr := h3 k hlt
          have bad : stripB n (l.getD k 0) = false → stripsB n l = false := fun e => by
            have : l.all (stripB n) = false := by
              rw [List.all_eq_false]
              exact ⟨l.getD k 0, by simp [hlt], by rw [e]; exact Bool.false_ne_true⟩
            simp [stripsB, this]
          cases hx : stripB n (l.getD k 0) with
          | true =>
            have hx' := hx
            simp only [stripB, decide_eq_true_eq] at hx'
            obtain ⟨x1, x2⟩ := hx'
            (repeat (first | (with_reducible refine AWo.cons ?_) | ((with_reducible refine Step.id ?_); first | ((with_reducible apply Step.gdT); exact rfl; exact rfl; (focus ((simp only [decide_eq_true_eq, decide_eq_false_iff_not, Bool.not_eq_true', Bool.not_eq_false', Bool.not_true, Bool.not_false]; first | assumption | omega)))) | ((with_reducible apply Step.move); exact rfl; exact rfl) | ((with_reducible apply Step.assign); exact rfl; exact rfl) | ((with_reducible apply Step.load); exact rfl; (focus (decide +kernel)); exact rfl; (focus (exact Rd.old _ (by assumption)))) | ((with_reducible apply Step.ix1); exact rfl; (focus (assumption)); exact rfl; (focus (decide +kernel)); exact rfl; (focus (omega))) | ((with_reducible apply Step.add); exact rfl; exact rfl; (focus (omega)); exact rfl) | ((with_reducible apply Step.lss); exact rfl; exact rfl; exact rfl) | ((with_reducible apply Step.gtr); exact rfl; exact rfl; exact rfl) | ((with_reducible apply Step.pickF); exact rfl; exact rfl; exact rfl; exact rfl; (focus ((simp only [decide_eq_true_eq, decide_eq_false_iff_not, Bool.not_eq_true', Bool.not_eq_false', Bool.not_true, Bool.not_false]; first | assumption | omega))))) | (with_reducible refine AWo.nil ?_) | ((with_reducible apply AW.seq)) | ((with_reducible apply Then.n)) | ((with_reducible apply AW.regL)) | ((with_reducible apply AW.block)) | ((with_reducible apply InBlk.n)) | ((with_reducible apply AW.skip)) | ((with_reducible apply AW.condT); exact rfl; (focus ((simp only [decide_eq_true_eq, decide_eq_false_iff_not, Bool.not_eq_true', Bool.not_eq_false', Bool.not_true, Bool.not_false]; first | assumption | omega)))) | ((with_reducible apply AW.condF); exact rfl; (focus ((simp only [decide_eq_true_eq, decide_eq_false_iff_not, Bool.not_eq_true', Bool.not_eq_false', Bool.not_true, Bool.not_false]; first | assumption | omega))))))
            exact ⟨_, _, _, by omega, (Or.inl ⟨rfl, (by repeat (first | exact trivial | (refine And.intro rfl ?_)))⟩), k + 1, rfl, by omega, by rw [ts, List.all_append, hall]; simp only [List.all_cons, List.all_nil, hx]; rfl, rfl, rfl⟩
          | false =>
            have hx' := hx
            simp only [stripB, decide_eq_false_iff_not] at hx'
            rw [bad hx]
            by_cases d1 : l.getD k 0 < 1
            · (repeat (first | (with_reducible refine AWo.cons ?_) | ((with_reducible refine Step.id ?_); first | ((with_reducible apply Step.gdF); exact rfl; exact rfl; (focus ((simp only [decide_eq_true_eq, decide_eq_false_iff_not, Bool.not_eq_true', Bool.not_eq_false', Bool.not_true, Bool.not_false]; first | assumption | omega)))) | ((with_reducible apply Step.move); exact rfl; exact rfl) | ((with_reducible apply Step.assign); exact rfl; exact rfl) | ((with_reducible apply Step.load); exact rfl; (focus (decide +kernel)); exact rfl; (focus (exact Rd.old _ (by assumption)))) | ((with_reducible apply Step.ix1); exact rfl; (focus (assumption)); exact rfl; (focus (decide +kernel)); exact rfl; (focus (omega))) | ((with_reducible apply Step.lss); exact rfl; exact rfl; exact rfl) | ((with_reducible apply Step.pickT); exact rfl; exact rfl; exact rfl; exact rfl; (focus ((simp only [decide_eq_true_eq, decide_eq_false_iff_not, Bool.not_eq_true', Bool.not_eq_false', Bool.not_true, Bool.not_false]; first | assumption | omega))))) | (with_reducible refine AWo.nil ?_) | ((with_reducible apply AW.seq)) | ((with_reducible apply Then.n)) | ((with_reducible apply AW.regL)) | ((with_reducible apply AW.block)) | ((with_reducible apply AW.skip)) | ((with_reducible apply AW.condT); exact rfl; (focus (first | rfl | (simp only [decide_eq_true_eq, decide_eq_false_iff_not, Bool.not_eq_true', Bool.not_eq_false', Bool.not_true, Bool.not_false]; first | assumption | omega))))))
              (refine AW.retD (l := [(4, _)]) (by repeat (first | exact trivial | (refine And.intro ⟨rfl, by (exact .bool _)⟩ ?_))) ?_; (repeat (first | refine Then.r ?_ | refine InBlk.r ?_)))
              exact ⟨_, rfl, rfl, rfl⟩
            · have d2 : n < l.getD k 0 := by omega
              (repeat (first | (with_reducible refine AWo.cons ?_) | ((with_reducible refine Step.id ?_); first | ((with_reducible apply Step.gdT); exact rfl; exact rfl; (focus ((simp only [decide_eq_true_eq, decide_eq_false_iff_not, Bool.not_eq_true', Bool.not_eq_false', Bool.not_true, Bool.not_false]; first | assumption | omega)))) | ((with_reducible apply Step.move); exact rfl; exact rfl) | ((with_reducible apply Step.assign); exact rfl; exact rfl) | ((with_reducible apply Step.load); exact rfl; (focus (decide +kernel)); exact rfl; (focus (exact Rd.old _ (by assumption)))) | ((with_reducible apply Step.ix1); exact rfl; (focus (assumption)); exact rfl; (focus (decide +kernel)); exact rfl; (focus (omega))) | ((with_reducible apply Step.lss); exact rfl; exact rfl; exact rfl) | ((with_reducible apply Step.gtr); exact rfl; exact rfl; exact rfl) | ((with_reducible apply Step.pickF); exact rfl; exact rfl; exact rfl; exact rfl; (focus ((simp only [decide_eq_true_eq, decide_eq_false_iff_not, Bool.not_eq_true', Bool.not_eq_false', Bool.not_true, Bool.not_false]; first | assumption | omega))))) | (with_reducible refine AWo.nil ?_) | ((with_reducible apply AW.seq)) | ((with_reducible apply Then.n)) | ((with_reducible apply AW.regL)) | ((with_reducible apply AW.block)) | ((with_reducible apply AW.skip)) | ((with_reducible apply AW.condT); exact rfl; (focus ((simp only [decide_eq_true_eq, decide_eq_false_iff_not, Bool.not_eq_true', Bool.not_eq_false', Bool.not_true, Bool.not_false]; first | assumption | omega))))))
              (refine AW.retD (l := [(4, _)]) (by repeat (first | exact trivial | (refine And.intro ⟨rfl, by (exact .bool _)⟩ ?_))) ?_; (repeat (first | refine Then.r ?_ | refine InBlk.r ?_)))
              exact ⟨_, rfl, rfl, rfl⟩
        · (repeat (first | (with_reducible refine AWo.cons ?_) | ((with_reducible refine Step.id ?_); first | ((with_reducible apply Step.assign); exact rfl; exact rfl) | ((with_reducible apply Step.lss); exact rfl; exact rfl; exact rfl)) | (with_reducible refine AWo.nil ?_) | ((with_reducible apply AW.seq)) | ((with_reducible apply Then.n)) | ((with_reducible apply AW.regL)) | ((with_reducible apply AW.exit)) | ((with_reducible apply InBlk.hit)) | ((with_reducible apply Then.e)) | ((with_reducible apply AW.condF); exact rfl; (focus ((simp only [decide_eq_true_eq, decide_eq_false_iff_not, Bool.not_eq_true', Bool.not_eq_false', Bool.not_true, Bool.not_false]; first | assumption | omega))))))
          (refine AW.retD (l := [(4, _)]) (by repeat (first | exact trivial | (refine And.intro ⟨rfl, by (exact .bool _)⟩ ?_))) ?_; (repeat (first | refine Then.r ?_ | refine InBlk.r ?_)))
          rw [List.take_of_length_le hge] at hall
          exact ⟨_, rfl, by simp [stripsB, hall]; omega, rfl⟩
set_option maxRecDepth 100000 in
theorem RStrips_ok {m : AM} {v : Value} {l : List Int} {n : Int} (hl : Ints m v l) (hlen : l.length ≤ 9223372036854775807) {b : Bool} (hb : stripsB n l = b) : ACall Tryd.prog 61 #[.int .i64 n, v] m (Ret (.bool b) m) := by
  subst hb
  obtain ⟨a, o, h1, h2, h3⟩ := id hl
  refine ACall.start Tryd.func61 rfl rfl ?_
  by_cases c1 : n < 1
  · (repeat (first | (with_reducible refine AWo.cons ?_) | ((with_reducible refine Step.id ?_); first | ((with_reducible apply Step.gdF); exact rfl; exact rfl; (focus (first | rfl | (simp only [decide_eq_true_eq, decide_eq_false_iff_not, Bool.not_eq_true', Bool.not_eq_false', Bool.not_true, Bool.not_false]; first | assumption | omega)))) | ((with_reducible apply Step.move); exact rfl; exact rfl) | ((with_reducible apply Step.assign); exact rfl; exact rfl) | ((with_reducible apply Step.lss); exact rfl; exact rfl; exact rfl) | ((with_reducible apply Step.pickT); exact rfl; exact rfl; exact rfl; exact rfl; (focus (first | rfl | (simp only [decide_eq_true_eq, decide_eq_false_iff_not, Bool.not_eq_true', Bool.not_eq_false', Bool.not_true, Bool.not_false]; first | assumption | omega))))) | (with_reducible refine AWo.nil ?_) | ((with_reducible apply AW.seq)) | ((with_reducible apply Then.n)) | ((with_reducible apply AW.regL)) | ((with_reducible apply AW.condT); exact rfl; (focus (rfl)))))
    (refine AW.retD (l := [(4, _)]) (by repeat (first | exact trivial | (refine And.intro ⟨rfl, by (exact .bool _)⟩ ?_))) ?_; (repeat (first | refine Then.r ?_ | refine InBlk.r ?_)))
    exact ⟨_, rfl, by simp [stripsB, show ¬ 1 ≤ n by omega], rfl⟩
  · by_cases c2 : 2000 < n
    · (repeat (first | (with_reducible refine AWo.cons ?_) | ((with_reducible refine Step.id ?_); first | ((with_reducible apply Step.gdT); exact rfl; exact rfl; (focus ((simp only [decide_eq_true_eq, decide_eq_false_iff_not, Bool.not_eq_true', Bool.not_eq_false', Bool.not_true, Bool.not_false]; first | assumption | omega)))) | ((with_reducible apply Step.gdF); exact rfl; exact rfl; (focus ((simp only [decide_eq_true_eq, decide_eq_false_iff_not, Bool.not_eq_true', Bool.not_eq_false', Bool.not_true, Bool.not_false]; first | assumption | omega)))) | ((with_reducible apply Step.move); exact rfl; exact rfl) | ((with_reducible apply Step.assign); exact rfl; exact rfl) | ((with_reducible apply Step.lss); exact rfl; exact rfl; exact rfl) | ((with_reducible apply Step.gtr); exact rfl; exact rfl; exact rfl) | ((with_reducible apply Step.pickT); exact rfl; exact rfl; exact rfl; exact rfl; (focus ((simp only [decide_eq_true_eq, decide_eq_false_iff_not, Bool.not_eq_true', Bool.not_eq_false', Bool.not_true, Bool.not_false]; first | assumption | omega)))) | ((with_reducible apply Step.pickF); exact rfl; exact rfl; exact rfl; exact rfl; (focus ((simp only [decide_eq_true_eq, decide_eq_false_iff_not, Bool.not_eq_true', Bool.not_eq_false', Bool.not_true, Bool.not_false]; first | assumption | omega))))) | (with_reducible refine AWo.nil ?_) | ((with_reducible apply AW.seq)) | ((with_reducible apply Then.n)) | ((with_reducible apply AW.regL)) | ((with_reducible apply AW.condT); exact rfl; (focus (rfl)))))
      (refine AW.retD (l := [(4, _)]) (by repeat (first | exact trivial | (refine And.intro ⟨rfl, by (exact .bool _)⟩ ?_))) ?_; (repeat (first | refine Then.r ?_ | refine InBlk.r ?_)))
      exact ⟨_, rfl, by simp [stripsB, show ¬ n ≤ 2000 by omega], rfl⟩
    · by_cases c3 : 14 < l.length
      · (repeat (first | (with_reducible refine AWo.cons ?_) | ((with_reducible refine Step.id ?_); first | ((with_reducible apply Step.gdT); exact rfl; exact rfl; (focus ((simp only [decide_eq_true_eq, decide_eq_false_iff_not, Bool.not_eq_true', Bool.not_eq_false', Bool.not_true, Bool.not_false]; first | assumption | omega)))) | ((with_reducible apply Step.move); exact rfl; exact rfl) | ((with_reducible apply Step.assign); exact rfl; exact rfl) | ((with_reducible apply Step.lss); exact rfl; exact rfl; exact rfl) | ((with_reducible apply Step.gtr); exact rfl; exact rfl; exact rfl) | ((with_reducible apply Step.len); exact rfl; (focus (assumption)); (focus (decide +kernel)); exact rfl) | ((with_reducible apply Step.pickF); exact rfl; exact rfl; exact rfl; exact rfl; (focus ((simp only [decide_eq_true_eq, decide_eq_false_iff_not, Bool.not_eq_true', Bool.not_eq_false', Bool.not_true, Bool.not_false]; first | assumption | omega))))) | (with_reducible refine AWo.nil ?_) | ((with_reducible apply AW.seq)) | ((with_reducible apply Then.n)) | ((with_reducible apply AW.regL)) | ((with_reducible apply AW.condT); exact rfl; (focus ((simp only [decide_eq_true_eq, decide_eq_false_iff_not, Bool.not_eq_true', Bool.not_eq_false', Bool.not_true, Bool.not_false]; first | assumption | omega))))))
        (refine AW.retD (l := [(4, _)]) (by repeat (first | exact trivial | (refine And.intro ⟨rfl, by (exact .bool _)⟩ ?_))) ?_; (repeat (first | refine Then.r ?_ | refine InBlk.r ?_)))
        exact ⟨_, rfl, by simp [stripsB, show ¬ l.length ≤ 14 by omega], rfl⟩
      · (repeat (first | (with_reducible refine AWo.cons ?_) | ((with_reducible refine Step.id ?_); first | ((with_reducible apply Step.gdT); exact rfl; exact rfl; (focus ((simp only [decide_eq_true_eq, decide_eq_false_iff_not, Bool.not_eq_true', Bool.not_eq_false', Bool.not_true, Bool.not_false]; first | assumption | omega)))) | ((with_reducible apply Step.move); exact rfl; exact rfl) | ((with_reducible apply Step.assign); exact rfl; exact rfl) | ((with_reducible apply Step.lss); exact rfl; exact rfl; exact rfl) | ((with_reducible apply Step.gtr); exact rfl; exact rfl; exact rfl) | ((with_reducible apply Step.len); exact rfl; (focus (assumption)); (focus (decide +kernel)); exact rfl) | ((with_reducible apply Step.pickF); exact rfl; exact rfl; exact rfl; exact rfl; (focus ((simp only [decide_eq_true_eq, decide_eq_false_iff_not, Bool.not_eq_true', Bool.not_eq_false', Bool.not_true, Bool.not_false]; first | assumption | omega))))) | (with_reducible refine AWo.nil ?_) | ((with_reducible apply AW.seq)) | ((with_reducible apply Then.n)) | ((with_reducible apply AW.regL)) | ((with_reducible apply AW.block)) | ((with_reducible apply AW.skip)) | ((with_reducible apply AW.condF); exact rfl; (focus ((simp only [decide_eq_true_eq, decide_eq_false_iff_not, Bool.not_eq_true', Bool.not_eq_false', Bool.not_true, Bool.not_false]; first | assumption | omega))))))
        refine AW.loopT (fun q t L => ∃ k : Nat, q = l.length - k ∧ k ≤ l.length ∧ (l.take k).all (stripB n) = true ∧ L = [] ∧
          t = [(0, .int .i64 n), (18, v), (19, .int .i64 (l.length : Nat)), (20, .int .i64 (k : Nat))]) ⟨_, _, _, (Or.inl ⟨rfl, (by repeat (first | exact trivial | (refine And.intro rfl ?_)))⟩), 0, rfl, Nat.zero_le _, by simp, rfl, rfl⟩ ?_
        rintro q t L ⟨k, rfl, hk, hall, rfl, rfl⟩
        rcases Nat.lt_or_ge k l.length with hlt | hge
        · have ts := take_snoc l k 0 hlt
          have hr := h3 k hlt
          have bad : stripB n (l.getD k 0) = false → stripsB n l = false := fun e => by
            have : l.all (stripB n) = false := by
              rw [List.all_eq_false]
              exact ⟨l.getD k 0, by simp [hlt], by rw [e]; exact Bool.false_ne_true⟩
            simp [stripsB, this]
          cases hx : stripB n (l.getD k 0) with
          | true =>
            have hx' := hx
            simp only [stripB, decide_eq_true_eq] at hx'
            obtain ⟨x1, x2⟩ := hx'
            (repeat (first | (with_reducible refine AWo.cons ?_) | ((with_reducible refine Step.id ?_); first | ((with_reducible apply Step.gdT); exact rfl; exact rfl; (focus ((simp only [decide_eq_true_eq, decide_eq_false_iff_not, Bool.not_eq_true', Bool.not_eq_false', Bool.not_true, Bool.not_false]; first | assumption | omega)))) | ((with_reducible apply Step.move); exact rfl; exact rfl) | ((with_reducible apply Step.assign); exact rfl; exact rfl) | ((with_reducible apply Step.load); exact rfl; (focus (decide +kernel)); exact rfl; (focus (exact Rd.old _ (by assumption)))) | ((with_reducible apply Step.ix1); exact rfl; (focus (assumption)); exact rfl; (focus (decide +kernel)); exact rfl; (focus (omega))) | ((with_reducible apply Step.add); exact rfl; exact rfl; (focus (omega)); exact rfl) | ((with_reducible apply Step.lss); exact rfl; exact rfl; exact rfl) | ((with_reducible apply Step.gtr); exact rfl; exact rfl; exact rfl) | ((with_reducible apply Step.pickF); exact rfl; exact rfl; exact rfl; exact rfl; (focus ((simp only [decide_eq_true_eq, decide_eq_false_iff_not, Bool.not_eq_true', Bool.not_eq_false', Bool.not_true, Bool.not_false]; first | assumption | omega))))) | (with_reducible refine AWo.nil ?_) | ((with_reducible apply AW.seq)) | ((with_reducible apply Then.n)) | ((with_reducible apply AW.regL)) | ((with_reducible apply AW.block)) | ((with_reducible apply InBlk.n)) | ((with_reducible apply AW.skip)) | ((with_reducible apply AW.condT); exact rfl; (focus ((simp only [decide_eq_true_eq, decide_eq_false_iff_not, Bool.not_eq_true', Bool.not_eq_false', Bool.not_true, Bool.not_false]; first | assumption | omega)))) | ((with_reducible apply AW.condF); exact rfl; (focus ((simp only [decide_eq_true_eq, decide_eq_false_iff_not, Bool.not_eq_true', Bool.not_eq_false', Bool.not_true, Bool.not_false]; first | assumption | omega))))))
            exact ⟨_, _, _, by omega, (Or.inl ⟨rfl, (by repeat (first | exact trivial | (refine And.intro rfl ?_)))⟩), k + 1, rfl, by omega, by rw [ts, List.all_append, hall]; simp only [List.all_cons, List.all_nil, hx]; rfl, rfl, rfl⟩
          | false =>
            have hx' := hx
            simp only [stripB, decide_eq_false_iff_not] at hx'
            rw [bad hx]
            by_cases d1 : l.getD k 0 < 1
            · (repeat (first | (with_reducible refine AWo.cons ?_) | ((with_reducible refine Step.id ?_); first | ((with_reducible apply Step.gdF); exact rfl; exact rfl; (focus ((simp only [decide_eq_true_eq, decide_eq_false_iff_not, Bool.not_eq_true', Bool.not_eq_false', Bool.not_true, Bool.not_false]; first | assumption | omega)))) | ((with_reducible apply Step.move); exact rfl; exact rfl) | ((with_reducible apply Step.assign); exact rfl; exact rfl) | ((with_reducible apply Step.load); exact rfl; (focus (decide +kernel)); exact rfl; (focus (exact Rd.old _ (by assumption)))) | ((with_reducible apply Step.ix1); exact rfl; (focus (assumption)); exact rfl; (focus (decide +kernel)); exact rfl; (focus (omega))) | ((with_reducible apply Step.lss); exact rfl; exact rfl; exact rfl) | ((with_reducible apply Step.pickT); exact rfl; exact rfl; exact rfl; exact rfl; (focus ((simp only [decide_eq_true_eq, decide_eq_false_iff_not, Bool.not_eq_true', Bool.not_eq_false', Bool.not_true, Bool.not_false]; first | assumption | omega))))) | (with_reducible refine AWo.nil ?_) | ((with_reducible apply AW.seq)) | ((with_reducible apply Then.n)) | ((with_reducible apply AW.regL)) | ((with_reducible apply AW.block)) | ((with_reducible apply AW.skip)) | ((with_reducible apply AW.condT); exact rfl; (focus (first | rfl | (simp only [decide_eq_true_eq, decide_eq_false_iff_not, Bool.not_eq_true', Bool.not_eq_false', Bool.not_true, Bool.not_false]; first | assumption | omega))))))
              (refine AW.retD (l := [(4, _)]) (by repeat (first | exact trivial | (refine And.intro ⟨rfl, by (exact .bool _)⟩ ?_))) ?_; (repeat (first | refine Then.r ?_ | refine InBlk.r ?_)))
              exact ⟨_, rfl, rfl, rfl⟩
            · have d2 : n < l.getD k 0 := by omega
              (repeat (first | (with_reducible refine AWo.cons ?_) | ((with_reducible refine Step.id ?_); first | ((with_reducible apply Step.gdT); exact rfl; exact rfl; (focus ((simp only [decide_eq_true_eq, decide_eq_false_iff_not, Bool.not_eq_true', Bool.not_eq_false', Bool.not_true, Bool.not_false]; first | assumption | omega)))) | ((with_reducible apply Step.move); exact rfl; exact rfl) | ((with_reducible apply Step.assign); exact rfl; exact rfl) | ((with_reducible apply Step.load); exact rfl; (focus (decide +kernel)); exact rfl; (focus (exact Rd.old _ (by assumption)))) | ((with_reducible apply Step.ix1); exact rfl; (focus (assumption)); exact rfl; (focus (decide +kernel)); exact rfl; (focus (omega))) | ((with_reducible apply Step.lss); exact rfl; exact rfl; exact rfl) | ((with_reducible apply Step.gtr); exact rfl; exact rfl; exact rfl) | ((with_reducible apply Step.pickF); exact rfl; exact rfl; exact rfl; exact rfl; (focus ((simp only [decide_eq_true_eq, decide_eq_false_iff_not, Bool.not_eq_true', Bool.not_eq_false', Bool.not_true, Bool.not_false]; first | assumption | omega))))) | (with_reducible refine AWo.nil ?_) | ((with_reducible apply AW.seq)) | ((with_reducible apply Then.n)) | ((with_reducible apply AW.regL)) | ((with_reducible apply AW.block)) | ((with_reducible apply AW.skip)) | ((with_reducible apply AW.condT); exact rfl; (focus ((simp only [decide_eq_true_eq, decide_eq_false_iff_not, Bool.not_eq_true', Bool.not_eq_false', Bool.not_true, Bool.not_false]; first | assumption | omega))))))
              (refine AW.retD (l := [(4, _)]) (by repeat (first | exact trivial | (refine And.intro ⟨rfl, by (exact .bool _)⟩ ?_))) ?_; (repeat (first | refine Then.r ?_ | refine InBlk.r ?_)))
              exact ⟨_, rfl, rfl, rfl⟩
        · (repeat (first | (with_reducible refine AWo.cons ?_) | ((with_reducible refine Step.id ?_); first | ((with_reducible apply Step.assign); exact rfl; exact rfl) | ((with_reducible apply Step.lss); exact rfl; exact rfl; exact rfl)) | (with_reducible refine AWo.nil ?_) | ((with_reducible apply AW.seq)) | ((with_reducible apply Then.n)) | ((with_reducible apply AW.regL)) | ((with_reducible apply AW.exit)) | ((with_reducible apply InBlk.hit)) | ((with_reducible apply Then.e)) | ((with_reducible apply AW.condF); exact rfl; (focus ((simp only [decide_eq_true_eq, decide_eq_false_iff_not, Bool.not_eq_true', Bool.not_eq_false', Bool.not_true, Bool.not_false]; first | assumption | omega))))))
          (refine AW.retD (l := [(4, _)]) (by repeat (first | exact trivial | (refine And.intro ⟨rfl, by (exact .bool _)⟩ ?_))) ?_; (repeat (first | refine Then.r ?_ | refine InBlk.r ?_)))
          rw [List.take_of_length_le hge] at hall
          exact ⟨_, rfl, by simp [stripsB, hall]; omega, rfl⟩
set_option maxRecDepth 100000 in
theorem equalI_ok {m : AM} {v w : Value} {l k : List Int} (hl : Ints m v l) (hk : Ints m w k) (hlen : l.length ≤ 100000) {b : Bool} (hb : decide (l = k) = b) : ACall Tryd.prog 40 #[v, w] m (Ret (.bool b) m) := by
  subst hb
  obtain ⟨a, o, h1, h2, h3⟩ := hl
  obtain ⟨c, u, k1, k2, k3⟩ := hk
  refine ACall.start Tryd.func40 rfl rfl ?_
  by_cases hn : (l.length : Int) = (k.length : Int)
  · (repeat (first | (with_reducible refine AWo.cons ?_) | ((with_reducible refine Step.id ?_); first | ((with_reducible apply Step.move); exact rfl; exact rfl) | ((with_reducible apply Step.assign); exact rfl; exact rfl) | ((with_reducible apply Step.neq); exact rfl; exact rfl; exact rfl) | ((with_reducible apply Step.len); exact rfl; (focus (assumption)); (focus (decide +kernel)); exact rfl)) | (with_reducible refine AWo.nil ?_) | ((with_reducible apply AW.seq)) | ((with_reducible apply Then.n)) | ((with_reducible apply AW.regL)) | ((with_reducible apply AW.block)) | ((with_reducible apply AW.skip)) | ((with_reducible apply AW.condF); exact rfl; (focus ((simp only [decide_eq_true_eq, decide_eq_false_iff_not, Bool.not_eq_true', Bool.not_eq_false', Bool.not_true, Bool.not_false]; first | assumption | omega))))))
    refine AW.loopT (fun n t L => ∃ i : Nat, n = l.length - i ∧ i ≤ l.length ∧ l.take i = k.take i ∧ L = [] ∧
      t = [(0, v), (1, w), (12, .int .i64 (l.length : Nat)), (13, .int .i64 (i : Nat))]) ⟨_, _, _, (Or.inl ⟨rfl, (by repeat (first | exact trivial | (refine And.intro rfl ?_)))⟩), 0, rfl, Nat.zero_le _, rfl, rfl, rfl⟩ ?_
    rintro n t L ⟨i, rfl, hi, he, rfl, rfl⟩
    rcases Nat.lt_or_ge i l.length with hlt | hge
    · have r1 := h3 i hlt
      have r2 := k3 i (by omega)
      have ts := take_snoc l i 0 hlt
      have tk := take_snoc k i 0 (by omega)
      by_cases hx : l.getD i 0 = k.getD i 0
      · (repeat (first | (with_reducible refine AWo.cons ?_) | ((with_reducible refine Step.id ?_); first | ((with_reducible apply Step.move); exact rfl; exact rfl) | ((with_reducible apply Step.assign); exact rfl; exact rfl) | ((with_reducible apply Step.load); exact rfl; (focus (decide +kernel)); exact rfl; (focus (exact Rd.old _ (by assumption)))) | ((with_reducible apply Step.ix1); exact rfl; (focus (assumption)); exact rfl; (focus (decide +kernel)); exact rfl; (focus (omega))) | ((with_reducible apply Step.add); exact rfl; exact rfl; (focus (omega)); exact rfl) | ((with_reducible apply Step.lss); exact rfl; exact rfl; exact rfl) | ((with_reducible apply Step.neq); exact rfl; exact rfl; exact rfl)) | (with_reducible refine AWo.nil ?_) | ((with_reducible apply AW.seq)) | ((with_reducible apply Then.n)) | ((with_reducible apply AW.regL)) | ((with_reducible apply AW.block)) | ((with_reducible apply AW.drawL fit); (focus (decide +kernel))) | ((with_reducible apply InBlk.n)) | ((with_reducible apply AW.skip)) | ((with_reducible apply AW.condT); exact rfl; (focus ((simp only [decide_eq_true_eq, decide_eq_false_iff_not, Bool.not_eq_true', Bool.not_eq_false', Bool.not_true, Bool.not_false]; first | assumption | omega)))) | ((with_reducible apply AW.condF); exact rfl; (focus ((simp only [decide_eq_true_eq, decide_eq_false_iff_not, Bool.not_eq_true', Bool.not_eq_false', Bool.not_true, Bool.not_false]; first | assumption | omega))))))
        exact ⟨_, _, _, by omega, (Or.inl ⟨rfl, (by repeat (first | exact trivial | (refine And.intro rfl ?_)))⟩), i + 1, rfl, by omega, by rw [ts, tk, he, hx], rfl, rfl⟩
      · (repeat (first | (with_reducible refine AWo.cons ?_) | ((with_reducible refine Step.id ?_); first | ((with_reducible apply Step.move); exact rfl; exact rfl) | ((with_reducible apply Step.assign); exact rfl; exact rfl) | ((with_reducible apply Step.load); exact rfl; (focus (decide +kernel)); exact rfl; (focus (exact Rd.old _ (by assumption)))) | ((with_reducible apply Step.ix1); exact rfl; (focus (assumption)); exact rfl; (focus (decide +kernel)); exact rfl; (focus (omega))) | ((with_reducible apply Step.lss); exact rfl; exact rfl; exact rfl) | ((with_reducible apply Step.neq); exact rfl; exact rfl; exact rfl)) | (with_reducible refine AWo.nil ?_) | ((with_reducible apply AW.seq)) | ((with_reducible apply Then.n)) | ((with_reducible apply AW.regL)) | ((with_reducible apply AW.block)) | ((with_reducible apply AW.drawL fit); (focus (decide +kernel))) | ((with_reducible apply AW.skip)) | ((with_reducible apply AW.condT); exact rfl; (focus ((simp only [decide_eq_true_eq, decide_eq_false_iff_not, Bool.not_eq_true', Bool.not_eq_false', Bool.not_true, Bool.not_false]; first | assumption | omega))))))
        (refine AW.retD (l := [(4, _)]) (by repeat (first | exact trivial | (refine And.intro ⟨rfl, by (exact .bool _)⟩ ?_))) ?_; (repeat (first | refine Then.r ?_ | refine InBlk.r ?_)))
        refine ⟨_, rfl, ?_, rfl⟩
        rw [decide_eq_false (fun e => hx (by rw [e]))]
    · (repeat (first | (with_reducible refine AWo.cons ?_) | ((with_reducible refine Step.id ?_); first | ((with_reducible apply Step.assign); exact rfl; exact rfl) | ((with_reducible apply Step.lss); exact rfl; exact rfl; exact rfl)) | (with_reducible refine AWo.nil ?_) | ((with_reducible apply AW.seq)) | ((with_reducible apply Then.n)) | ((with_reducible apply AW.regL)) | ((with_reducible apply AW.exit)) | ((with_reducible apply InBlk.hit)) | ((with_reducible apply Then.e)) | ((with_reducible apply AW.condF); exact rfl; (focus ((simp only [decide_eq_true_eq, decide_eq_false_iff_not, Bool.not_eq_true', Bool.not_eq_false', Bool.not_true, Bool.not_false]; first | assumption | omega))))))
      (refine AW.retD (l := [(4, _)]) (by repeat (first | exact trivial | (refine And.intro ⟨rfl, by (exact .bool _)⟩ ?_))) ?_; (repeat (first | refine Then.r ?_ | refine InBlk.r ?_)))
      refine ⟨_, rfl, ?_, rfl⟩
      rw [List.take_of_length_le (by omega), List.take_of_length_le (by omega)] at he
      rw [decide_eq_true he]
  · (repeat (first | (with_reducible refine AWo.cons ?_) | ((with_reducible refine Step.id ?_); first | ((with_reducible apply Step.move); exact rfl; exact rfl) | ((with_reducible apply Step.assign); exact rfl; exact rfl) | ((with_reducible apply Step.neq); exact rfl; exact rfl; exact rfl) | ((with_reducible apply Step.len); exact rfl; (focus (assumption)); (focus (decide +kernel)); exact rfl)) | (with_reducible refine AWo.nil ?_) | ((with_reducible apply AW.seq)) | ((with_reducible apply Then.n)) | ((with_reducible apply AW.regL)) | ((with_reducible apply AW.condT); exact rfl; (focus ((simp only [decide_eq_true_eq, decide_eq_false_iff_not, Bool.not_eq_true', Bool.not_eq_false', Bool.not_true, Bool.not_false]; first | assumption | omega))))))
    (refine AW.retD (l := [(4, _)]) (by repeat (first | exact trivial | (refine And.intro ⟨rfl, by (exact .bool _)⟩ ?_))) ?_; (repeat (first | refine Then.r ?_ | refine InBlk.r ?_)))
    refine ⟨_, rfl, ?_, rfl⟩
    rw [decide_eq_false (fun e => hn (by rw [e]))]
def flT (n : Int) (l : List Int) (t : Nat) : Int := sm (flA (fun i => l.getD i 0) n t) l.length + sm (flB (fun i => l.getD i 0) n t) l.length + flC (fun i => l.getD i 0) n t l.length
def flX (n : Int) (l : List Int) : Nat → Int
  | 0 => 0
  | t + 1 => Max.max (flX n l t) (flT n l t)
theorem fl_bd {n t : Int} {p : Nat → Int} {k : Nat} (hn : 1 ≤ n ∧ n ≤ 2000) (hp : ∀ i, i < k → 1 ≤ p i ∧ p i ≤ n) : ∀ i, i ≤ k → 0 ≤ sm (flA p n t) i ∧ sm (flA p n t) i ≤ i ∧ 0 ≤ sm (flB p n t) i ∧ sm (flB p n t) i ≤ i ∧ 0 ≤ sm (flM p n t) i ∧ sm (flM p n t) i ≤ 2000 * i ∧ 0 ≤ sm (flF p n t) i ∧ sm (flF p n t) i ≤ 2000 * i
  | 0, _ => by simp [sm]
  | i + 1, h => by
    have ih := fl_bd (t := t) hn hp i (by omega)
    have hi := hp i (by omega)
    have a1 : 0 ≤ flA p n t i ∧ flA p n t i ≤ 1 := by unfold flA; split <;> omega
    have a2 : 0 ≤ flB p n t i ∧ flB p n t i ≤ 1 := by unfold flB; split <;> (try split) <;> omega
    have a3 : 0 ≤ flM p n t i ∧ flM p n t i ≤ 2000 := by unfold flM; split <;> (try split) <;> (try split) <;> omega
    have a4 : 0 ≤ flF p n t i ∧ flF p n t i ≤ 2000 := by unfold flF; split <;> (try split) <;> omega
    simp only [sm]
    omega
theorem flX_bd {n : Int} {l : List Int} (h : SpOk n l) : ∀ t, 0 ≤ flX n l t ∧ flX n l t ≤ 60000
  | 0 => by simp [flX]
  | t + 1 => by
    have ih := flX_bd h t
    have hb := fl_bd (t := t) ⟨h.n1, h.n2⟩ h.at_ l.length (Nat.le_refl _)
    have hl := h.len
    have hn := h.n1
    have c : 0 ≤ flC (fun i => l.getD i 0) n t l.length ∧ flC (fun i => l.getD i 0) n t l.length ≤ 40000 := by
      unfold flC
      split
      · generalize sm (flM (fun i => l.getD i 0) n t) l.length = M at *
        generalize sm (flF (fun i => l.getD i 0) n t) l.length = F at *
        have h2 := h.n2
        have h1 : 0 ≤ (M - F + n - 1) / n := Int.ediv_nonneg (by omega) (by omega)
        have h3 := Int.ediv_le_self (a := M - F + n - 1) n (by omega)
        omega
      · omega
    simp only [flX, flT]
    rw [Int.max_def]
    split <;> omega
set_option maxHeartbeats 4000000 in
set_option maxRecDepth 100000 in
theorem Floor_ok {m : AM} {v : Value} {l : List Int} {n : Int} (hl : Ints m v l) (hok : stripsB n l = true) : ACall Tryd.prog 59 #[.int .i64 n, v] m (Ret (.tuple #[.int .i64 (flX n l (n / 2 + 1).toNat), .int .i64 0]) m) := by
  have h := SpOk.of hok
  have hn1 := h.n1
  have hn2 := h.n2
  have hl14 := h.len
  obtain ⟨a, o, h1, h2, h3⟩ := id hl
  refine ACall.start Tryd.func59 rfl rfl ?_
  (repeat (first | (with_reducible refine AWo.cons ?_) | ((with_reducible refine Step.id ?_); first | ((with_reducible apply Step.move); exact rfl; exact rfl) | ((with_reducible apply Step.assign); exact rfl; exact rfl) | ((with_reducible apply Step.add); exact rfl; exact rfl; (focus (omega)); exact rfl) | ((with_reducible apply Step.quo); exact rfl; exact rfl; (focus (omega)); (focus (omega)); exact rfl) | ((with_reducible apply Step.not); exact rfl; exact rfl) | ((with_reducible apply Step.callR fit); exact rfl; exact Tryd.func88; exact rfl; exact rfl; exact (valid_ok (hl.old []) (by omega) hok))) | (with_reducible refine AWo.nil ?_) | ((with_reducible apply AW.seq)) | ((with_reducible apply Then.n)) | ((with_reducible apply AW.regL)) | ((with_reducible apply AW.block)) | ((with_reducible apply AW.skip)) | ((with_reducible apply AW.condF); exact rfl; (focus (rfl)))))
  refine AW.loopT (fun q t' L => ∃ t : Nat, q = (n / 2 + 1).toNat - t ∧ t ≤ (n / 2 + 1).toNat ∧ L = [] ∧ t' = [(0, .int .i64 n), (1, v), (6, .int .i64 (flX n l t)), (21, .int .i64 (n / 2 + 1)), (22, .int .i64 (t : Nat))]) ⟨_, _, _, (Or.inl ⟨rfl, (by repeat (first | exact trivial | (refine And.intro rfl ?_)))⟩), 0, rfl, Nat.zero_le _, rfl, rfl⟩ ?_
  rintro q t' L ⟨t, rfl, ht, rfl, rfl⟩
  have hXb := flX_bd h t
  rcases Nat.lt_or_ge t (n / 2 + 1).toNat with hlt | hge
  · have hX2 : flX n l (t + 1) = Max.max (flX n l t) (flT n l t) := rfl
    generalize flX n l t = X at *
    (repeat (first | (with_reducible refine AWo.cons ?_) | ((with_reducible refine Step.id ?_); first | ((with_reducible apply Step.move); exact rfl; exact rfl) | ((with_reducible apply Step.assign); exact rfl; exact rfl) | ((with_reducible apply Step.lss); exact rfl; exact rfl; exact rfl) | ((with_reducible apply Step.len); exact rfl; (focus (assumption)); (focus (decide +kernel)); exact rfl)) | (with_reducible refine AWo.nil ?_) | ((with_reducible apply AW.seq)) | ((with_reducible apply Then.n)) | ((with_reducible apply AW.regL)) | ((with_reducible apply AW.block)) | ((with_reducible apply AW.skip)) | ((with_reducible apply AW.condT); exact rfl; (focus ((simp only [decide_eq_true_eq, decide_eq_false_iff_not, Bool.not_eq_true', Bool.not_eq_false', Bool.not_true, Bool.not_false]; first | assumption | omega))))))
    refine AW.loopT (fun q t' L => ∃ i : Nat, q = l.length - i ∧ i ≤ l.length ∧ L = [] ∧ t' = [(0, .int .i64 n), (1, v), (6, .int .i64 X), (21, .int .i64 (n / 2 + 1)), (22, .int .i64 (t : Nat)), (7, .int .i64 (t : Nat)), (8, .int .i64 (sm (flA (fun i => l.getD i 0) n t) i)), (9, .int .i64 (sm (flB (fun i => l.getD i 0) n t) i)), (10, .int .i64 (sm (flM (fun i => l.getD i 0) n t) i)), (11, .int .i64 (sm (flF (fun i => l.getD i 0) n t) i)), (25, v), (26, .int .i64 (l.length : Nat)), (27, .int .i64 (i : Nat))]) ⟨_, _, _, (Or.inl ⟨rfl, (by repeat (first | exact trivial | (refine And.intro rfl ?_)))⟩), 0, rfl, Nat.zero_le _, rfl, rfl⟩ ?_
    rintro q t' L ⟨i, rfl, hi, rfl, rfl⟩
    have hb := fl_bd (t := (t : Nat)) ⟨hn1, hn2⟩ h.at_ i hi
    rcases Nat.lt_or_ge i l.length with hil | hil
    · have hr := h3 i hil
      have hx := h.at_ i hil
      have eA : sm (flA (fun i => l.getD i 0) n t) (i + 1) = sm (flA (fun i => l.getD i 0) n t) i + flA (fun i => l.getD i 0) n t i := rfl
      have eB : sm (flB (fun i => l.getD i 0) n t) (i + 1) = sm (flB (fun i => l.getD i 0) n t) i + flB (fun i => l.getD i 0) n t i := rfl
      have eM : sm (flM (fun i => l.getD i 0) n t) (i + 1) = sm (flM (fun i => l.getD i 0) n t) i + flM (fun i => l.getD i 0) n t i := rfl
      have eF : sm (flF (fun i => l.getD i 0) n t) (i + 1) = sm (flF (fun i => l.getD i 0) n t) i + flF (fun i => l.getD i 0) n t i := rfl
      by_cases d1 : l.getD i 0 > n - t
      · have gA : flA (fun i => l.getD i 0) n t i = 1 := by simp only [flA, if_pos d1]
        have gB : flB (fun i => l.getD i 0) n t i = 0 := by simp only [flB, if_pos d1]
        have gM : flM (fun i => l.getD i 0) n t i = 0 := by simp only [flM, if_pos d1]
        have gF : flF (fun i => l.getD i 0) n t i = 0 := by simp only [flF, if_pos d1]
        rw [gA] at eA
        rw [gB, Int.add_zero] at eB
        rw [gM, Int.add_zero] at eM
        rw [gF, Int.add_zero] at eF
        generalize l.getD i 0 = x at *
        generalize sm (flA (fun i => l.getD i 0) n t) i = A at *
        generalize sm (flB (fun i => l.getD i 0) n t) i = B at *
        generalize sm (flM (fun i => l.getD i 0) n t) i = M at *
        generalize sm (flF (fun i => l.getD i 0) n t) i = F at *
        (repeat (first | (with_reducible refine AWo.cons ?_) | ((with_reducible refine Step.id ?_); first | ((with_reducible apply Step.move); exact rfl; exact rfl) | ((with_reducible apply Step.assign); exact rfl; exact rfl) | ((with_reducible apply Step.load); exact rfl; (focus (decide +kernel)); exact rfl; (focus (exact Rd.old _ (by assumption)))) | ((with_reducible apply Step.ix1); exact rfl; (focus (assumption)); exact rfl; (focus (decide +kernel)); exact rfl; (focus (omega))) | ((with_reducible apply Step.add); exact rfl; exact rfl; (focus (omega)); exact rfl) | ((with_reducible apply Step.sub); exact rfl; exact rfl; (focus (omega)); exact rfl) | ((with_reducible apply Step.lss); exact rfl; exact rfl; exact rfl) | ((with_reducible apply Step.gtr); exact rfl; exact rfl; exact rfl)) | (with_reducible refine AWo.nil ?_) | ((with_reducible apply AW.seq)) | ((with_reducible apply Then.n)) | ((with_reducible apply AW.regL)) | ((with_reducible apply AW.block)) | ((with_reducible apply InBlk.n)) | ((with_reducible apply AW.skip)) | ((with_reducible apply AW.condT); exact rfl; (focus ((simp only [decide_eq_true_eq, decide_eq_false_iff_not, Bool.not_eq_true', Bool.not_eq_false', Bool.not_true, Bool.not_false]; first | assumption | omega))))))
        exact ⟨_, [(0, .int .i64 n), (1, v), (6, .int .i64 X), (21, .int .i64 (n / 2 + 1)), (22, .int .i64 (t : Nat)), (7, .int .i64 (t : Nat)), (8, .int .i64 (A + 1)), (9, .int .i64 B), (10, .int .i64 M), (11, .int .i64 F), (25, v), (26, .int .i64 (l.length : Nat)), (27, .int .i64 (i + 1 : Nat))], [], by omega, (Or.inl ⟨rfl, (by repeat (first | exact trivial | (refine And.intro rfl ?_)))⟩), i + 1, rfl, by omega, rfl, by rw [eA, eB, eM, eF]⟩
      · by_cases d2 : 2 * l.getD i 0 > n
        · have gA : flA (fun i => l.getD i 0) n t i = 0 := by simp only [flA, if_neg d1]
          have gB : flB (fun i => l.getD i 0) n t i = 1 := by simp only [flB, if_neg d1, if_pos d2]
          have gM : flM (fun i => l.getD i 0) n t i = 0 := by simp only [flM, if_neg d1, if_pos d2]
          have gF : flF (fun i => l.getD i 0) n t i = n - l.getD i 0 := by simp only [flF, if_neg d1, if_pos d2]
          rw [gA, Int.add_zero] at eA
          rw [gB] at eB
          rw [gM, Int.add_zero] at eM
          rw [gF] at eF
          generalize l.getD i 0 = x at *
          generalize sm (flA (fun i => l.getD i 0) n t) i = A at *
          generalize sm (flB (fun i => l.getD i 0) n t) i = B at *
          generalize sm (flM (fun i => l.getD i 0) n t) i = M at *
          generalize sm (flF (fun i => l.getD i 0) n t) i = F at *
          (repeat (first | (with_reducible refine AWo.cons ?_) | ((with_reducible refine Step.id ?_); first | ((with_reducible apply Step.move); exact rfl; exact rfl) | ((with_reducible apply Step.assign); exact rfl; exact rfl) | ((with_reducible apply Step.load); exact rfl; (focus (decide +kernel)); exact rfl; (focus (exact Rd.old _ (by assumption)))) | ((with_reducible apply Step.ix1); exact rfl; (focus (assumption)); exact rfl; (focus (decide +kernel)); exact rfl; (focus (omega))) | ((with_reducible apply Step.add); exact rfl; exact rfl; (focus (omega)); exact rfl) | ((with_reducible apply Step.sub); exact rfl; exact rfl; (focus (omega)); exact rfl) | ((with_reducible apply Step.mul); exact rfl; exact rfl; (focus (omega)); exact rfl) | ((with_reducible apply Step.lss); exact rfl; exact rfl; exact rfl) | ((with_reducible apply Step.gtr); exact rfl; exact rfl; exact rfl)) | (with_reducible refine AWo.nil ?_) | ((with_reducible apply AW.seq)) | ((with_reducible apply Then.n)) | ((with_reducible apply AW.regL)) | ((with_reducible apply AW.block)) | ((with_reducible apply InBlk.n)) | ((with_reducible apply AW.skip)) | ((with_reducible apply AW.condT); exact rfl; (focus ((simp only [decide_eq_true_eq, decide_eq_false_iff_not, Bool.not_eq_true', Bool.not_eq_false', Bool.not_true, Bool.not_false]; first | assumption | omega)))) | ((with_reducible apply AW.condF); exact rfl; (focus ((simp only [decide_eq_true_eq, decide_eq_false_iff_not, Bool.not_eq_true', Bool.not_eq_false', Bool.not_true, Bool.not_false]; first | assumption | omega))))))
          exact ⟨_, [(0, .int .i64 n), (1, v), (6, .int .i64 X), (21, .int .i64 (n / 2 + 1)), (22, .int .i64 (t : Nat)), (7, .int .i64 (t : Nat)), (8, .int .i64 A), (9, .int .i64 (B + 1)), (10, .int .i64 M), (11, .int .i64 (F + (n - x))), (25, v), (26, .int .i64 (l.length : Nat)), (27, .int .i64 (i + 1 : Nat))], [], by omega, (Or.inl ⟨rfl, (by repeat (first | exact trivial | (refine And.intro rfl ?_)))⟩), i + 1, rfl, by omega, rfl, by rw [eA, eB, eM, eF]⟩
        · by_cases d3 : l.getD i 0 ≥ t
          · have gA : flA (fun i => l.getD i 0) n t i = 0 := by simp only [flA, if_neg d1]
            have gB : flB (fun i => l.getD i 0) n t i = 0 := by simp only [flB, if_neg d1, if_neg d2]
            have gM : flM (fun i => l.getD i 0) n t i = l.getD i 0 := by simp only [flM, if_neg d1, if_neg d2, if_pos d3]
            have gF : flF (fun i => l.getD i 0) n t i = 0 := by simp only [flF, if_neg d1, if_neg d2]
            rw [gA, Int.add_zero] at eA
            rw [gB, Int.add_zero] at eB
            rw [gM] at eM
            rw [gF, Int.add_zero] at eF
            generalize l.getD i 0 = x at *
            generalize sm (flA (fun i => l.getD i 0) n t) i = A at *
            generalize sm (flB (fun i => l.getD i 0) n t) i = B at *
            generalize sm (flM (fun i => l.getD i 0) n t) i = M at *
            generalize sm (flF (fun i => l.getD i 0) n t) i = F at *
            (repeat (first | (with_reducible refine AWo.cons ?_) | ((with_reducible refine Step.id ?_); first | ((with_reducible apply Step.move); exact rfl; exact rfl) | ((with_reducible apply Step.assign); exact rfl; exact rfl) | ((with_reducible apply Step.load); exact rfl; (focus (decide +kernel)); exact rfl; (focus (exact Rd.old _ (by assumption)))) | ((with_reducible apply Step.ix1); exact rfl; (focus (assumption)); exact rfl; (focus (decide +kernel)); exact rfl; (focus (omega))) | ((with_reducible apply Step.add); exact rfl; exact rfl; (focus (omega)); exact rfl) | ((with_reducible apply Step.sub); exact rfl; exact rfl; (focus (omega)); exact rfl) | ((with_reducible apply Step.mul); exact rfl; exact rfl; (focus (omega)); exact rfl) | ((with_reducible apply Step.lss); exact rfl; exact rfl; exact rfl) | ((with_reducible apply Step.gtr); exact rfl; exact rfl; exact rfl) | ((with_reducible apply Step.geq); exact rfl; exact rfl; exact rfl)) | (with_reducible refine AWo.nil ?_) | ((with_reducible apply AW.seq)) | ((with_reducible apply Then.n)) | ((with_reducible apply AW.regL)) | ((with_reducible apply AW.block)) | ((with_reducible apply InBlk.n)) | ((with_reducible apply AW.skip)) | ((with_reducible apply AW.condT); exact rfl; (focus ((simp only [decide_eq_true_eq, decide_eq_false_iff_not, Bool.not_eq_true', Bool.not_eq_false', Bool.not_true, Bool.not_false]; first | assumption | omega)))) | ((with_reducible apply AW.condF); exact rfl; (focus ((simp only [decide_eq_true_eq, decide_eq_false_iff_not, Bool.not_eq_true', Bool.not_eq_false', Bool.not_true, Bool.not_false]; first | assumption | omega))))))
            exact ⟨_, [(0, .int .i64 n), (1, v), (6, .int .i64 X), (21, .int .i64 (n / 2 + 1)), (22, .int .i64 (t : Nat)), (7, .int .i64 (t : Nat)), (8, .int .i64 A), (9, .int .i64 B), (10, .int .i64 (M + x)), (11, .int .i64 F), (25, v), (26, .int .i64 (l.length : Nat)), (27, .int .i64 (i + 1 : Nat))], [], by omega, (Or.inl ⟨rfl, (by repeat (first | exact trivial | (refine And.intro rfl ?_)))⟩), i + 1, rfl, by omega, rfl, by rw [eA, eB, eM, eF]⟩
          · have gA : flA (fun i => l.getD i 0) n t i = 0 := by simp only [flA, if_neg d1]
            have gB : flB (fun i => l.getD i 0) n t i = 0 := by simp only [flB, if_neg d1, if_neg d2]
            have gM : flM (fun i => l.getD i 0) n t i = 0 := by simp only [flM, if_neg d1, if_neg d2, if_neg d3]
            have gF : flF (fun i => l.getD i 0) n t i = 0 := by simp only [flF, if_neg d1, if_neg d2]
            rw [gA, Int.add_zero] at eA
            rw [gB, Int.add_zero] at eB
            rw [gM, Int.add_zero] at eM
            rw [gF, Int.add_zero] at eF
            generalize l.getD i 0 = x at *
            generalize sm (flA (fun i => l.getD i 0) n t) i = A at *
            generalize sm (flB (fun i => l.getD i 0) n t) i = B at *
            generalize sm (flM (fun i => l.getD i 0) n t) i = M at *
            generalize sm (flF (fun i => l.getD i 0) n t) i = F at *
            (repeat (first | (with_reducible refine AWo.cons ?_) | ((with_reducible refine Step.id ?_); first | ((with_reducible apply Step.move); exact rfl; exact rfl) | ((with_reducible apply Step.assign); exact rfl; exact rfl) | ((with_reducible apply Step.load); exact rfl; (focus (decide +kernel)); exact rfl; (focus (exact Rd.old _ (by assumption)))) | ((with_reducible apply Step.ix1); exact rfl; (focus (assumption)); exact rfl; (focus (decide +kernel)); exact rfl; (focus (omega))) | ((with_reducible apply Step.add); exact rfl; exact rfl; (focus (omega)); exact rfl) | ((with_reducible apply Step.sub); exact rfl; exact rfl; (focus (omega)); exact rfl) | ((with_reducible apply Step.mul); exact rfl; exact rfl; (focus (omega)); exact rfl) | ((with_reducible apply Step.lss); exact rfl; exact rfl; exact rfl) | ((with_reducible apply Step.gtr); exact rfl; exact rfl; exact rfl) | ((with_reducible apply Step.geq); exact rfl; exact rfl; exact rfl)) | (with_reducible refine AWo.nil ?_) | ((with_reducible apply AW.seq)) | ((with_reducible apply Then.n)) | ((with_reducible apply AW.regL)) | ((with_reducible apply AW.block)) | ((with_reducible apply InBlk.n)) | ((with_reducible apply AW.skip)) | ((with_reducible apply AW.condT); exact rfl; (focus ((simp only [decide_eq_true_eq, decide_eq_false_iff_not, Bool.not_eq_true', Bool.not_eq_false', Bool.not_true, Bool.not_false]; first | assumption | omega)))) | ((with_reducible apply AW.condF); exact rfl; (focus ((simp only [decide_eq_true_eq, decide_eq_false_iff_not, Bool.not_eq_true', Bool.not_eq_false', Bool.not_true, Bool.not_false]; first | assumption | omega))))))
            exact ⟨_, [(0, .int .i64 n), (1, v), (6, .int .i64 X), (21, .int .i64 (n / 2 + 1)), (22, .int .i64 (t : Nat)), (7, .int .i64 (t : Nat)), (8, .int .i64 A), (9, .int .i64 B), (10, .int .i64 M), (11, .int .i64 F), (25, v), (26, .int .i64 (l.length : Nat)), (27, .int .i64 (i + 1 : Nat))], [], by omega, (Or.inl ⟨rfl, (by repeat (first | exact trivial | (refine And.intro rfl ?_)))⟩), i + 1, rfl, by omega, rfl, by rw [eA, eB, eM, eF]⟩
    · obtain rfl : i = l.length := by omega
      have eT : flT n l t = sm (flA (fun i => l.getD i 0) n t) l.length + sm (flB (fun i => l.getD i 0) n t) l.length + flC (fun i => l.getD i 0) n t l.length := rfl
      by_cases d : sm (flM (fun i => l.getD i 0) n t) l.length > sm (flF (fun i => l.getD i 0) n t) l.length
      · have eC : flC (fun i => l.getD i 0) n t l.length = (sm (flM (fun i => l.getD i 0) n t) l.length - sm (flF (fun i => l.getD i 0) n t) l.length + n - 1) / n := by simp only [flC, if_pos d]
        rw [eC] at eT
        have hC0 : 0 ≤ (sm (flM (fun i => l.getD i 0) n t) l.length - sm (flF (fun i => l.getD i 0) n t) l.length + n - 1) / n := Int.ediv_nonneg (by omega) (by omega)
        have hC1 := Int.ediv_le_self (a := sm (flM (fun i => l.getD i 0) n t) l.length - sm (flF (fun i => l.getD i 0) n t) l.length + n - 1) n (by omega)
        generalize sm (flA (fun i => l.getD i 0) n t) l.length = A at *
        generalize sm (flB (fun i => l.getD i 0) n t) l.length = B at *
        generalize sm (flM (fun i => l.getD i 0) n t) l.length = M at *
        generalize sm (flF (fun i => l.getD i 0) n t) l.length = F at *
        (repeat (first | (with_reducible refine AWo.cons ?_) | ((with_reducible refine Step.id ?_); first | ((with_reducible apply Step.move); exact rfl; exact rfl) | ((with_reducible apply Step.assign); exact rfl; exact rfl) | ((with_reducible apply Step.add); exact rfl; exact rfl; (focus (omega)); exact rfl) | ((with_reducible apply Step.sub); exact rfl; exact rfl; (focus (omega)); exact rfl) | ((with_reducible apply Step.lss); exact rfl; exact rfl; exact rfl) | ((with_reducible apply Step.gtr); exact rfl; exact rfl; exact rfl) | ((with_reducible apply Step.quo); exact rfl; exact rfl; (focus (omega)); (focus (omega)); exact rfl) | ((with_reducible apply Step.max); exact rfl; exact rfl; exact rfl)) | (with_reducible refine AWo.nil ?_) | ((with_reducible apply AW.seq)) | ((with_reducible apply Then.n)) | ((with_reducible apply AW.regL)) | ((with_reducible apply AW.exit)) | ((with_reducible apply InBlk.n)) | ((with_reducible apply InBlk.hit)) | ((with_reducible apply Then.e)) | ((with_reducible apply AW.condT); exact rfl; (focus ((simp only [decide_eq_true_eq, decide_eq_false_iff_not, Bool.not_eq_true', Bool.not_eq_false', Bool.not_true, Bool.not_false]; first | assumption | omega)))) | ((with_reducible apply AW.condF); exact rfl; (focus ((simp only [decide_eq_true_eq, decide_eq_false_iff_not, Bool.not_eq_true', Bool.not_eq_false', Bool.not_true, Bool.not_false]; first | assumption | omega))))))
        exact ⟨_, [(0, .int .i64 n), (1, v), (6, .int .i64 (Max.max X (A + B + (M - F + n - 1) / n))), (21, .int .i64 (n / 2 + 1)), (22, .int .i64 (t + 1 : Nat))], [], by omega, (Or.inl ⟨rfl, (by repeat (first | exact trivial | (refine And.intro rfl ?_)))⟩), t + 1, rfl, by omega, rfl, by rw [hX2, eT]⟩
      · have eC : flC (fun i => l.getD i 0) n t l.length = 0 := by simp only [flC, if_neg d]
        rw [eC] at eT
        generalize sm (flA (fun i => l.getD i 0) n t) l.length = A at *
        generalize sm (flB (fun i => l.getD i 0) n t) l.length = B at *
        generalize sm (flM (fun i => l.getD i 0) n t) l.length = M at *
        generalize sm (flF (fun i => l.getD i 0) n t) l.length = F at *
        (repeat (first | (with_reducible refine AWo.cons ?_) | ((with_reducible refine Step.id ?_); first | ((with_reducible apply Step.move); exact rfl; exact rfl) | ((with_reducible apply Step.assign); exact rfl; exact rfl) | ((with_reducible apply Step.add); exact rfl; exact rfl; (focus (omega)); exact rfl) | ((with_reducible apply Step.lss); exact rfl; exact rfl; exact rfl) | ((with_reducible apply Step.gtr); exact rfl; exact rfl; exact rfl) | ((with_reducible apply Step.max); exact rfl; exact rfl; exact rfl)) | (with_reducible refine AWo.nil ?_) | ((with_reducible apply AW.seq)) | ((with_reducible apply Then.n)) | ((with_reducible apply AW.regL)) | ((with_reducible apply AW.exit)) | ((with_reducible apply InBlk.n)) | ((with_reducible apply InBlk.hit)) | ((with_reducible apply Then.e)) | ((with_reducible apply AW.skip)) | ((with_reducible apply AW.condF); exact rfl; (focus ((simp only [decide_eq_true_eq, decide_eq_false_iff_not, Bool.not_eq_true', Bool.not_eq_false', Bool.not_true, Bool.not_false]; first | assumption | omega))))))
        exact ⟨_, [(0, .int .i64 n), (1, v), (6, .int .i64 (Max.max X (A + B + 0))), (21, .int .i64 (n / 2 + 1)), (22, .int .i64 (t + 1 : Nat))], [], by omega, (Or.inl ⟨rfl, (by repeat (first | exact trivial | (refine And.intro rfl ?_)))⟩), t + 1, rfl, by omega, rfl, by rw [hX2, eT]⟩
  · obtain rfl : t = (n / 2 + 1).toNat := by omega
    (repeat (first | (with_reducible refine AWo.cons ?_) | ((with_reducible refine Step.id ?_); first | ((with_reducible apply Step.move); exact rfl; exact rfl) | ((with_reducible apply Step.assign); exact rfl; exact rfl) | ((with_reducible apply Step.lss); exact rfl; exact rfl; exact rfl)) | (with_reducible refine AWo.nil ?_) | ((with_reducible apply AW.seq)) | ((with_reducible apply Then.n)) | ((with_reducible apply AW.regL)) | ((with_reducible apply AW.exit)) | ((with_reducible apply InBlk.hit)) | ((with_reducible apply Then.e)) | ((with_reducible apply AW.condF); exact rfl; (focus ((simp only [decide_eq_true_eq, decide_eq_false_iff_not, Bool.not_eq_true', Bool.not_eq_false', Bool.not_true, Bool.not_false]; first | assumption | omega))))))
    (refine AW.retD (l := [(4, _), (5, _)]) (by repeat (first | exact trivial | (refine And.intro ⟨rfl, by (exact .int _ _)⟩ ?_))) ?_; (repeat (first | refine Then.r ?_ | refine InBlk.r ?_)))
    exact ⟨_, rfl, rfl, rfl⟩
set_option maxHeartbeats 4000000 in
set_option maxRecDepth 100000 in
theorem RFloor_ok {m : AM} {v : Value} {l : List Int} {n : Int} (hl : Ints m v l) (hok : stripsB n l = true) : ACall Tryd.prog 60 #[.int .i64 n, v] m (Ret (.tuple #[.int .i64 (flX n l (n / 2 + 1).toNat), .int .i64 0]) m) := by
  have h := SpOk.of hok
  have hn1 := h.n1
  have hn2 := h.n2
  have hl14 := h.len
  obtain ⟨a, o, h1, h2, h3⟩ := id hl
  refine ACall.start Tryd.func60 rfl rfl ?_
  (repeat (first | (with_reducible refine AWo.cons ?_) | ((with_reducible refine Step.id ?_); first | ((with_reducible apply Step.move); exact rfl; exact rfl) | ((with_reducible apply Step.assign); exact rfl; exact rfl) | ((with_reducible apply Step.not); exact rfl; exact rfl) | ((with_reducible apply Step.callR fit); exact rfl; exact Tryd.func61; exact rfl; exact rfl; exact (RStrips_ok (hl.old []) (by omega) hok))) | (with_reducible refine AWo.nil ?_) | ((with_reducible apply AW.seq)) | ((with_reducible apply Then.n)) | ((with_reducible apply AW.regL)) | ((with_reducible apply AW.block)) | ((with_reducible apply AW.skip)) | ((with_reducible apply AW.condF); exact rfl; (focus (rfl)))))
  refine AW.loopT (fun q t' L => ∃ t : Nat, q = (n / 2 + 1).toNat - t ∧ t ≤ (n / 2 + 1).toNat ∧ L = [] ∧ t' = [(0, .int .i64 n), (1, v), (6, .int .i64 (flX n l t)), (7, .int .i64 (t : Nat))]) ⟨_, _, _, (Or.inl ⟨rfl, (by repeat (first | exact trivial | (refine And.intro rfl ?_)))⟩), 0, rfl, Nat.zero_le _, rfl, rfl⟩ ?_
  rintro q t' L ⟨t, rfl, ht, rfl, rfl⟩
  have hXb := flX_bd h t
  rcases Nat.lt_or_ge t (n / 2 + 1).toNat with hlt | hge
  · have hX2 : flX n l (t + 1) = Max.max (flX n l t) (flT n l t) := rfl
    generalize flX n l t = X at *
    (repeat (first | (with_reducible refine AWo.cons ?_) | ((with_reducible refine Step.id ?_); first | ((with_reducible apply Step.move); exact rfl; exact rfl) | ((with_reducible apply Step.assign); exact rfl; exact rfl) | ((with_reducible apply Step.leq); exact rfl; exact rfl; exact rfl) | ((with_reducible apply Step.quo); exact rfl; exact rfl; (focus (omega)); (focus (omega)); exact rfl) | ((with_reducible apply Step.len); exact rfl; (focus (assumption)); (focus (decide +kernel)); exact rfl)) | (with_reducible refine AWo.nil ?_) | ((with_reducible apply AW.seq)) | ((with_reducible apply Then.n)) | ((with_reducible apply AW.regL)) | ((with_reducible apply AW.block)) | ((with_reducible apply AW.skip)) | ((with_reducible apply AW.condT); exact rfl; (focus ((simp only [decide_eq_true_eq, decide_eq_false_iff_not, Bool.not_eq_true', Bool.not_eq_false', Bool.not_true, Bool.not_false]; first | assumption | omega))))))
    refine AW.loopT (fun q t' L => ∃ i : Nat, q = l.length - i ∧ i ≤ l.length ∧ L = [] ∧ t' = [(0, .int .i64 n), (1, v), (6, .int .i64 X), (7, .int .i64 (t : Nat)), (8, .int .i64 (sm (flA (fun i => l.getD i 0) n t) i)), (9, .int .i64 (sm (flB (fun i => l.getD i 0) n t) i)), (10, .int .i64 (sm (flM (fun i => l.getD i 0) n t) i)), (11, .int .i64 (sm (flF (fun i => l.getD i 0) n t) i)), (25, v), (26, .int .i64 (l.length : Nat)), (27, .int .i64 (i : Nat))]) ⟨_, _, _, (Or.inl ⟨rfl, (by repeat (first | exact trivial | (refine And.intro rfl ?_)))⟩), 0, rfl, Nat.zero_le _, rfl, rfl⟩ ?_
    rintro q t' L ⟨i, rfl, hi, rfl, rfl⟩
    have hb := fl_bd (t := (t : Nat)) ⟨hn1, hn2⟩ h.at_ i hi
    rcases Nat.lt_or_ge i l.length with hil | hil
    · have hr := h3 i hil
      have hx := h.at_ i hil
      have eA : sm (flA (fun i => l.getD i 0) n t) (i + 1) = sm (flA (fun i => l.getD i 0) n t) i + flA (fun i => l.getD i 0) n t i := rfl
      have eB : sm (flB (fun i => l.getD i 0) n t) (i + 1) = sm (flB (fun i => l.getD i 0) n t) i + flB (fun i => l.getD i 0) n t i := rfl
      have eM : sm (flM (fun i => l.getD i 0) n t) (i + 1) = sm (flM (fun i => l.getD i 0) n t) i + flM (fun i => l.getD i 0) n t i := rfl
      have eF : sm (flF (fun i => l.getD i 0) n t) (i + 1) = sm (flF (fun i => l.getD i 0) n t) i + flF (fun i => l.getD i 0) n t i := rfl
      by_cases d1 : l.getD i 0 > n - t
      · have gA : flA (fun i => l.getD i 0) n t i = 1 := by simp only [flA, if_pos d1]
        have gB : flB (fun i => l.getD i 0) n t i = 0 := by simp only [flB, if_pos d1]
        have gM : flM (fun i => l.getD i 0) n t i = 0 := by simp only [flM, if_pos d1]
        have gF : flF (fun i => l.getD i 0) n t i = 0 := by simp only [flF, if_pos d1]
        rw [gA] at eA
        rw [gB, Int.add_zero] at eB
        rw [gM, Int.add_zero] at eM
        rw [gF, Int.add_zero] at eF
        generalize l.getD i 0 = x at *
        generalize sm (flA (fun i => l.getD i 0) n t) i = A at *
        generalize sm (flB (fun i => l.getD i 0) n t) i = B at *
        generalize sm (flM (fun i => l.getD i 0) n t) i = M at *
        generalize sm (flF (fun i => l.getD i 0) n t) i = F at *
        (repeat (first | (with_reducible refine AWo.cons ?_) | ((with_reducible refine Step.id ?_); first | ((with_reducible apply Step.move); exact rfl; exact rfl) | ((with_reducible apply Step.assign); exact rfl; exact rfl) | ((with_reducible apply Step.load); exact rfl; (focus (decide +kernel)); exact rfl; (focus (exact Rd.old _ (by assumption)))) | ((with_reducible apply Step.ix1); exact rfl; (focus (assumption)); exact rfl; (focus (decide +kernel)); exact rfl; (focus (omega))) | ((with_reducible apply Step.add); exact rfl; exact rfl; (focus (omega)); exact rfl) | ((with_reducible apply Step.sub); exact rfl; exact rfl; (focus (omega)); exact rfl) | ((with_reducible apply Step.lss); exact rfl; exact rfl; exact rfl) | ((with_reducible apply Step.gtr); exact rfl; exact rfl; exact rfl)) | (with_reducible refine AWo.nil ?_) | ((with_reducible apply AW.seq)) | ((with_reducible apply Then.n)) | ((with_reducible apply AW.regL)) | ((with_reducible apply AW.block)) | ((with_reducible apply InBlk.n)) | ((with_reducible apply AW.skip)) | ((with_reducible apply AW.condT); exact rfl; (focus ((simp only [decide_eq_true_eq, decide_eq_false_iff_not, Bool.not_eq_true', Bool.not_eq_false', Bool.not_true, Bool.not_false]; first | assumption | omega))))))
        exact ⟨_, [(0, .int .i64 n), (1, v), (6, .int .i64 X), (7, .int .i64 (t : Nat)), (8, .int .i64 (A + 1)), (9, .int .i64 B), (10, .int .i64 M), (11, .int .i64 F), (25, v), (26, .int .i64 (l.length : Nat)), (27, .int .i64 (i + 1 : Nat))], [], by omega, (Or.inl ⟨rfl, (by repeat (first | exact trivial | (refine And.intro rfl ?_)))⟩), i + 1, rfl, by omega, rfl, by rw [eA, eB, eM, eF]⟩
      · by_cases d2 : 2 * l.getD i 0 > n
        · have gA : flA (fun i => l.getD i 0) n t i = 0 := by simp only [flA, if_neg d1]
          have gB : flB (fun i => l.getD i 0) n t i = 1 := by simp only [flB, if_neg d1, if_pos d2]
          have gM : flM (fun i => l.getD i 0) n t i = 0 := by simp only [flM, if_neg d1, if_pos d2]
          have gF : flF (fun i => l.getD i 0) n t i = n - l.getD i 0 := by simp only [flF, if_neg d1, if_pos d2]
          rw [gA, Int.add_zero] at eA
          rw [gB] at eB
          rw [gM, Int.add_zero] at eM
          rw [gF] at eF
          generalize l.getD i 0 = x at *
          generalize sm (flA (fun i => l.getD i 0) n t) i = A at *
          generalize sm (flB (fun i => l.getD i 0) n t) i = B at *
          generalize sm (flM (fun i => l.getD i 0) n t) i = M at *
          generalize sm (flF (fun i => l.getD i 0) n t) i = F at *
          (repeat (first | (with_reducible refine AWo.cons ?_) | ((with_reducible refine Step.id ?_); first | ((with_reducible apply Step.move); exact rfl; exact rfl) | ((with_reducible apply Step.assign); exact rfl; exact rfl) | ((with_reducible apply Step.load); exact rfl; (focus (decide +kernel)); exact rfl; (focus (exact Rd.old _ (by assumption)))) | ((with_reducible apply Step.ix1); exact rfl; (focus (assumption)); exact rfl; (focus (decide +kernel)); exact rfl; (focus (omega))) | ((with_reducible apply Step.add); exact rfl; exact rfl; (focus (omega)); exact rfl) | ((with_reducible apply Step.sub); exact rfl; exact rfl; (focus (omega)); exact rfl) | ((with_reducible apply Step.mul); exact rfl; exact rfl; (focus (omega)); exact rfl) | ((with_reducible apply Step.lss); exact rfl; exact rfl; exact rfl) | ((with_reducible apply Step.gtr); exact rfl; exact rfl; exact rfl)) | (with_reducible refine AWo.nil ?_) | ((with_reducible apply AW.seq)) | ((with_reducible apply Then.n)) | ((with_reducible apply AW.regL)) | ((with_reducible apply AW.block)) | ((with_reducible apply InBlk.n)) | ((with_reducible apply AW.skip)) | ((with_reducible apply AW.condT); exact rfl; (focus ((simp only [decide_eq_true_eq, decide_eq_false_iff_not, Bool.not_eq_true', Bool.not_eq_false', Bool.not_true, Bool.not_false]; first | assumption | omega)))) | ((with_reducible apply AW.condF); exact rfl; (focus ((simp only [decide_eq_true_eq, decide_eq_false_iff_not, Bool.not_eq_true', Bool.not_eq_false', Bool.not_true, Bool.not_false]; first | assumption | omega))))))
          exact ⟨_, [(0, .int .i64 n), (1, v), (6, .int .i64 X), (7, .int .i64 (t : Nat)), (8, .int .i64 A), (9, .int .i64 (B + 1)), (10, .int .i64 M), (11, .int .i64 (F + (n - x))), (25, v), (26, .int .i64 (l.length : Nat)), (27, .int .i64 (i + 1 : Nat))], [], by omega, (Or.inl ⟨rfl, (by repeat (first | exact trivial | (refine And.intro rfl ?_)))⟩), i + 1, rfl, by omega, rfl, by rw [eA, eB, eM, eF]⟩
        · by_cases d3 : l.getD i 0 ≥ t
          · have gA : flA (fun i => l.getD i 0) n t i = 0 := by simp only [flA, if_neg d1]
            have gB : flB (fun i => l.getD i 0) n t i = 0 := by simp only [flB, if_neg d1, if_neg d2]
            have gM : flM (fun i => l.getD i 0) n t i = l.getD i 0 := by simp only [flM, if_neg d1, if_neg d2, if_pos d3]
            have gF : flF (fun i => l.getD i 0) n t i = 0 := by simp only [flF, if_neg d1, if_neg d2]
            rw [gA, Int.add_zero] at eA
            rw [gB, Int.add_zero] at eB
            rw [gM] at eM
            rw [gF, Int.add_zero] at eF
            generalize l.getD i 0 = x at *
            generalize sm (flA (fun i => l.getD i 0) n t) i = A at *
            generalize sm (flB (fun i => l.getD i 0) n t) i = B at *
            generalize sm (flM (fun i => l.getD i 0) n t) i = M at *
            generalize sm (flF (fun i => l.getD i 0) n t) i = F at *
            (repeat (first | (with_reducible refine AWo.cons ?_) | ((with_reducible refine Step.id ?_); first | ((with_reducible apply Step.move); exact rfl; exact rfl) | ((with_reducible apply Step.assign); exact rfl; exact rfl) | ((with_reducible apply Step.load); exact rfl; (focus (decide +kernel)); exact rfl; (focus (exact Rd.old _ (by assumption)))) | ((with_reducible apply Step.ix1); exact rfl; (focus (assumption)); exact rfl; (focus (decide +kernel)); exact rfl; (focus (omega))) | ((with_reducible apply Step.add); exact rfl; exact rfl; (focus (omega)); exact rfl) | ((with_reducible apply Step.sub); exact rfl; exact rfl; (focus (omega)); exact rfl) | ((with_reducible apply Step.mul); exact rfl; exact rfl; (focus (omega)); exact rfl) | ((with_reducible apply Step.lss); exact rfl; exact rfl; exact rfl) | ((with_reducible apply Step.gtr); exact rfl; exact rfl; exact rfl) | ((with_reducible apply Step.geq); exact rfl; exact rfl; exact rfl)) | (with_reducible refine AWo.nil ?_) | ((with_reducible apply AW.seq)) | ((with_reducible apply Then.n)) | ((with_reducible apply AW.regL)) | ((with_reducible apply AW.block)) | ((with_reducible apply InBlk.n)) | ((with_reducible apply AW.skip)) | ((with_reducible apply AW.condT); exact rfl; (focus ((simp only [decide_eq_true_eq, decide_eq_false_iff_not, Bool.not_eq_true', Bool.not_eq_false', Bool.not_true, Bool.not_false]; first | assumption | omega)))) | ((with_reducible apply AW.condF); exact rfl; (focus ((simp only [decide_eq_true_eq, decide_eq_false_iff_not, Bool.not_eq_true', Bool.not_eq_false', Bool.not_true, Bool.not_false]; first | assumption | omega))))))
            exact ⟨_, [(0, .int .i64 n), (1, v), (6, .int .i64 X), (7, .int .i64 (t : Nat)), (8, .int .i64 A), (9, .int .i64 B), (10, .int .i64 (M + x)), (11, .int .i64 F), (25, v), (26, .int .i64 (l.length : Nat)), (27, .int .i64 (i + 1 : Nat))], [], by omega, (Or.inl ⟨rfl, (by repeat (first | exact trivial | (refine And.intro rfl ?_)))⟩), i + 1, rfl, by omega, rfl, by rw [eA, eB, eM, eF]⟩
          · have gA : flA (fun i => l.getD i 0) n t i = 0 := by simp only [flA, if_neg d1]
            have gB : flB (fun i => l.getD i 0) n t i = 0 := by simp only [flB, if_neg d1, if_neg d2]
            have gM : flM (fun i => l.getD i 0) n t i = 0 := by simp only [flM, if_neg d1, if_neg d2, if_neg d3]
            have gF : flF (fun i => l.getD i 0) n t i = 0 := by simp only [flF, if_neg d1, if_neg d2]
            rw [gA, Int.add_zero] at eA
            rw [gB, Int.add_zero] at eB
            rw [gM, Int.add_zero] at eM
            rw [gF, Int.add_zero] at eF
            generalize l.getD i 0 = x at *
            generalize sm (flA (fun i => l.getD i 0) n t) i = A at *
            generalize sm (flB (fun i => l.getD i 0) n t) i = B at *
            generalize sm (flM (fun i => l.getD i 0) n t) i = M at *
            generalize sm (flF (fun i => l.getD i 0) n t) i = F at *
            (repeat (first | (with_reducible refine AWo.cons ?_) | ((with_reducible refine Step.id ?_); first | ((with_reducible apply Step.move); exact rfl; exact rfl) | ((with_reducible apply Step.assign); exact rfl; exact rfl) | ((with_reducible apply Step.load); exact rfl; (focus (decide +kernel)); exact rfl; (focus (exact Rd.old _ (by assumption)))) | ((with_reducible apply Step.ix1); exact rfl; (focus (assumption)); exact rfl; (focus (decide +kernel)); exact rfl; (focus (omega))) | ((with_reducible apply Step.add); exact rfl; exact rfl; (focus (omega)); exact rfl) | ((with_reducible apply Step.sub); exact rfl; exact rfl; (focus (omega)); exact rfl) | ((with_reducible apply Step.mul); exact rfl; exact rfl; (focus (omega)); exact rfl) | ((with_reducible apply Step.lss); exact rfl; exact rfl; exact rfl) | ((with_reducible apply Step.gtr); exact rfl; exact rfl; exact rfl) | ((with_reducible apply Step.geq); exact rfl; exact rfl; exact rfl)) | (with_reducible refine AWo.nil ?_) | ((with_reducible apply AW.seq)) | ((with_reducible apply Then.n)) | ((with_reducible apply AW.regL)) | ((with_reducible apply AW.block)) | ((with_reducible apply InBlk.n)) | ((with_reducible apply AW.skip)) | ((with_reducible apply AW.condT); exact rfl; (focus ((simp only [decide_eq_true_eq, decide_eq_false_iff_not, Bool.not_eq_true', Bool.not_eq_false', Bool.not_true, Bool.not_false]; first | assumption | omega)))) | ((with_reducible apply AW.condF); exact rfl; (focus ((simp only [decide_eq_true_eq, decide_eq_false_iff_not, Bool.not_eq_true', Bool.not_eq_false', Bool.not_true, Bool.not_false]; first | assumption | omega))))))
            exact ⟨_, [(0, .int .i64 n), (1, v), (6, .int .i64 X), (7, .int .i64 (t : Nat)), (8, .int .i64 A), (9, .int .i64 B), (10, .int .i64 M), (11, .int .i64 F), (25, v), (26, .int .i64 (l.length : Nat)), (27, .int .i64 (i + 1 : Nat))], [], by omega, (Or.inl ⟨rfl, (by repeat (first | exact trivial | (refine And.intro rfl ?_)))⟩), i + 1, rfl, by omega, rfl, by rw [eA, eB, eM, eF]⟩
    · obtain rfl : i = l.length := by omega
      have eT : flT n l t = sm (flA (fun i => l.getD i 0) n t) l.length + sm (flB (fun i => l.getD i 0) n t) l.length + flC (fun i => l.getD i 0) n t l.length := rfl
      by_cases d : sm (flM (fun i => l.getD i 0) n t) l.length > sm (flF (fun i => l.getD i 0) n t) l.length
      · have eC : flC (fun i => l.getD i 0) n t l.length = (sm (flM (fun i => l.getD i 0) n t) l.length - sm (flF (fun i => l.getD i 0) n t) l.length + n - 1) / n := by simp only [flC, if_pos d]
        rw [eC] at eT
        have hC0 : 0 ≤ (sm (flM (fun i => l.getD i 0) n t) l.length - sm (flF (fun i => l.getD i 0) n t) l.length + n - 1) / n := Int.ediv_nonneg (by omega) (by omega)
        have hC1 := Int.ediv_le_self (a := sm (flM (fun i => l.getD i 0) n t) l.length - sm (flF (fun i => l.getD i 0) n t) l.length + n - 1) n (by omega)
        generalize sm (flA (fun i => l.getD i 0) n t) l.length = A at *
        generalize sm (flB (fun i => l.getD i 0) n t) l.length = B at *
        generalize sm (flM (fun i => l.getD i 0) n t) l.length = M at *
        generalize sm (flF (fun i => l.getD i 0) n t) l.length = F at *
        (repeat (first | (with_reducible refine AWo.cons ?_) | ((with_reducible refine Step.id ?_); first | ((with_reducible apply Step.move); exact rfl; exact rfl) | ((with_reducible apply Step.assign); exact rfl; exact rfl) | ((with_reducible apply Step.add); exact rfl; exact rfl; (focus (omega)); exact rfl) | ((with_reducible apply Step.sub); exact rfl; exact rfl; (focus (omega)); exact rfl) | ((with_reducible apply Step.lss); exact rfl; exact rfl; exact rfl) | ((with_reducible apply Step.gtr); exact rfl; exact rfl; exact rfl) | ((with_reducible apply Step.quo); exact rfl; exact rfl; (focus (omega)); (focus (omega)); exact rfl) | ((with_reducible apply Step.max); exact rfl; exact rfl; exact rfl)) | (with_reducible refine AWo.nil ?_) | ((with_reducible apply AW.seq)) | ((with_reducible apply Then.n)) | ((with_reducible apply AW.regL)) | ((with_reducible apply AW.exit)) | ((with_reducible apply InBlk.n)) | ((with_reducible apply InBlk.hit)) | ((with_reducible apply Then.e)) | ((with_reducible apply AW.condT); exact rfl; (focus ((simp only [decide_eq_true_eq, decide_eq_false_iff_not, Bool.not_eq_true', Bool.not_eq_false', Bool.not_true, Bool.not_false]; first | assumption | omega)))) | ((with_reducible apply AW.condF); exact rfl; (focus ((simp only [decide_eq_true_eq, decide_eq_false_iff_not, Bool.not_eq_true', Bool.not_eq_false', Bool.not_true, Bool.not_false]; first | assumption | omega))))))
        exact ⟨_, [(0, .int .i64 n), (1, v), (6, .int .i64 (Max.max X (A + B + (M - F + n - 1) / n))), (7, .int .i64 (t + 1 : Nat))], [], by omega, (Or.inl ⟨rfl, (by repeat (first | exact trivial | (refine And.intro rfl ?_)))⟩), t + 1, rfl, by omega, rfl, by rw [hX2, eT]⟩
      · have eC : flC (fun i => l.getD i 0) n t l.length = 0 := by simp only [flC, if_neg d]
        rw [eC] at eT
        generalize sm (flA (fun i => l.getD i 0) n t) l.length = A at *
        generalize sm (flB (fun i => l.getD i 0) n t) l.length = B at *
        generalize sm (flM (fun i => l.getD i 0) n t) l.length = M at *
        generalize sm (flF (fun i => l.getD i 0) n t) l.length = F at *
        (repeat (first | (with_reducible refine AWo.cons ?_) | ((with_reducible refine Step.id ?_); first | ((with_reducible apply Step.move); exact rfl; exact rfl) | ((with_reducible apply Step.assign); exact rfl; exact rfl) | ((with_reducible apply Step.add); exact rfl; exact rfl; (focus (omega)); exact rfl) | ((with_reducible apply Step.lss); exact rfl; exact rfl; exact rfl) | ((with_reducible apply Step.gtr); exact rfl; exact rfl; exact rfl) | ((with_reducible apply Step.max); exact rfl; exact rfl; exact rfl)) | (with_reducible refine AWo.nil ?_) | ((with_reducible apply AW.seq)) | ((with_reducible apply Then.n)) | ((with_reducible apply AW.regL)) | ((with_reducible apply AW.exit)) | ((with_reducible apply InBlk.n)) | ((with_reducible apply InBlk.hit)) | ((with_reducible apply Then.e)) | ((with_reducible apply AW.skip)) | ((with_reducible apply AW.condF); exact rfl; (focus ((simp only [decide_eq_true_eq, decide_eq_false_iff_not, Bool.not_eq_true', Bool.not_eq_false', Bool.not_true, Bool.not_false]; first | assumption | omega))))))
        exact ⟨_, [(0, .int .i64 n), (1, v), (6, .int .i64 (Max.max X (A + B + 0))), (7, .int .i64 (t + 1 : Nat))], [], by omega, (Or.inl ⟨rfl, (by repeat (first | exact trivial | (refine And.intro rfl ?_)))⟩), t + 1, rfl, by omega, rfl, by rw [hX2, eT]⟩
  · obtain rfl : t = (n / 2 + 1).toNat := by omega
    (repeat (first | (with_reducible refine AWo.cons ?_) | ((with_reducible refine Step.id ?_); first | ((with_reducible apply Step.move); exact rfl; exact rfl) | ((with_reducible apply Step.assign); exact rfl; exact rfl) | ((with_reducible apply Step.leq); exact rfl; exact rfl; exact rfl) | ((with_reducible apply Step.quo); exact rfl; exact rfl; (focus (omega)); (focus (omega)); exact rfl)) | (with_reducible refine AWo.nil ?_) | ((with_reducible apply AW.seq)) | ((with_reducible apply Then.n)) | ((with_reducible apply AW.regL)) | ((with_reducible apply AW.exit)) | ((with_reducible apply InBlk.hit)) | ((with_reducible apply Then.e)) | ((with_reducible apply AW.condF); exact rfl; (focus ((simp only [decide_eq_true_eq, decide_eq_false_iff_not, Bool.not_eq_true', Bool.not_eq_false', Bool.not_true, Bool.not_false]; first | assumption | omega))))))
    (refine AW.retD (l := [(4, _), (5, _)]) (by repeat (first | exact trivial | (refine And.intro ⟨rfl, by (exact .int _ _)⟩ ?_))) ?_; (repeat (first | refine Then.r ?_ | refine InBlk.r ?_)))
    exact ⟨_, rfl, rfl, rfl⟩
end Go.Proofs.YtibhgdglbillaaaDoor.Abs
namespace Go.Proofs.YtibhgdglbillaaaDoor.Abs
set_option linter.unusedSimpArgs false
set_option linter.unusedVariables false
open Go.RowKit
open Go.Proofs.YtibhgdglbillaaaDoor.Sim
open Go.Proofs
/-- A comparison that reads the row's memory, whatever the row is. -/
structure CmpOk (m : AM) (r s : Nat) (kd : Kind) (c : Int → Int → Int) (p : Int → Prop) (g : FuncId) (cap : Array Value) : Prop where
  hr : r < m.length
  hkd : kd.solid = true
  call : ∀ l x y, p x → p y → ACall Tryd.prog g (#[] ++ #[.int .i64 x, .int .i64 y] ++ cap) (St m r kd s l) (Ret (.int .i64 (c x y)) (St m r kd s l))
section
variable {m : AM} {r s : Nat} {kd : Kind} {le : Int → Int → Bool} {c : Int → Int → Int} {p : Int → Prop} {g : FuncId} {cap : Array Value} {fn : Func} {bd : Code}
/-- Of two places the comparison answers as the order does. -/
def Cross (le : Int → Int → Bool) (c : Int → Int → Int) (x y : Int) : Prop := c y x < 0 ↔ le x y = false
set_option maxRecDepth 100000 in
theorem f123_ok (hC : CmpOk m r s kd c p g cap) (hT : TO le) (hf : Tryd.prog.funcs[g]? = some fn) (hb : fn.body = some bd) (a b n : Nat) (pre A post : List Int) (ha : pre.length = a) (hab : a + A.length = b) (hn : (pre ++ A ++ post).length = n) (hlim : n ≤ 1000000)
    (hp : ∀ x ∈ A, p x) (hX : A.Pairwise (Cross le c)) :
    ACall Tryd.prog 123 #[.slice (some ⟨r, 0, none⟩) n n, .int .i64 (a : Nat), .int .i64 (b : Nat), .func (.func g) #[] cap] (St m r kd s (pre ++ A ++ post)) (Ret (.tuple #[]) (St m r kd s (pre ++ ms le A ++ post))) := by
  have hr := hC.hr; have hkd := hC.hkd
  have hlen : pre.length + A.length + post.length = n := by rw [← hn]; simp; omega
  refine ACall.intro Tryd.func123 rfl (Nat.le_of_ble_eq_true rfl) ?_
  (repeat (first | (with_reducible refine AWo.cons ?_) | ((with_reducible refine Step.id ?_); first | ((with_reducible apply Step.move); exact rfl; exact rfl) | ((with_reducible apply Step.assign); exact rfl; exact rfl) | ((with_reducible apply Step.add); exact rfl; exact rfl; (focus (omega)); exact rfl)) | (with_reducible refine AWo.nil ?_) | ((with_reducible apply AW.seq)) | ((with_reducible apply Then.n)) | ((with_reducible apply AW.regL)) | ((with_reducible apply AW.block))))
  refine AW.loopW (fun k t M => ∃ q, k = A.length - q ∧ 1 ≤ q ∧ q ≤ max 1 A.length ∧ t = fr [(0, .slice (some ⟨r, 0, none⟩) n n), (1, .int .i64 (a : Nat)), (2, .int .i64 (b : Nat)), (3, .func (.func g) #[] cap), (8, .int .i64 ((a + q : Nat) : Int))] ∧
    M = St m r kd s (pre ++ ms le (A.take q) ++ (A.drop q ++ post))) ⟨_, _, (by repeat (first | exact trivial | (refine And.intro rfl ?_))), 1, rfl, Nat.le_refl _, by omega, rfl, ?_⟩ ?_
  · cases A with
    | nil => simp [ms]
    | cons x l => simp [ms]
  rintro k t M ⟨q, rfl, hq1, hq, rfl, rfl⟩
  rcases Nat.lt_or_ge q A.length with hlt | hge
  · obtain ⟨x, hx⟩ : ∃ x, x = A.getD q 0 := ⟨_, rfl⟩
    have hdrop : A.drop q = x :: A.drop (q + 1) := by
      rw [List.drop_eq_getElem_cons hlt, hx]; simp [hlt]
    have htake : A.take (q + 1) = A.take q ++ [x] := by
      rw [List.take_succ_eq_append_getElem hlt, hx]; simp [hlt]
    have hxA : x ∈ A := by rw [hx]; simp [hlt]
    have hcr : ∀ z ∈ A.take q, c x z < 0 ↔ le z x = false := fun z hz => by
      rw [← List.take_append_drop q A, hdrop] at hX
      exact (List.pairwise_append.1 hX).2.2 z hz x (by simp)
    have hmem : ∀ z ∈ A.take q, z ∈ A := fun z hz => List.mem_of_mem_take hz
    have hsl : (ms le (A.take q)).length = q := by rw [ms_len]; simp; omega
    rw [hdrop]
    generalize hR : A.drop (q + 1) = R
    have hRl : R.length = A.length - (q + 1) := by rw [← hR]; simp
    have hgoal : ms le (A.take q ++ [x]) = ms le (A.take (q + 1)) := by rw [htake]
    generalize hS : A.take q = S at *
    have hSl : S.length = q := by rw [← hS]; simp; omega
    (repeat (first | (with_reducible refine AWo.cons ?_) | ((with_reducible refine Step.id ?_); first | ((with_reducible apply Step.move); exact rfl; exact rfl) | ((with_reducible apply Step.assign); exact rfl; exact rfl) | ((with_reducible apply Step.lss); exact rfl; exact rfl; exact rfl)) | (with_reducible refine AWo.nil ?_) | ((with_reducible apply AW.seq)) | ((with_reducible apply Then.n)) | ((with_reducible apply AW.regL)) | ((with_reducible apply AW.block)) | ((with_reducible apply AW.skip)) | ((with_reducible apply AW.condT); exact rfl; (focus ((simp only [decide_eq_true_eq, decide_eq_false_iff_not, Bool.not_eq_true', Bool.not_eq_false', Bool.not_true, Bool.not_false]; first | assumption | omega))))))
    refine AW.loopW (fun k t M => ∃ (S1 S2 : List Int) (j : Nat), k = S1.length ∧ j = a + S1.length ∧ ms le S = S1 ++ S2 ∧ (∀ z ∈ S2, le x z = true) ∧ t = fr [(0, .slice (some ⟨r, 0, none⟩) n n), (1, .int .i64 (a : Nat)), (2, .int .i64 (b : Nat)), (3, .func (.func g) #[] cap), (8, .int .i64 ((a + q : Nat) : Int)), (9, .int .i64 ((j : Nat) : Int))] ∧
      M = St m r kd s (pre ++ S1 ++ x :: S2 ++ (R ++ post))) ⟨_, _, (by repeat (first | exact trivial | (refine And.intro rfl ?_))), ms le S, [], a + q, rfl, by rw [hsl], by simp, by simp, rfl, ?_⟩ ?_
    · have hq0 : ms le S ++ x :: R ++ post = ms le S ++ [] ++ x :: R ++ post := by simp
      simp
    rintro k t M ⟨S1, S2, j, rfl, rfl, hms, hS2, rfl, rfl⟩
    have hl2 : S1.length + S2.length = q := by rw [← List.length_append, ← hms, hsl]
    rcases List.eq_nil_or_concat S1 with rfl | ⟨S1', z, rfl⟩
    · (repeat (first | (with_reducible refine AWo.cons ?_) | ((with_reducible refine Step.id ?_); first | ((with_reducible apply Step.gdF); exact rfl; exact rfl; (focus ((simp; done)))) | ((with_reducible apply Step.move); exact rfl; exact rfl) | ((with_reducible apply Step.assign); exact rfl; exact rfl) | ((with_reducible apply Step.add); exact rfl; exact rfl; (focus (omega)); exact rfl) | ((with_reducible apply Step.gtr); exact rfl; exact rfl; exact rfl) | ((with_reducible apply Step.pickF); exact rfl; exact rfl; exact rfl; exact rfl; (focus ((simp; done))))) | (with_reducible refine AWo.nil ?_) | ((with_reducible apply AW.seq)) | ((with_reducible apply Then.n)) | ((with_reducible apply AW.regL)) | ((with_reducible apply AW.drawL fit); (focus (decide +kernel))) | ((with_reducible apply AW.exit)) | ((with_reducible apply InBlk.n)) | ((with_reducible apply InBlk.hit)) | ((with_reducible apply Then.e)) | ((with_reducible apply AW.condF); exact rfl; (focus (rfl)))))
      refine ⟨_, _, ?_, (by repeat (first | exact trivial | (refine And.intro rfl ?_))), q + 1, rfl, by omega, by omega, rfl, ?_⟩
      · omega
      · have := ms_one (l := S) hT (S1 := []) (S2 := S2) (by rw [← hms]; exact ms_srt hT) (by simp) hS2 (by rw [← hms]; exact ms_perm)
        rw [← hgoal, this, hR]
        simp
    · have hz : z ∈ S := by rw [← ms_mem (le := le), hms]; simp
      have hcz := hcr z hz
      simp only [List.concat_eq_append] at hms hl2 ⊢
      have e1 : pre ++ (S1' ++ [z]) ++ x :: S2 ++ (R ++ post) = (pre ++ S1') ++ z :: x :: (S2 ++ (R ++ post)) := by simp
      rw [e1]
      have hl3 : S1'.length + 1 + S2.length = q := by simpa using hl2
      have hsw := swp_adj (p := pre ++ S1') (q := S2 ++ (R ++ post)) (x := z) (y := x) (i := a + S1'.length) (by simp [ha])
      have hg1 : ((pre ++ S1') ++ z :: x :: (S2 ++ (R ++ post))).getD (a + S1'.length) 0 = z := by rw [getD_r (j := 0) (by simp [ha])]; simp
      have hg2 : ((pre ++ S1') ++ z :: x :: (S2 ++ (R ++ post))).getD (a + S1'.length + 1) 0 = x := by rw [getD_r (j := 1) (by simp only [List.length_append]; omega)]; simp
      have hll : ((pre ++ S1') ++ z :: x :: (S2 ++ (R ++ post))).length = n := by simp only [List.length_append, List.length_cons]; omega
      have hlen1 : (S1' ++ [z]).length = S1'.length + 1 := by simp
      generalize hrow : ((pre ++ S1') ++ z :: x :: (S2 ++ (R ++ post))) = row at *
      rw [hlen1]
      have r1 : Rd (St m r kd s row) r (a + S1'.length) (.int .i64 z) := by rw [← hg1]; exact St.rd hr (by omega)
      have r2 : Rd (St m r kd s row) r (a + S1'.length + 1) (.int .i64 x) := by rw [← hg2]; exact St.rd hr (by omega)
      have e2 : ((a + (S1'.length + 1) : Nat) : Int) - 1 = ((a + S1'.length : Nat) : Int) := by omega
      have hc := hC.call row x z (hp x hxA) (hp z (hmem z hz))
      by_cases hlt2 : c x z < 0
      · (repeat (first | (with_reducible refine AWo.cons ?_) | ((with_reducible refine Step.id ?_); first | ((with_reducible apply Step.gdT); exact rfl; exact rfl; (focus ((simp only [decide_eq_true_eq, decide_eq_false_iff_not, Bool.not_eq_true', Bool.not_eq_false', Bool.not_true, Bool.not_false]; first | assumption | omega)))) | ((with_reducible apply Step.move); exact rfl; exact rfl) | ((with_reducible apply Step.assign); exact rfl; exact rfl) | ((with_reducible apply Step.load); exact rfl; (focus (decide +kernel)); exact rfl; (focus (assumption))) | ((with_reducible apply Step.ix1z); exact rfl; (focus (exact Sl.mk (by omega))); exact rfl; (focus (decide +kernel)); exact rfl; (focus (omega))) | ((with_reducible apply Step.subE); exact rfl; exact rfl; (focus (assumption)); (focus (omega)); exact rfl) | ((with_reducible apply Step.lss); exact rfl; exact rfl; exact rfl) | ((with_reducible apply Step.gtr); exact rfl; exact rfl; exact rfl) | ((with_reducible apply Step.pickT); exact rfl; exact rfl; exact rfl; exact rfl; (focus ((simp only [decide_eq_true_eq, decide_eq_false_iff_not, Bool.not_eq_true', Bool.not_eq_false', Bool.not_true, Bool.not_false]; first | assumption | omega)))) | ((with_reducible apply Step.callV fit); exact rfl; exact rfl; exact hf; exact hb; exact rfl; exact (hc)) | ((with_reducible apply Step.storeR); exact rfl; exact rfl; (focus (decide +kernel)); exact hr; exact hkd; (focus (first | omega | (simp [swp, ms_len]; omega))); exact rfl)) | (with_reducible refine AWo.nil ?_) | ((with_reducible apply AW.seq)) | ((with_reducible apply Then.n)) | ((with_reducible apply AW.regL)) | ((with_reducible apply AW.block)) | ((with_reducible apply AW.drawL fit); (focus (decide +kernel))) | ((with_reducible apply InBlk.n)) | ((with_reducible apply AW.skip)) | ((with_reducible apply AW.condT); exact rfl; (focus ((simp only [decide_eq_true_eq, decide_eq_false_iff_not, Bool.not_eq_true', Bool.not_eq_false', Bool.not_true, Bool.not_false]; first | assumption | omega))))))
        have hxz : le x z = true := hT.of_not ((hcr z hz).1 hlt2)
        refine ⟨_, _, ?_, (by repeat (first | exact trivial | (refine And.intro rfl ?_))), S1', z :: S2, a + S1'.length, rfl, rfl, by rw [hms]; simp, fun y hy => ?_, rfl, ?_⟩
        · omega
        · rcases List.mem_cons.1 hy with rfl | hy
          · exact hxz
          · exact hS2 y hy
        · have : (row.set (a + (S1'.length + 1)) z).set (a + S1'.length) x = swp row (a + S1'.length) (a + S1'.length + 1) := by
            rw [swp_comm _ _ _ (by omega), swp, hg1, hg2]; rfl
          rw [this, hsw]
          simp
      · (repeat (first | (with_reducible refine AWo.cons ?_) | ((with_reducible refine Step.id ?_); first | ((with_reducible apply Step.gdT); exact rfl; exact rfl; (focus ((simp only [decide_eq_true_eq, decide_eq_false_iff_not, Bool.not_eq_true', Bool.not_eq_false', Bool.not_true, Bool.not_false]; first | assumption | omega)))) | ((with_reducible apply Step.move); exact rfl; exact rfl) | ((with_reducible apply Step.assign); exact rfl; exact rfl) | ((with_reducible apply Step.load); exact rfl; (focus (decide +kernel)); exact rfl; (focus (assumption))) | ((with_reducible apply Step.ix1z); exact rfl; (focus (exact Sl.mk (by omega))); exact rfl; (focus (decide +kernel)); exact rfl; (focus (omega))) | ((with_reducible apply Step.subE); exact rfl; exact rfl; (focus (assumption)); (focus (omega)); exact rfl) | ((with_reducible apply Step.add); exact rfl; exact rfl; (focus (omega)); exact rfl) | ((with_reducible apply Step.lss); exact rfl; exact rfl; exact rfl) | ((with_reducible apply Step.gtr); exact rfl; exact rfl; exact rfl) | ((with_reducible apply Step.pickT); exact rfl; exact rfl; exact rfl; exact rfl; (focus ((simp only [decide_eq_true_eq, decide_eq_false_iff_not, Bool.not_eq_true', Bool.not_eq_false', Bool.not_true, Bool.not_false]; first | assumption | omega)))) | ((with_reducible apply Step.callV fit); exact rfl; exact rfl; exact hf; exact hb; exact rfl; exact (hc))) | (with_reducible refine AWo.nil ?_) | ((with_reducible apply AW.seq)) | ((with_reducible apply Then.n)) | ((with_reducible apply AW.regL)) | ((with_reducible apply AW.drawL fit); (focus (decide +kernel))) | ((with_reducible apply AW.exit)) | ((with_reducible apply InBlk.n)) | ((with_reducible apply InBlk.hit)) | ((with_reducible apply Then.e)) | ((with_reducible apply AW.condF); exact rfl; (focus ((simp only [decide_eq_true_eq, decide_eq_false_iff_not, Bool.not_eq_true', Bool.not_eq_false', Bool.not_true, Bool.not_false]; first | assumption | omega))))))
        have hzx : le z x = true := by
          cases hq : le z x with
          | true => rfl
          | false => exact absurd ((hcr z hz).2 hq) hlt2
        refine ⟨_, _, ?_, (by repeat (first | exact trivial | (refine And.intro rfl ?_))), q + 1, rfl, by omega, by omega, rfl, ?_⟩
        · omega
        · have hs := ms_srt (l := S) hT
          rw [hms] at hs
          have := ms_one (l := S) hT hs (fun y hy => by
            rcases List.mem_append.1 hy with hy | hy
            · exact hT.tr _ _ _ ((List.pairwise_append.1 (List.pairwise_append.1 hs).1).2.2 y hy z (by simp)) hzx
            · simp at hy; subst hy; exact hzx) hS2 (by rw [← hms]; exact ms_perm)
          rw [← hgoal, this, hR, ← hrow]
          simp
  · (repeat (first | (with_reducible refine AWo.cons ?_) | ((with_reducible refine Step.id ?_); first | ((with_reducible apply Step.move); exact rfl; exact rfl) | ((with_reducible apply Step.lss); exact rfl; exact rfl; exact rfl)) | (with_reducible refine AWo.nil ?_) | ((with_reducible apply AW.seq)) | ((with_reducible apply Then.n)) | ((with_reducible apply AW.regL)) | ((with_reducible apply AW.exit)) | ((with_reducible apply InBlk.hit)) | ((with_reducible apply Then.e)) | ((with_reducible apply AW.condF); exact rfl; (focus ((simp only [decide_eq_true_eq, decide_eq_false_iff_not, Bool.not_eq_true', Bool.not_eq_false', Bool.not_true, Bool.not_false]; first | assumption | omega))))))
    refine ⟨_, rfl, rfl, ?_⟩
    rw [List.take_of_length_le (by omega), List.drop_eq_nil_of_le (by omega)]
    simp
set_option maxRecDepth 100000 in
theorem f115_ok (hC : CmpOk m r s kd c p g cap) (hT : TO le) (hf : Tryd.prog.funcs[g]? = some fn) (hb : fn.body = some bd) (n : Nat) (l : List Int) (hl : l.length = n) (hn : n ≤ 19) (hp : ∀ x ∈ l, p x) (hX : l.Pairwise (Cross le c)) :
    ACall Tryd.prog 115 #[.slice (some ⟨r, 0, none⟩) n n, .int .i64 (n : Nat), .func (.func g) #[] cap] (St m r kd s l) (Ret (.tuple #[]) (St m r kd s (ms le l))) := by
  have hr := hC.hr; have hkd := hC.hkd
  have i2 : ACall Tryd.prog 123 #[.slice (some ⟨r, 0, none⟩) n n, .int .i64 ((0 : Nat) : Int), .int .i64 (n : Nat), .func (.func g) #[] cap] (St m r kd s l) (Ret (.tuple #[]) (St m r kd s (ms le l))) := by
    have := f123_ok hC hT hf hb 0 n n [] l [] rfl (by omega) (by simp; omega) (by omega) hp hX
    simpa only [List.nil_append, List.append_nil] using this
  refine ACall.intro Tryd.func115 rfl (Nat.le_of_ble_eq_true rfl) ?_
  (repeat (first | (with_reducible refine AWo.cons ?_) | ((with_reducible refine Step.id ?_); first | ((with_reducible apply Step.move); exact rfl; exact rfl) | ((with_reducible apply Step.assign); exact rfl; exact rfl)) | (with_reducible refine AWo.nil ?_) | ((with_reducible apply AW.seq)) | ((with_reducible apply Then.n)) | ((with_reducible apply AW.regL)) | ((with_reducible apply AW.block))))
  refine AW.loopW (fun u t M => u = 0 ∧ t = fr [(0, .slice (some ⟨r, 0, none⟩) n n), (1, .int .i64 (n : Nat)), (2, .func (.func g) #[] cap), (6, .int .i64 20), (7, .int .i64 0), (8, .int .i64 20)] ∧ M = St m r kd s l) ⟨_, _, (by repeat (first | exact trivial | (refine And.intro rfl ?_))), rfl, rfl, rfl⟩ ?_
  rintro u t M ⟨rfl, rfl, rfl⟩
  (repeat (first | (with_reducible refine AWo.cons ?_) | ((with_reducible refine Step.id ?_); first | ((with_reducible apply Step.move); exact rfl; exact rfl) | ((with_reducible apply Step.leq); exact rfl; exact rfl; exact rfl) | ((with_reducible apply Step.callM fit); exact rfl; exact Tryd.func123; exact rfl; exact rfl; exact (i2))) | (with_reducible refine AWo.nil ?_) | ((with_reducible apply AW.seq)) | ((with_reducible apply Then.n)) | ((with_reducible apply AW.regL)) | ((with_reducible apply AW.block)) | ((with_reducible apply AW.exit)) | ((with_reducible apply InBlk.hit)) | ((with_reducible apply Then.e)) | ((with_reducible apply AW.condF); exact rfl; (focus ((simp only [decide_eq_true_eq, decide_eq_false_iff_not, Bool.not_eq_true', Bool.not_eq_false', Bool.not_true, Bool.not_false]; first | assumption | omega))))))
  refine AW.loopW (fun u t M => u = 0 ∧ t = fr [(0, .slice (some ⟨r, 0, none⟩) n n), (1, .int .i64 (n : Nat)), (2, .func (.func g) #[] cap), (6, .int .i64 20)] ∧ M = St m r kd s (ms le l)) ⟨_, _, (by repeat (first | exact trivial | (refine And.intro rfl ?_))), rfl, rfl, rfl⟩ ?_
  rintro u t M ⟨rfl, rfl, rfl⟩
  (repeat (first | (with_reducible refine AWo.cons ?_) | ((with_reducible refine Step.id ?_); first | ((with_reducible apply Step.move); exact rfl; exact rfl) | ((with_reducible apply Step.lss); exact rfl; exact rfl; exact rfl)) | (with_reducible refine AWo.nil ?_) | ((with_reducible apply AW.seq)) | ((with_reducible apply Then.n)) | ((with_reducible apply AW.regL)) | ((with_reducible apply AW.exit)) | ((with_reducible apply InBlk.hit)) | ((with_reducible apply Then.e)) | ((with_reducible apply AW.condF); exact rfl; (focus ((simp only [decide_eq_true_eq, decide_eq_false_iff_not, Bool.not_eq_true', Bool.not_eq_false', Bool.not_true, Bool.not_false]; first | assumption | omega))))))
  exact ⟨_, rfl, rfl, rfl⟩
set_option maxRecDepth 100000 in
theorem stable_ok (hC : CmpOk m r s kd c p g cap) (hT : TO le) (hf : Tryd.prog.funcs[g]? = some fn) (hb : fn.body = some bd) (n : Nat) (l : List Int) (hl : l.length = n) (hn : n ≤ 19) (hp : ∀ x ∈ l, p x) (hX : l.Pairwise (Cross le c)) :
    ACall Tryd.prog 94 #[.slice (some ⟨r, 0, none⟩) n n, .func (.func g) #[] cap] (St m r kd s l) (Ret (.tuple #[]) (St m r kd s (ms le l))) := by
  refine ACall.intro Tryd.func94 rfl (Nat.le_of_ble_eq_true rfl) ?_
  (repeat (first | (with_reducible refine AWo.cons ?_) | ((with_reducible refine Step.id ?_); first | ((with_reducible apply Step.move); exact rfl; exact rfl) | ((with_reducible apply Step.len); exact rfl; (focus (exact Sl.mk (by omega))); (focus (decide +kernel)); exact rfl) | ((with_reducible apply Step.callM fit); exact rfl; exact Tryd.func115; exact rfl; exact rfl; exact ((f115_ok hC hT hf hb n l hl hn hp hX)))) | (with_reducible refine AWo.nil ?_) | ((with_reducible apply AW.regL))))
  exact ⟨_, rfl, rfl, rfl⟩
end
end Go.Proofs.YtibhgdglbillaaaDoor.Abs
namespace Go.Proofs.YtibhgdglbillaaaDoor.Abs
set_option linter.unusedSimpArgs false
set_option linter.unusedVariables false
open Go.RowKit
open Go.Proofs.YtibhgdglbillaaaDoor.Sim
open Go.Proofs
def cmpI (x y : Int) : Int := if x < y then -1 else if y < x then 1 else 0
set_option maxRecDepth 100000 in
theorem isNaN_ok {m : AM} (x : Int) : ACall Tryd.prog 116 #[.int .i64 x] m (Ret (.bool false) m) := by
  refine ACall.start Tryd.func116 rfl rfl ?_
  (repeat (first | (with_reducible refine AWo.cons ?_) | ((with_reducible refine Step.id ?_); first | ((with_reducible apply Step.move); exact rfl; exact rfl) | ((with_reducible apply Step.assign); exact rfl; exact rfl) | ((with_reducible apply Step.neq); exact rfl; exact rfl; exact rfl)) | (with_reducible refine AWo.nil ?_) | ((with_reducible apply AW.seq)) | ((with_reducible apply Then.n)) | ((with_reducible apply AW.regL))))
  (refine AW.retD (l := [(2, _)]) (by repeat (first | exact trivial | (refine And.intro ⟨rfl, by (exact .bool _)⟩ ?_))) ?_; (repeat (first | refine Then.r ?_ | refine InBlk.r ?_)))
  exact ⟨_, rfl, by simp, rfl⟩
set_option maxRecDepth 100000 in
theorem compare_ok {m : AM} (x y : Int) {r : Int} (hr : cmpI x y = r) : ACall Tryd.prog 96 #[.int .i64 x, .int .i64 y] m (Ret (.int .i64 r) m) := by
  subst hr
  refine ACall.start Tryd.func96 rfl rfl ?_
  by_cases h1 : x < y
  · (repeat (first | (with_reducible refine AWo.cons ?_) | ((with_reducible refine Step.id ?_); first | ((with_reducible apply Step.move); exact rfl; exact rfl) | ((with_reducible apply Step.assign); exact rfl; exact rfl) | ((with_reducible apply Step.lss); exact rfl; exact rfl; exact rfl) | ((with_reducible apply Step.callR fit); exact rfl; exact Tryd.func116; exact rfl; exact rfl; exact (isNaN_ok _))) | (with_reducible refine AWo.nil ?_) | ((with_reducible apply AW.seq)) | ((with_reducible apply Then.n)) | ((with_reducible apply AW.regL)) | ((with_reducible apply AW.skip)) | ((with_reducible apply AW.condT); exact rfl; (focus ((simp only [decide_eq_true_eq, decide_eq_false_iff_not, Bool.not_eq_true', Bool.not_eq_false', Bool.not_true, Bool.not_false]; first | assumption | omega)))) | ((with_reducible apply AW.condF); exact rfl; (focus (rfl)))))
    (refine AW.retD (l := [(4, _)]) (by repeat (first | exact trivial | (refine And.intro ⟨rfl, by (exact .int _ _)⟩ ?_))) ?_; (repeat (first | refine Then.r ?_ | refine InBlk.r ?_)))
    exact ⟨_, rfl, by simp [cmpI, h1], rfl⟩
  · by_cases h2 : y < x
    · (repeat (first | (with_reducible refine AWo.cons ?_) | ((with_reducible refine Step.id ?_); first | ((with_reducible apply Step.move); exact rfl; exact rfl) | ((with_reducible apply Step.assign); exact rfl; exact rfl) | ((with_reducible apply Step.lss); exact rfl; exact rfl; exact rfl) | ((with_reducible apply Step.gtr); exact rfl; exact rfl; exact rfl) | ((with_reducible apply Step.callR fit); exact rfl; exact Tryd.func116; exact rfl; exact rfl; exact (isNaN_ok _))) | (with_reducible refine AWo.nil ?_) | ((with_reducible apply AW.seq)) | ((with_reducible apply Then.n)) | ((with_reducible apply AW.regL)) | ((with_reducible apply AW.skip)) | ((with_reducible apply AW.condT); exact rfl; (focus ((simp only [decide_eq_true_eq, decide_eq_false_iff_not, Bool.not_eq_true', Bool.not_eq_false', Bool.not_true, Bool.not_false]; first | assumption | omega)))) | ((with_reducible apply AW.condF); exact rfl; (focus (first | rfl | (simp only [decide_eq_true_eq, decide_eq_false_iff_not, Bool.not_eq_true', Bool.not_eq_false', Bool.not_true, Bool.not_false]; first | assumption | omega))))))
      (refine AW.retD (l := [(4, _)]) (by repeat (first | exact trivial | (refine And.intro ⟨rfl, by (exact .int _ _)⟩ ?_))) ?_; (repeat (first | refine Then.r ?_ | refine InBlk.r ?_)))
      exact ⟨_, rfl, by simp [cmpI, h1, h2], rfl⟩
    · (repeat (first | (with_reducible refine AWo.cons ?_) | ((with_reducible refine Step.id ?_); first | ((with_reducible apply Step.move); exact rfl; exact rfl) | ((with_reducible apply Step.assign); exact rfl; exact rfl) | ((with_reducible apply Step.lss); exact rfl; exact rfl; exact rfl) | ((with_reducible apply Step.gtr); exact rfl; exact rfl; exact rfl) | ((with_reducible apply Step.callR fit); exact rfl; exact Tryd.func116; exact rfl; exact rfl; exact (isNaN_ok _))) | (with_reducible refine AWo.nil ?_) | ((with_reducible apply AW.seq)) | ((with_reducible apply Then.n)) | ((with_reducible apply AW.regL)) | ((with_reducible apply AW.skip)) | ((with_reducible apply AW.condF); exact rfl; (focus (first | rfl | (simp only [decide_eq_true_eq, decide_eq_false_iff_not, Bool.not_eq_true', Bool.not_eq_false', Bool.not_true, Bool.not_false]; first | assumption | omega))))))
      (refine AW.retD (l := [(4, _)]) (by repeat (first | exact trivial | (refine And.intro ⟨rfl, by (exact .int _ _)⟩ ?_))) ?_; (repeat (first | refine Then.r ?_ | refine InBlk.r ?_)))
      exact ⟨_, rfl, by simp [cmpI, h1, h2], rfl⟩
end Go.Proofs.YtibhgdglbillaaaDoor.Abs
namespace Go.Proofs.YtibhgdglbillaaaDoor.Abs
set_option linter.unusedSimpArgs false
set_option linter.unusedVariables false
open Go.RowKit
open Go.Proofs.YtibhgdglbillaaaDoor.Sim
open Go.Proofs
theorem upI_cross {le : Int → Int → Bool} {c : Int → Int → Int} {n : Nat} (h : ∀ x y : Int, 0 ≤ x → x < y → y < n → Cross le c x y) : (upI n).Pairwise (Cross le c) := by
  unfold upI
  rw [List.pairwise_map]
  refine List.Pairwise.imp_of_mem (fun {a b} ha hb hab => h a b (by omega) (by omega) ?_) (List.pairwise_lt_range)
  have := List.mem_range.1 hb
  omega
def ixI (l : List Int) (c : Int → Int → Int) (a b : Int) : Int := c (l.getD a.toNat 0) (l.getD b.toNat 0)
theorem leL_cross (l : List Int) (x y : Int) (hxy : x < y) : Cross (leL l) (ixI l fun x y => cmpI y x) x y := by
  unfold Cross ixI
  simp only [leL, decide_eq_false_iff_not, cmpI, Int.lt_irrefl, false_or, true_and]
  generalize l.getD x.toNat 0 = X
  generalize l.getD y.toNat 0 = Y
  split
  · omega
  · split <;> omega
set_option maxRecDepth 100000 in
theorem f95_ok {m : AM} {v : Value} {l : List Int} {a1 : Nat} (hl : Ints m v l) (h1 : Rd m a1 0 v) (x y : Int) (hx : 0 ≤ x ∧ x < l.length) (hy : 0 ≤ y ∧ y < l.length) :
    ACall Tryd.prog 95 #[.int .i64 x, .int .i64 y, .pointer (some ⟨a1, 0, none⟩)] m (Ret (.int .i64 (ixI l (fun x y => cmpI y x) x y)) m) := by
  obtain ⟨a, o, k1, k2, k3⟩ := id hl
  obtain ⟨x, rfl⟩ := Int.eq_ofNat_of_zero_le hx.1
  obtain ⟨y, rfl⟩ := Int.eq_ofNat_of_zero_le hy.1
  have r1 := k3 x (by omega)
  have r2 := k3 y (by omega)
  rw [← List.append_nil m] at h1 r1 r2
  refine ACall.start Tryd.func95 rfl rfl ?_
  (repeat (first | (with_reducible refine AWo.cons ?_) | ((with_reducible refine Step.id ?_); first | ((with_reducible apply Step.move); exact rfl; exact rfl) | ((with_reducible apply Step.assign); exact rfl; exact rfl) | ((with_reducible apply Step.load); exact rfl; (focus (decide +kernel)); exact rfl; (focus (assumption))) | ((with_reducible apply Step.ix1); exact rfl; (focus (assumption)); exact rfl; (focus (decide +kernel)); exact rfl; (focus (omega))) | ((with_reducible apply Step.callR fit); exact rfl; exact Tryd.func96; exact rfl; exact rfl; exact (compare_ok _ _ rfl))) | (with_reducible refine AWo.nil ?_) | ((with_reducible apply AW.seq)) | ((with_reducible apply Then.n)) | ((with_reducible apply AW.regL)) | ((with_reducible apply AW.drawL fit); (focus (decide +kernel)))))
  (refine AW.retD (l := [(5, _)]) (by repeat (first | exact trivial | (refine And.intro ⟨rfl, by (exact .int _ _)⟩ ?_))) ?_; (repeat (first | refine Then.r ?_ | refine InBlk.r ?_)))
  exact ⟨_, rfl, by simp [ixI], rfl⟩
set_option maxRecDepth 100000 in
theorem f98_ok {m : AM} {v : Value} {l : List Int} {a1 a2 i : Nat} (hl : Ints m v l) (h1 : Rd m a1 0 v) (h2 : Rd m a2 0 (.int .i64 (i : Nat))) (hi : i < l.length) (x : Int) :
    ACall Tryd.prog 98 #[.int .i64 x, .pointer (some ⟨a1, 0, none⟩), .pointer (some ⟨a2, 0, none⟩)] m (Ret (.bool (decide (x ≥ l.getD i 0))) m) := by
  obtain ⟨a, o, k1, k2, k3⟩ := id hl
  have r1 := k3 i hi
  rw [← List.append_nil m] at h1 h2 r1
  refine ACall.start Tryd.func98 rfl rfl ?_
  (repeat (first | (with_reducible refine AWo.cons ?_) | ((with_reducible refine Step.id ?_); first | ((with_reducible apply Step.move); exact rfl; exact rfl) | ((with_reducible apply Step.assign); exact rfl; exact rfl) | ((with_reducible apply Step.load); exact rfl; (focus (decide +kernel)); exact rfl; (focus (assumption))) | ((with_reducible apply Step.ix1); exact rfl; (focus (assumption)); exact rfl; (focus (decide +kernel)); exact rfl; (focus (omega))) | ((with_reducible apply Step.geq); exact rfl; exact rfl; exact rfl)) | (with_reducible refine AWo.nil ?_) | ((with_reducible apply AW.seq)) | ((with_reducible apply Then.n)) | ((with_reducible apply AW.regL))))
  (refine AW.retD (l := [(4, _)]) (by repeat (first | exact trivial | (refine And.intro ⟨rfl, by (exact .bool _)⟩ ?_))) ?_; (repeat (first | refine Then.r ?_ | refine InBlk.r ?_)))
  exact ⟨_, rfl, rfl, rfl⟩
/-- What slices.IndexFunc returns. -/
def fiI (q : Int → Bool) (l : List Int) : Int := if l.findIdx q < l.length then (l.findIdx q : Nat) else -1
set_option maxRecDepth 100000 in
theorem f97_ok {m : AM} {v : Value} {l : List Int} {g : FuncId} {cap : Array Value} {fn : Func} {bd : Code} (hl : Ints m v l) (hf : Tryd.prog.funcs[g]? = some fn) (hb : fn.body = some bd) (q : Int → Bool)
    (hlen : l.length ≤ 9223372036854775807) (hg : ∀ k, k < l.length → ACall Tryd.prog g (#[] ++ #[.int .i64 (l.getD k 0)] ++ cap) m (Ret (.bool (q (l.getD k 0))) m)) : ACall Tryd.prog 97 #[v, .func (.func g) #[] cap] m (Ret (.int .i64 (fiI q l)) m) := by
  obtain ⟨a, o, h1, h2, h3⟩ := hl
  refine ACall.start Tryd.func97 rfl rfl ?_
  (repeat (first | (with_reducible refine AWo.cons ?_) | ((with_reducible refine Step.id ?_); first | ((with_reducible apply Step.move); exact rfl; exact rfl) | ((with_reducible apply Step.assign); exact rfl; exact rfl) | ((with_reducible apply Step.len); exact rfl; (focus (assumption)); (focus (decide +kernel)); exact rfl)) | (with_reducible refine AWo.nil ?_) | ((with_reducible apply AW.seq)) | ((with_reducible apply Then.n)) | ((with_reducible apply AW.regL)) | ((with_reducible apply AW.block))))
  refine AW.loopT (fun n t L => ∃ k : Nat, n = l.length - k ∧ k ≤ l.length ∧ k ≤ l.findIdx q ∧ L = [] ∧
    t = [(0, v), (1, .func (.func g) #[] cap), (6, v), (7, .int .i64 (l.length : Nat)), (8, .int .i64 (k : Nat))]) ⟨_, _, _, (Or.inl ⟨rfl, (by repeat (first | exact trivial | (refine And.intro rfl ?_)))⟩), 0, rfl, Nat.zero_le _, Nat.zero_le _, rfl, rfl⟩ ?_
  rintro n t L ⟨k, rfl, hk, hz, rfl, rfl⟩
  rcases Nat.lt_or_ge k l.length with hlt | hge
  · have hr := h3 k hlt
    have hgk := hg k hlt
    have hgk : ACall Tryd.prog g (#[] ++ #[.int .i64 (l.getD k 0)] ++ cap) (m ++ []) (Ret (.bool (q (l.getD k 0))) (m ++ [])) := by rw [List.append_nil]; exact hgk
    have eg : l.getD k 0 = l[k] := by rw [List.getD_eq_getElem?_getD, List.getElem?_eq_getElem hlt]; rfl
    cases hq : q (l.getD k 0) with
    | true =>
      have e : l.findIdx q = k := by
        rcases Nat.lt_or_eq_of_le hz with h' | h'
        · have := List.not_of_lt_findIdx h'
          rw [← eg, hq] at this
          simp at this
        · exact h'.symm
      rw [hq] at hgk
      (repeat (first | (with_reducible refine AWo.cons ?_) | ((with_reducible refine Step.id ?_); first | ((with_reducible apply Step.move); exact rfl; exact rfl) | ((with_reducible apply Step.assign); exact rfl; exact rfl) | ((with_reducible apply Step.load); exact rfl; (focus (decide +kernel)); exact rfl; (focus (exact Rd.old _ (by assumption)))) | ((with_reducible apply Step.ix1); exact rfl; (focus (assumption)); exact rfl; (focus (decide +kernel)); exact rfl; (focus (omega))) | ((with_reducible apply Step.lss); exact rfl; exact rfl; exact rfl) | ((with_reducible apply Step.callV fit); exact rfl; exact rfl; exact hf; exact hb; exact rfl; exact (hgk))) | (with_reducible refine AWo.nil ?_) | ((with_reducible apply AW.seq)) | ((with_reducible apply Then.n)) | ((with_reducible apply AW.regL)) | ((with_reducible apply AW.block)) | ((with_reducible apply AW.skip)) | ((with_reducible apply AW.condT); exact rfl; (focus (first | rfl | (simp only [decide_eq_true_eq, decide_eq_false_iff_not, Bool.not_eq_true', Bool.not_eq_false', Bool.not_true, Bool.not_false]; first | assumption | omega))))))
      (refine AW.retD (l := [(4, _)]) (by repeat (first | exact trivial | (refine And.intro ⟨rfl, by (exact .int _ _)⟩ ?_))) ?_; (repeat (first | refine Then.r ?_ | refine InBlk.r ?_)))
      refine ⟨_, rfl, ?_, rfl⟩
      unfold fiI
      rw [e, if_pos hlt]
    | false =>
      rw [hq] at hgk
      (repeat (first | (with_reducible refine AWo.cons ?_) | ((with_reducible refine Step.id ?_); first | ((with_reducible apply Step.move); exact rfl; exact rfl) | ((with_reducible apply Step.assign); exact rfl; exact rfl) | ((with_reducible apply Step.load); exact rfl; (focus (decide +kernel)); exact rfl; (focus (exact Rd.old _ (by assumption)))) | ((with_reducible apply Step.ix1); exact rfl; (focus (assumption)); exact rfl; (focus (decide +kernel)); exact rfl; (focus (omega))) | ((with_reducible apply Step.add); exact rfl; exact rfl; (focus (omega)); exact rfl) | ((with_reducible apply Step.lss); exact rfl; exact rfl; exact rfl) | ((with_reducible apply Step.callV fit); exact rfl; exact rfl; exact hf; exact hb; exact rfl; exact (hgk))) | (with_reducible refine AWo.nil ?_) | ((with_reducible apply AW.seq)) | ((with_reducible apply Then.n)) | ((with_reducible apply AW.regL)) | ((with_reducible apply AW.block)) | ((with_reducible apply InBlk.n)) | ((with_reducible apply AW.skip)) | ((with_reducible apply AW.condT); exact rfl; (focus ((simp only [decide_eq_true_eq, decide_eq_false_iff_not, Bool.not_eq_true', Bool.not_eq_false', Bool.not_true, Bool.not_false]; first | assumption | omega)))) | ((with_reducible apply AW.condF); exact rfl; (focus (rfl)))))
      refine ⟨_, _, _, by omega, (Or.inl ⟨rfl, (by repeat (first | exact trivial | (refine And.intro rfl ?_)))⟩), k + 1, rfl, by omega, ?_, rfl, rfl⟩
      rcases Nat.lt_or_eq_of_le hz with h' | h'
      · omega
      · exfalso
        have h3 : l.findIdx q < l.length := by omega
        have := List.findIdx_getElem (p := q) (w := h3)
        have e2 : l[l.findIdx q] = l.getD k 0 := by rw [eg]; congr 1; exact h'.symm
        rw [e2, hq] at this
        cases this
  · obtain rfl : k = l.length := by omega
    (repeat (first | (with_reducible refine AWo.cons ?_) | ((with_reducible refine Step.id ?_); first | ((with_reducible apply Step.assign); exact rfl; exact rfl) | ((with_reducible apply Step.lss); exact rfl; exact rfl; exact rfl)) | (with_reducible refine AWo.nil ?_) | ((with_reducible apply AW.seq)) | ((with_reducible apply Then.n)) | ((with_reducible apply AW.regL)) | ((with_reducible apply AW.exit)) | ((with_reducible apply InBlk.hit)) | ((with_reducible apply Then.e)) | ((with_reducible apply AW.condF); exact rfl; (focus ((simp only [decide_eq_true_eq, decide_eq_false_iff_not, Bool.not_eq_true', Bool.not_eq_false', Bool.not_true, Bool.not_false]; first | assumption | omega))))))
    (refine AW.retD (l := [(4, _)]) (by repeat (first | exact trivial | (refine And.intro ⟨rfl, by (exact .int _ _)⟩ ?_))) ?_; (repeat (first | refine Then.r ?_ | refine InBlk.r ?_)))
    refine ⟨_, rfl, ?_, rfl⟩
    unfold fiI
    rw [if_neg (by omega)]
end Go.Proofs.YtibhgdglbillaaaDoor.Abs
namespace Go.Proofs.YtibhgdglbillaaaDoor.Abs
set_option linter.unusedSimpArgs false
set_option linter.unusedVariables false
open Go.RowKit
open Go.Proofs.YtibhgdglbillaaaDoor.Sim
open Go.Proofs
/-- The row whose cells below i hold their own numbers. -/
def iniL (n i : Nat) : List Int := (List.range n).map fun j => if j < i then (j : Int) else 0
theorem iniL_len (n i : Nat) : (iniL n i).length = n := by simp [iniL]
theorem iniL_zero (n : Nat) : List.replicate n (0 : Int) = iniL n 0 := by
  apply List.ext_getElem?
  intro j
  by_cases h : j < n
  · simp [iniL, h]
  · rw [List.getElem?_eq_none (by simp; omega), List.getElem?_eq_none (by rw [iniL_len]; omega)]
theorem iniL_set {n i : Nat} : (iniL n i).set i (i : Nat) = iniL n (i + 1) := by
  apply List.ext_getElem?
  intro j
  rw [List.getElem?_set]
  by_cases h : j < n
  · by_cases e : i = j
    · subst e
      rw [if_pos rfl, if_pos (by rw [iniL_len]; exact h)]
      simp [iniL, h]
    · rw [if_neg e]
      simp only [iniL, List.getElem?_map, List.getElem?_range h, Option.map_some]
      congr 1
      by_cases q : j < i
      · rw [if_pos q, if_pos (by omega)]
      · rw [if_neg q, if_neg (by omega)]
  · have h1 : (iniL n i)[j]? = none := List.getElem?_eq_none (by rw [iniL_len]; omega)
    have h2 : (iniL n (i + 1))[j]? = none := List.getElem?_eq_none (by rw [iniL_len]; omega)
    rw [h1, h2]
    split
    · rw [if_neg (by rw [iniL_len]; omega)]
    · rfl
theorem iniL_full (n : Nat) : iniL n n = upI n := by
  unfold iniL upI
  exact List.map_congr_left fun j hj => by rw [if_pos (List.mem_range.1 hj)]
/-- What room is left in the bars. -/
def lfL (n : Int) (l : List Int) (k : Nat) : List Int := (ffL n l k).map fun y => n - y
theorem lfL_len (n : Int) (l : List Int) (k : Nat) : (lfL n l k).length = (ffL n l k).length := by simp [lfL]
theorem lfL_get {n : Int} {l : List Int} {k b : Nat} (h : b < (ffL n l k).length) : (lfL n l k).getD b 0 = n - (ffL n l k).getD b 0 := by simp [lfL, h]
theorem lfL_find (n : Int) (l : List Int) (k : Nat) (x : Int) : (lfL n l k).findIdx (fun r => decide (r ≥ x)) = ffB n (ffL n l k) x := by
  unfold lfL ffB
  rw [List.findIdx_map]
  congr 1
  funext y
  simp only [Function.comp]
  by_cases h : y + x ≤ n
  · rw [decide_eq_true h, decide_eq_true (by omega)]
  · rw [decide_eq_false h, decide_eq_false (by omega)]
theorem lfL_hit {n : Int} {l : List Int} {k : Nat} (h : ffK n l k < (ffL n l k).length) : lfL n l (k + 1) = (lfL n l k).set (ffK n l k) ((lfL n l k).getD (ffK n l k) 0 - l.getD (oi l k) 0) := by
  have h' : ffB n (ffL n l k) (l.getD (oi l k) 0) < (ffL n l k).length := h
  rw [lfL_get h]
  unfold lfL
  simp only [ffL, ffA, if_pos h']
  rw [List.map_set]
  congr 1
  unfold ffK
  omega
theorem lfL_miss {n : Int} {l : List Int} {k : Nat} (h : ¬ ffK n l k < (ffL n l k).length) : lfL n l (k + 1) = (lfL n l k ++ [n]).set (ffK n l k) (n - l.getD (oi l k) 0) ∧ ffK n l k = (lfL n l k).length := by
  have h' : ¬ ffB n (ffL n l k) (l.getD (oi l k) 0) < (ffL n l k).length := h
  have e : ffK n l k = (lfL n l k).length := by
    rw [lfL_len]
    have := ffB_le n (ffL n l k) (l.getD (oi l k) 0)
    unfold ffK at h ⊢
    omega
  refine ⟨?_, e⟩
  rw [e, List.set_append_right _ _ (Nat.le_refl _), Nat.sub_self]
  unfold lfL
  simp only [ffL, ffA, if_neg h']
  rw [List.map_append]
  rfl
theorem ffL_bars (n : Int) (l : List Int) : ∀ k, (ffL n l k).length ≤ k
  | 0 => Nat.le_refl _
  | k + 1 => by
    have h1 := ffL_bars n l k
    have h2 := ffL_len n l k
    have h3 := ffB_le n (ffL n l k) (l.getD (oi l k) 0)
    unfold ffK at h2
    omega
theorem lf_bd {n : Int} {l : List Int} (h : SpOk n l) {k : Nat} (hk : k ≤ l.length) (b : Nat) : 0 ≤ (ffL n l k).getD b 0 ∧ (ffL n l k).getD b 0 ≤ 28000 := by
  rw [ffL_load]
  have hp : ∀ i, i < k → 1 ≤ l.getD (oi l i) 0 ∧ l.getD (oi l i) 0 ≤ n := fun i hi => h.at_ _ (oi_lt (by omega)).1
  have hn := h.n2
  have hl := h.len
  refine ⟨ld_nn (fun i hi => by have := hp i hi; omega) b, ?_⟩
  have : ld (fun i => l.getD (oi l i) 0) (ffK n l) k b ≤ sm (fun _ => 2000) k := sm_le fun i hi => by
    show (if ffK n l i = b then l.getD (oi l i) 0 else 0) ≤ 2000
    have := hp i hi
    split <;> omega
  rw [sm_const] at this
  omega
theorem ints_gv {m L : AM} {k : Nat} {l : List Int} (h : L[k]? = some (gb (iv l) 1)) : Ints (m ++ L) (gv (m.length + k) l.length) l := by
  have hlt : m.length + k < (m ++ L).length := by
    rw [List.length_append]
    have := (List.getElem?_eq_some_iff.1 h).1
    omega
  refine ⟨m.length + k, 0, gv_sl _ _, hlt, fun i hi => ?_⟩
  have hp : 0 < (iv l).length := by simpa [iv] using (show 0 < l.length by omega)
  rw [gb_pos hp] at h
  exact ⟨_, by rw [get_app]; exact h, by rw [Nat.zero_add]; exact iv_get hi⟩
theorem bs47a {m : AM} {k : Nat} {x : Int} : abuildSlice Tryd.prog m k 47 1 [(0, .int .i64 x)] = some (.slice (some ⟨k, 0, none⟩) 1 1, m.set k (some { cells := [.int .i64 x] })) := by kernel_rfl
theorem un47s : Tryd.prog.underlying 47 = some (.slice 3) := by kernel_rfl
theorem ze3i : zeroB Tryd.prog 3 = some #[.int .i64 0] := by kernel_rfl
set_option maxRecDepth 100000 in
theorem FirstFit_no {m : AM} {v : Value} {l : List Int} {n : Int} (hl : Ints m v l) (hlen : l.length ≤ 9223372036854775807) (hok : stripsB n l = false) : ACall Tryd.prog 57 #[.int .i64 n, v] m (Ret (.tuple #[.slice none 0 0, .int .i64 2]) m) := by
  obtain ⟨a, o, h1, h2, h3⟩ := id hl
  have hv := h1.cells
  refine ACall.start Tryd.func57 rfl rfl ?_
  (repeat (first | (with_reducible refine AWo.cons ?_) | ((with_reducible refine Step.id ?_); first | ((with_reducible apply Step.move); exact rfl; exact rfl) | ((with_reducible apply Step.assign); exact rfl; exact rfl) | ((with_reducible apply Step.load); exact rfl; (focus (decide +kernel)); exact rfl; (focus (exact Rd.new rfl rfl))) | ((with_reducible apply Step.not); exact rfl; exact rfl) | ((with_reducible apply Step.callR fit); exact rfl; exact Tryd.func88; exact rfl; exact rfl; exact (valid_ok (hl.old _) hlen hok)) | ((with_reducible apply Step.boxV 0); exact rfl; exact rfl; (focus (assumption)); exact rfl; (focus (first | (simp only [List.nil_append, List.cons_append, List.set_cons_zero, List.set_cons_succ, iv_set, bv_set, iv_rep, bv_rep]; done) | (simp only [List.nil_append, List.cons_append, List.set_cons_zero, List.set_cons_succ, iv_set, bv_set, iv_rep, bv_rep]; rfl) | rfl)))) | (with_reducible refine AWo.nil ?_) | ((with_reducible apply AW.seq)) | ((with_reducible apply Then.n)) | ((with_reducible apply AW.regL)) | ((with_reducible apply AW.condT); exact rfl; (focus (rfl)))))
  (refine AW.retD (l := [(4, _), (5, _)]) (by repeat (first | exact trivial | (refine And.intro ⟨rfl, by (first | exact .int _ _ | exact Ren.of_g0 rfl)⟩ ?_))) ?_; (repeat (first | refine Then.r ?_ | refine InBlk.r ?_)))
  exact ⟨_, rfl, rfl, rfl⟩
set_option maxHeartbeats 8000000 in
set_option maxRecDepth 100000 in
theorem FirstFit_ok {m : AM} {v : Value} {l : List Int} {n : Int} (hl : Ints m v l) (hok : stripsB n l = true) :
    ACall Tryd.prog 57 #[.int .i64 n, v] m (NewT (fun N => .tuple #[.slice (some ⟨N, 0, none⟩) l.length l.length, .int .i64 0]) (some { cells := iv (ffO n l 0 l.length) }) m) := by
  have h := SpOk.of hok
  have hn1 := h.n1
  have hn2 := h.n2
  have hl14 := h.len
  have hat := h.at_
  obtain ⟨a, o, h1, h2, h3⟩ := id hl
  have hv := h1.cells
  have hst : ACall Tryd.prog 94 #[.slice (some ⟨m.length + 1, 0, none⟩) l.length l.length, .func (.func 95) #[] #[.pointer (some ⟨m.length + 0, 0, none⟩)]] (m ++ [some { cells := [v] }, some { cells := iv (upI l.length) }, some { cells := iv (List.replicate l.length 0) }])
      (Ret (.tuple #[]) (m ++ [some { cells := [v] }, some { cells := iv (ordL l) }, some { cells := iv (List.replicate l.length 0) }])) := by
    have hC : CmpOk (m ++ [some { cells := [v] }, some { cells := iv (upI l.length) }, some { cells := iv (List.replicate l.length 0) }]) (m.length + 1) 1 .own (ixI l fun x y => cmpI y x) (fun x => 0 ≤ x ∧ x < l.length) 95 #[.pointer (some ⟨m.length + 0, 0, none⟩)] := by
      refine ⟨by simp, rfl, fun r x y hx hy => ?_⟩
      have hl' : Ints (St (m ++ [some { cells := [v] }, some { cells := iv (upI l.length) }, some { cells := iv (List.replicate l.length 0) }]) (m.length + 1) .own 1 r) v l :=
        ⟨a, o, h1, by rw [St.len]; simp; omega, fun k hk => St.rd_ne ((h3 k hk).old _) (by omega)⟩
      exact f95_ok hl' (St.rd_ne (Rd.new (L := [some { cells := [v] }, some { cells := iv (upI l.length) }, some { cells := iv (List.replicate l.length 0) }]) (k := 0) rfl rfl) (by omega)) x y hx hy
    have hst := stable_ok hC (leL_to l) Tryd.func95 rfl l.length (upI l.length) (upI_len _) (by omega) (fun x hx => upI_mem.1 hx) (upI_cross fun x y _ hxy _ => leL_cross l x y hxy)
    rw [St.self (by rw [get_app]; rfl)] at hst
    have hset : St (m ++ [some { cells := [v] }, some { cells := iv (upI l.length) }, some { cells := iv (List.replicate l.length 0) }]) (m.length + 1) .own 1 (ms (leL l) (upI l.length)) = m ++ [some { cells := [v] }, some { cells := iv (ordL l) }, some { cells := iv (List.replicate l.length 0) }] := by
      unfold St ordL; rw [set_app]; rfl
    rw [hset] at hst
    exact hst
  refine ACall.start Tryd.func57 rfl rfl ?_
  (repeat (first | (with_reducible refine AWo.cons ?_) | ((with_reducible refine Step.id ?_); first | ((with_reducible apply Step.move); exact rfl; exact rfl) | ((with_reducible apply Step.assign); exact rfl; exact rfl) | ((with_reducible apply Step.load); exact rfl; (focus (decide +kernel)); exact rfl; (focus (exact Rd.new rfl rfl))) | ((with_reducible apply Step.not); exact rfl; exact rfl) | ((with_reducible apply Step.callR fit); exact rfl; exact Tryd.func88; exact rfl; exact rfl; exact (valid_ok (hl.old _) (by omega) hok)) | ((with_reducible apply Step.boxV 0); exact rfl; exact rfl; (focus (assumption)); exact rfl; (focus (first | (simp only [List.nil_append, List.cons_append, List.set_cons_zero, List.set_cons_succ, iv_set, bv_set, iv_rep, bv_rep]; done) | (simp only [List.nil_append, List.cons_append, List.set_cons_zero, List.set_cons_succ, iv_set, bv_set, iv_rep, bv_rep]; rfl) | rfl)))) | (with_reducible refine AWo.nil ?_) | ((fail_if_success (with_reducible refine AW.atR (id := 3) ?_)); ((with_reducible apply AW.seq))) | ((with_reducible apply Then.n)) | ((with_reducible apply AW.regL)) | ((with_reducible apply AW.skip)) | ((with_reducible apply AW.condF); exact rfl; (focus (rfl)))))
  refine AW.joinG (fr [(0, .int .i64 n), (3, .pointer (some ⟨m.length + 0, 0, none⟩)), (6, .slice (some ⟨m.length + 1, 0, none⟩) l.length l.length), (7, .slice (some ⟨m.length + 2, 0, none⟩) l.length l.length)]) (m ++ [some { cells := [v] }, some { cells := iv (List.replicate l.length 0) }, some { cells := iv (List.replicate l.length 0) }]) ?_ ?_
  · have hc3 : ∀ (σ : List Nat) (b : Blk), some b ∈ [some { cells := [v] }, some { cells := iv (List.replicate l.length 0) }, some { cells := iv (List.replicate l.length 0) }] → isMapK b.kind = false ∧ ∀ x ∈ b.cells, Ren (sg m.length σ) (m.length + 3) x x := fun σ b hb => by
      simp only [List.mem_cons, List.not_mem_nil, or_false, Option.some.injEq] at hb
      rcases hb with rfl | rfl | rfl
      · exact ⟨rfl, fun x hx => by simp at hx; subst hx; exact Ren.of_sl_sg h1 h2 (by omega)⟩
      · exact ⟨rfl, fun x hx => Ren.of_g0 (g0_iv _ x hx)⟩
      · exact ⟨rfl, fun x hx => Ren.of_g0 (g0_iv _ x hx)⟩
    (repeat' (first | ((with_reducible refine Step.id ?_); first | ((with_reducible apply Step.assign); exact rfl; exact rfl) | ((with_reducible apply Step.load); exact rfl; (focus (decide +kernel)); exact rfl; (focus (exact Rd.new rfl rfl))) | ((with_reducible apply Step.len); exact rfl; (focus (assumption)); (focus (decide +kernel)); exact rfl) | ((with_reducible apply Step.make1 1); exact rfl; exact rfl; exact rfl; exact el47; (focus (omega)); exact rfl; (focus (first | (simp only [List.nil_append, List.cons_append, List.set_cons_zero, List.set_cons_succ, iv_set, bv_set, iv_rep, bv_rep]; done) | (simp only [List.nil_append, List.cons_append, List.set_cons_zero, List.set_cons_succ, iv_set, bv_set, iv_rep, bv_rep]; rfl) | rfl))) | ((with_reducible apply Step.make1 2); exact rfl; exact rfl; exact rfl; exact el47; (focus (omega)); exact rfl; (focus (first | (simp only [List.nil_append, List.cons_append, List.set_cons_zero, List.set_cons_succ, iv_set, bv_set, iv_rep, bv_rep]; done) | (simp only [List.nil_append, List.cons_append, List.set_cons_zero, List.set_cons_succ, iv_set, bv_set, iv_rep, bv_rep]; rfl) | rfl)))) | ((with_reducible apply Then.n)) | ((with_reducible apply AW.drawT fit (T := (.both (.step 0 (.step 1 (.both (.step 2 (.step 3 (.step 4 (.step 6 (.step 5 (.step 7 .done)))))) (.step 3 (.step 4 (.both (.step 2 (.step 6 (.step 5 (.step 7 .done)))) (.step 5 (.step 2 (.step 6 (.step 7 .done)))))))))) (.step 3 (.step 4 (.both (.step 0 (.step 1 (.both (.step 2 (.step 6 (.step 5 (.step 7 .done)))) (.step 5 (.step 2 (.step 6 (.step 7 .done))))))) (.step 5 (.step 0 (.step 1 (.step 2 (.step 6 (.step 7 .done)))))))))))); (focus (decide +kernel))) | ((with_reducible apply AWt.step); exact rfl) | ((with_reducible apply AWt.done)) | refine AWt.both ?_ ?_))
    all_goals first
      | exact Gc.perm [0, 1, 2] rfl (by decide) (fun p hp => by rcases p with _ | _ | _ | p <;> first | rfl | exact absurd hp (by simp)) (hc3 _) ⟨⟨_, rfl, .int _ _⟩, ⟨_, rfl, Ren.ptr_sg (by simp)⟩, ⟨_, rfl, Ren.slice_sg (by simp)⟩, ⟨_, rfl, Ren.slice_sg (by simp)⟩, trivial⟩
      | exact Gc.perm [0, 2, 1] rfl (by decide) (fun p hp => by rcases p with _ | _ | _ | p <;> first | rfl | exact absurd hp (by simp)) (hc3 _) ⟨⟨_, rfl, .int _ _⟩, ⟨_, rfl, Ren.ptr_sg (by simp)⟩, ⟨_, rfl, Ren.slice_sg (by simp)⟩, ⟨_, rfl, Ren.slice_sg (by simp)⟩, trivial⟩
  rw [show m ++ [some { cells := [v] }, some { cells := iv (List.replicate l.length 0) }, some { cells := iv (List.replicate l.length 0) }] = m ++ [some { cells := [v] }, some { cells := iv (iniL l.length 0) }, some { cells := iv (List.replicate l.length 0) }] from by rw [← iniL_zero]]
  (repeat (first | (with_reducible refine AWo.cons ?_) | ((with_reducible refine Step.id ?_); first | ((with_reducible apply Step.move); exact rfl; exact rfl) | ((with_reducible apply Step.len); exact rfl; (focus (exact Sl.mk (by omega))); (focus (decide +kernel)); exact rfl)) | (with_reducible refine AWo.nil ?_) | ((with_reducible apply AW.seq)) | ((with_reducible apply Then.n)) | ((with_reducible apply AW.regL)) | ((with_reducible apply AW.block))))
  refine AW.loopT (fun q t L => ∃ i : Nat, q = l.length - i ∧ i ≤ l.length ∧ L = [some { cells := [v] }, some { cells := iv (iniL l.length i) }, some { cells := iv (List.replicate l.length 0) }] ∧
    t = [(0, .int .i64 n), (3, .pointer (some ⟨m.length + 0, 0, none⟩)), (6, .slice (some ⟨m.length + 1, 0, none⟩) l.length l.length), (7, .slice (some ⟨m.length + 2, 0, none⟩) l.length l.length), (23, .slice (some ⟨m.length + 1, 0, none⟩) l.length l.length), (24, .int .i64 (l.length : Nat)), (25, .int .i64 (i : Nat))]) ⟨_, _, _, (Or.inl ⟨rfl, (by repeat (first | exact trivial | (refine And.intro rfl ?_)))⟩), 0, rfl, Nat.zero_le _, rfl, rfl⟩ ?_
  rintro q t L ⟨i, rfl, hi, rfl, rfl⟩
  rcases Nat.lt_or_ge i l.length with hil | hil
  · have hset := iniL_set (n := l.length) (i := i)
    have hln := iniL_len l.length i
    (repeat (first | (with_reducible refine AWo.cons ?_) | ((with_reducible refine Step.id ?_); first | ((with_reducible apply Step.move); exact rfl; exact rfl) | ((with_reducible apply Step.assign); exact rfl; exact rfl) | ((with_reducible apply Step.ix1z); exact rfl; (focus (exact Sl.mk (by omega))); exact rfl; (focus (decide +kernel)); exact rfl; (focus (omega))) | ((with_reducible apply Step.add); exact rfl; exact rfl; (focus (omega)); exact rfl) | ((with_reducible apply Step.lss); exact rfl; exact rfl; exact rfl) | ((with_reducible apply Step.store (k := 1)); exact rfl; exact rfl; exact rfl; exact rfl; (focus (decide +kernel)); exact rfl; exact rfl; (focus (first | omega | (simp [iv, bv]; done) | (simp [iv, bv]; omega))); (focus (first | (simp only [List.nil_append, List.cons_append, List.set_cons_zero, List.set_cons_succ, iv_set, bv_set, iv_rep, bv_rep]; done) | (simp only [List.nil_append, List.cons_append, List.set_cons_zero, List.set_cons_succ, iv_set, bv_set, iv_rep, bv_rep]; rfl) | rfl)))) | (with_reducible refine AWo.nil ?_) | ((with_reducible apply AW.seq)) | ((with_reducible apply Then.n)) | ((with_reducible apply AW.regL)) | ((with_reducible apply AW.block)) | ((with_reducible apply InBlk.n)) | ((with_reducible apply AW.skip)) | ((with_reducible apply AW.condT); exact rfl; (focus ((simp only [decide_eq_true_eq, decide_eq_false_iff_not, Bool.not_eq_true', Bool.not_eq_false', Bool.not_true, Bool.not_false]; first | assumption | omega))))))
    exact ⟨_, _, _, by omega, (Or.inl ⟨rfl, (by repeat (first | exact trivial | (refine And.intro rfl ?_)))⟩), i + 1, rfl, by omega, by rw [hset], rfl⟩
  · obtain rfl : i = l.length := by omega
    rw [iniL_full]
    (repeat (first | (with_reducible refine AWo.cons ?_) | ((with_reducible refine Step.id ?_); first | ((with_reducible apply Step.move); exact rfl; exact rfl) | ((with_reducible apply Step.assign); exact rfl; exact rfl) | ((with_reducible apply Step.lss); exact rfl; exact rfl; exact rfl) | ((with_reducible apply Step.len); exact rfl; (focus (exact Sl.mk (by omega))); (focus (decide +kernel)); exact rfl) | ((with_reducible apply Step.fn); exact rfl; exact rfl; exact rfl) | ((with_reducible apply Step.callM fit); exact rfl; exact Tryd.func94; exact rfl; exact rfl; exact (hst))) | (with_reducible refine AWo.nil ?_) | ((with_reducible apply AW.seq)) | ((with_reducible apply Then.n)) | ((with_reducible apply AW.regL)) | ((with_reducible apply AW.block)) | ((with_reducible apply AW.exit)) | ((with_reducible apply InBlk.hit)) | ((with_reducible apply Then.e)) | ((with_reducible apply AW.condF); exact rfl; (focus ((simp only [decide_eq_true_eq, decide_eq_false_iff_not, Bool.not_eq_true', Bool.not_eq_false', Bool.not_true, Bool.not_false]; first | assumption | omega))))))
    clear hst
    refine AW.loopT (fun q t L => ∃ k : Nat, q = l.length - k ∧ k ≤ l.length ∧ L = [some { cells := [v] }, some { cells := iv (ordL l) }, some { cells := iv (ffO n l 0 k) }, gb (iv (lfL n l k)) 1] ∧
      t = [(0, .int .i64 n), (3, .pointer (some ⟨m.length + 0, 0, none⟩)), (7, .slice (some ⟨m.length + 2, 0, none⟩) l.length l.length), (9, gv (m.length + 3) (lfL n l k).length), (36, .slice (some ⟨m.length + 1, 0, none⟩) l.length l.length), (37, .int .i64 (l.length : Nat)), (38, .int .i64 (k : Nat))])
      ⟨_, _, [some { cells := [v] }, some { cells := iv (ordL l) }, some { cells := iv (List.replicate l.length 0) }, none], (Back.padC rfl (by repeat (first | exact trivial | (refine And.intro ⟨rfl, by (first | exact .int _ _ | exact Ren.of_gv (by first | (simp; done) | omega | (simp; omega)) | exact .slice _ _ _ _ (by first | (simp; done) | omega | (simp; omega)) | exact .ptr _ _ (by first | (simp; done) | omega | (simp; omega)))⟩ ?_))) (by repeat (first | exact CellsP.nil | (refine CellsP.cons ?_ ?_; (focus (first | exact cells_iv _ | ((repeat (first | exact cells_nil | (refine cells_cons ?_ ?_; (focus (exact Ren.of_sl (by assumption) (by first | omega | (simp; omega))))))); done))))))), 0, rfl, Nat.zero_le _, rfl, rfl⟩ ?_
    rintro q t L ⟨k, rfl, hk, rfl, rfl⟩
    rcases Nat.lt_or_ge k l.length with hkl | hkl
    · obtain ⟨ho1, ho2⟩ := oi_lt hkl
      have hr := h3 (oi l k) ho1
      have hx := hat (oi l k) ho1
      have lO := ffO_len n l 0 k
      have lord := ordL_len l
      have hO : ffO n l 0 (k + 1) = (ffO n l 0 k).set (oi l k) (ffK n l k : Nat) := rfl
      have hfind := lfL_find n l k (l.getD (oi l k) 0)
      have hbd := lf_bd h hk (ffK n l k)
      have hfs : (ffL n l k).length ≤ k := ffL_bars n l k
      have hle := ffB_le n (ffL n l k) (l.getD (oi l k) 0)
      have hll := lfL_len n l k
      have hget := fun hb => lfL_get (n := n) (l := l) (k := k) (b := ffK n l k) hb
      change _ = ffK n l k at hfind
      have hF : ACall Tryd.prog 97 #[gv (m.length + 3) (lfL n l k).length, .func (.func 98) #[] #[.pointer (some ⟨m.length + 0, 0, none⟩), .pointer (some ⟨m.length + 4, 0, none⟩)]] (m ++ [some { cells := [v] }, some { cells := iv (ordL l) }, some { cells := iv (ffO n l 0 k) }, gb (iv (lfL n l k)) 1, some { cells := [.int .i64 (oi l k : Nat)] }])
          (Ret (.int .i64 (fiI (fun r => decide (r ≥ l.getD (oi l k) 0)) (lfL n l k))) (m ++ [some { cells := [v] }, some { cells := iv (ordL l) }, some { cells := iv (ffO n l 0 k) }, gb (iv (lfL n l k)) 1, some { cells := [.int .i64 (oi l k : Nat)] }])) :=
        f97_ok (ints_gv (k := 3) rfl) Tryd.func98 rfl _ (by omega) fun j _ => f98_ok (hl.old _) (Rd.new (k := 0) rfl rfl) (Rd.new (k := 4) rfl rfl) ho1 _
      unfold fiI at hF
      rw [hfind] at hF
      have r0 : ∀ T, Rd (m ++ (some { cells := [v] } :: some { cells := iv (ordL l) } :: T)) (m.length + 1) k (.int .i64 (oi l k : Nat)) := fun T => by rw [← ho2]; exact Rd.new rfl (iv_get (by omega))
      by_cases hh : ffK n l k < (ffL n l k).length
      · have hlf := lfL_hit hh
        rw [if_pos (by omega)] at hF
        have hgt := hget hh
        rw [gb_pos (by simp [iv]; omega), gv_pos (by omega)] at hF ⊢
        generalize hle' : lfL n l (k + 1) = left' at *
        generalize hoe' : ffO n l 0 (k + 1) = out' at *
        generalize ffO n l 0 k = out at *
        generalize lfL n l k = left at *
        generalize ffK n l k = K at *
        generalize l.getD (oi l k) 0 = x at *
        generalize oi l k = i at *
        have r3 : Rd (m ++ [some { cells := [v] }, some { cells := iv (ordL l) }, some { cells := iv out }, some { cells := iv left, kind := .grow, size := 1 }, some { cells := [.int .i64 (i : Nat)] }]) (m.length + 3) K (.int .i64 (left.getD K 0)) := Rd.new rfl (iv_get (by omega))
        generalize left.getD K 0 = y at *
        (repeat (first | (with_reducible refine AWo.cons ?_) | ((with_reducible refine Step.id ?_); first | ((with_reducible apply Step.move); exact rfl; exact rfl) | ((with_reducible apply Step.assign); exact rfl; exact rfl) | ((with_reducible apply Step.load); exact rfl; (focus (decide +kernel)); exact rfl; (focus (first | assumption | exact r0 _ | exact Rd.new rfl rfl | exact Rd.old _ (by assumption)))) | ((with_reducible apply Step.ix1z); exact rfl; (focus (exact Sl.mk (by omega))); exact rfl; (focus (decide +kernel)); exact rfl; (focus (omega))) | ((with_reducible apply Step.ix1); exact rfl; (focus (assumption)); exact rfl; (focus (decide +kernel)); exact rfl; (focus (omega))) | ((with_reducible apply Step.add); exact rfl; exact rfl; (focus (omega)); exact rfl) | ((with_reducible apply Step.sub); exact rfl; exact rfl; (focus (omega)); exact rfl) | ((with_reducible apply Step.lss); exact rfl; exact rfl; exact rfl) | ((with_reducible apply Step.fn); exact rfl; exact rfl; exact rfl) | ((with_reducible apply Step.callR fit); exact rfl; exact Tryd.func97; exact rfl; exact rfl; exact (hF)) | ((with_reducible apply Step.store (k := 2)); exact rfl; exact rfl; exact rfl; exact rfl; (focus (decide +kernel)); exact rfl; exact rfl; (focus (first | omega | (simp [iv, bv]; done) | (simp [iv, bv]; omega))); (focus (first | (simp only [List.nil_append, List.cons_append, List.set_cons_zero, List.set_cons_succ, iv_set, bv_set, iv_rep, bv_rep]; done) | (simp only [List.nil_append, List.cons_append, List.set_cons_zero, List.set_cons_succ, iv_set, bv_set, iv_rep, bv_rep]; rfl) | rfl))) | ((with_reducible apply Step.store (k := 3)); exact rfl; exact rfl; exact rfl; exact rfl; (focus (decide +kernel)); exact rfl; exact rfl; (focus (first | omega | (simp [iv, bv]; done) | (simp [iv, bv]; omega))); (focus (first | (simp only [List.nil_append, List.cons_append, List.set_cons_zero, List.set_cons_succ, iv_set, bv_set, iv_rep, bv_rep]; done) | (simp only [List.nil_append, List.cons_append, List.set_cons_zero, List.set_cons_succ, iv_set, bv_set, iv_rep, bv_rep]; rfl) | rfl))) | ((with_reducible apply Step.alloc 4); exact rfl; exact ze3i; exact rfl; (focus (first | (simp only [List.nil_append, List.cons_append, List.set_cons_zero, List.set_cons_succ, iv_set, bv_set, iv_rep, bv_rep]; done) | (simp only [List.nil_append, List.cons_append, List.set_cons_zero, List.set_cons_succ, iv_set, bv_set, iv_rep, bv_rep]; rfl) | rfl))) | ((with_reducible apply Step.store (k := 4)); exact rfl; exact rfl; exact rfl; exact rfl; (focus (decide +kernel)); exact rfl; exact rfl; (focus (first | omega | (simp [iv, bv]; done) | (simp [iv, bv]; omega))); (focus (first | (simp only [List.nil_append, List.cons_append, List.set_cons_zero, List.set_cons_succ, iv_set, bv_set, iv_rep, bv_rep]; done) | (simp only [List.nil_append, List.cons_append, List.set_cons_zero, List.set_cons_succ, iv_set, bv_set, iv_rep, bv_rep]; rfl) | rfl)))) | (with_reducible refine AWo.nil ?_) | ((with_reducible apply AW.seq)) | ((with_reducible apply Then.n)) | ((with_reducible apply AW.regL)) | ((with_reducible apply AW.block)) | ((with_reducible apply AW.drawL fit); (focus (decide +kernel))) | ((with_reducible apply InBlk.n)) | ((with_reducible apply AW.skip)) | ((with_reducible apply AW.condT); exact rfl; (focus ((simp only [decide_eq_true_eq, decide_eq_false_iff_not, Bool.not_eq_true', Bool.not_eq_false', Bool.not_true, Bool.not_false]; first | assumption | omega)))) | ((with_reducible apply AW.condF); exact rfl; (focus (rfl)))))
        exact ⟨_, [(0, .int .i64 n), (3, .pointer (some ⟨m.length + 0, 0, none⟩)), (7, .slice (some ⟨m.length + 2, 0, none⟩) l.length l.length), (9, .slice (some ⟨m.length + 3, 0, none⟩) left.length left.length), (36, .slice (some ⟨m.length + 1, 0, none⟩) l.length l.length), (37, .int .i64 (l.length : Nat)), (38, .int .i64 (k + 1 : Nat))], [some { cells := [v] }, some { cells := iv (ordL l) }, some { cells := iv (out.set i K) }, some { cells := iv (left.set K (y - x)), kind := .grow, size := 1 }], by omega, (Back.trimC rfl rfl (by repeat (first | exact CellsP.nil | (refine CellsP.cons ?_ ?_; (focus (first | exact cells_iv _ | ((repeat (first | exact cells_nil | (refine cells_cons ?_ ?_; (focus (exact Ren.of_sl (by assumption) (by first | omega | (simp; omega))))))); done)))))) (by repeat (first | exact trivial | (refine And.intro ⟨rfl, by (first | exact .int _ _ | exact .slice _ _ _ _ (by first | (simp; done) | omega | (simp; omega)) | exact .ptr _ _ (by first | (simp; done) | omega | (simp; omega)))⟩ ?_)))), k + 1, rfl, by omega,
          by rw [hoe', hle', hO, hlf, gb_pos (by simp [iv]; omega)], by rw [hle', hlf, gv_pos (by simp; omega), List.length_set]⟩
      · obtain ⟨hlf, hKe⟩ := lfL_miss hh
        rw [if_neg (by omega)] at hF
        generalize hle' : lfL n l (k + 1) = left' at *
        generalize hoe' : ffO n l 0 (k + 1) = out' at *
        generalize ffO n l 0 k = out at *
        generalize lfL n l k = left at *
        generalize ffK n l k = K at *
        generalize l.getD (oi l k) 0 = x at *
        generalize oi l k = i at *
        subst hKe
        have r4 : Rd (m ++ [some { cells := [v] }, some { cells := iv (ordL l) }, some { cells := iv out }, none, some { cells := [.int .i64 (i : Nat)] }, some { cells := [.int .i64 n] }, some { cells := iv (left ++ [n]), kind := .grow, size := 1 }]) (m.length + 6) left.length (.int .i64 n) := by
          have e : (left ++ [n]).getD left.length 0 = n := by simp
          have := iv_get (l := left ++ [n]) (k := left.length) (by simp)
          rw [e] at this
          exact Rd.new (k := 6) rfl this
        have liv : (iv left).length = left.length * 1 := by simp [iv]
        have hl1 : (left ++ [n]).length = left.length + 1 := by simp
        (repeat (first | (with_reducible refine AWo.cons ?_) | ((with_reducible refine Step.id ?_); first | ((with_reducible apply Step.move); exact rfl; exact rfl) | ((with_reducible apply Step.assign); exact rfl; exact rfl) | ((with_reducible apply Step.load); exact rfl; (focus (decide +kernel)); exact rfl; (focus (exact r0 _))) | ((with_reducible apply Step.ix1z); exact rfl; (focus (exact Sl.mk (by omega))); exact rfl; (focus (decide +kernel)); exact rfl; (focus (omega))) | ((with_reducible apply Step.lss); exact rfl; exact rfl; exact rfl) | ((with_reducible apply Step.len); exact rfl; (focus (exact gv_sl _ _)); (focus (decide +kernel)); exact rfl) | ((with_reducible apply Step.fn); exact rfl; exact rfl; exact rfl) | ((with_reducible apply Step.callR fit); exact rfl; exact Tryd.func97; exact rfl; exact rfl; exact (hF)) | ((with_reducible apply Step.alloc 4); exact rfl; exact ze3i; exact rfl; (focus (first | (simp only [List.nil_append, List.cons_append, List.set_cons_zero, List.set_cons_succ, iv_set, bv_set, iv_rep, bv_rep]; done) | (simp only [List.nil_append, List.cons_append, List.set_cons_zero, List.set_cons_succ, iv_set, bv_set, iv_rep, bv_rep]; rfl) | rfl))) | ((with_reducible apply Step.store (k := 4)); exact rfl; exact rfl; exact rfl; exact rfl; (focus (decide +kernel)); exact rfl; exact rfl; (focus (first | omega | (simp [iv, bv]; done) | (simp [iv, bv]; omega))); (focus (first | (simp only [List.nil_append, List.cons_append, List.set_cons_zero, List.set_cons_succ, iv_set, bv_set, iv_rep, bv_rep]; done) | (simp only [List.nil_append, List.cons_append, List.set_cons_zero, List.set_cons_succ, iv_set, bv_set, iv_rep, bv_rep]; rfl) | rfl))) | ((with_reducible apply Step.buildS 5); exact rfl; exact rfl; exact (fun _ _ => bs47a); exact rfl; (focus (first | (simp only [List.nil_append, List.cons_append, List.set_cons_zero, List.set_cons_succ, iv_set, bv_set, iv_rep, bv_rep]; done) | (simp only [List.nil_append, List.cons_append, List.set_cons_zero, List.set_cons_succ, iv_set, bv_set, iv_rep, bv_rep]; rfl) | rfl)))) | (with_reducible refine AWo.nil ?_) | ((with_reducible apply AW.seq)) | ((with_reducible apply Then.n)) | ((with_reducible apply AW.regL)) | ((with_reducible apply AW.block)) | ((with_reducible apply AW.skip)) | ((with_reducible apply AW.condT); exact rfl; (focus (first | rfl | (simp only [decide_eq_true_eq, decide_eq_false_iff_not, Bool.not_eq_true', Bool.not_eq_false', Bool.not_true, Bool.not_false]; first | assumption | omega))))))
        ((with_reducible apply Step.appG (k := 6) (q := 3) (r := 5) (n := left.length) (xl := 1)); exact rfl; exact rfl; exact rfl; exact el47; exact un47s; exact rfl; exact rfl; exact rfl; exact liv; exact rfl; exact rfl; (focus (kernel_rfl)); (focus (omega)); exact rfl; (focus (first | (simp only [List.nil_append, List.cons_append, List.set_cons_zero, List.set_cons_succ, iv_set, bv_set, iv_rep, bv_rep]; done) | (simp only [List.nil_append, List.cons_append, List.set_cons_zero, List.set_cons_succ, iv_set, bv_set, iv_rep, bv_rep]; rfl) | rfl)))
        rw [show iv left ++ [Value.int .i64 n] = iv (left ++ [n]) from by simp [iv]]
        (repeat (first | (with_reducible refine AWo.cons ?_) | ((with_reducible refine Step.id ?_); first | ((with_reducible apply Step.move); exact rfl; exact rfl) | ((with_reducible apply Step.assign); exact rfl; exact rfl) | ((with_reducible apply Step.load); exact rfl; (focus (decide +kernel)); exact rfl; (focus (first | assumption | exact Rd.new rfl rfl | exact Rd.old _ (by assumption)))) | ((with_reducible apply Step.ix1z); exact rfl; (focus (exact Sl.mk (by omega))); exact rfl; (focus (decide +kernel)); exact rfl; (focus (omega))) | ((with_reducible apply Step.ix1); exact rfl; (focus (assumption)); exact rfl; (focus (decide +kernel)); exact rfl; (focus (omega))) | ((with_reducible apply Step.add); exact rfl; exact rfl; (focus (omega)); exact rfl) | ((with_reducible apply Step.sub); exact rfl; exact rfl; (focus (omega)); exact rfl) | ((with_reducible apply Step.store (k := 2)); exact rfl; exact rfl; exact rfl; exact rfl; (focus (decide +kernel)); exact rfl; exact rfl; (focus (first | omega | (simp [iv, bv]; done) | (simp [iv, bv]; omega))); (focus (first | (simp only [List.nil_append, List.cons_append, List.set_cons_zero, List.set_cons_succ, iv_set, bv_set, iv_rep, bv_rep]; done) | (simp only [List.nil_append, List.cons_append, List.set_cons_zero, List.set_cons_succ, iv_set, bv_set, iv_rep, bv_rep]; rfl) | rfl))) | ((with_reducible apply Step.store (k := 6)); exact rfl; exact rfl; exact rfl; exact rfl; (focus (decide +kernel)); exact rfl; exact rfl; (focus (first | omega | (simp [iv, bv]; done) | (simp [iv, bv]; omega))); (focus (first | (simp only [List.nil_append, List.cons_append, List.set_cons_zero, List.set_cons_succ, iv_set, bv_set, iv_rep, bv_rep]; done) | (simp only [List.nil_append, List.cons_append, List.set_cons_zero, List.set_cons_succ, iv_set, bv_set, iv_rep, bv_rep]; rfl) | rfl)))) | (with_reducible refine AWo.nil ?_) | ((with_reducible apply AW.seq)) | ((with_reducible apply Then.n)) | ((with_reducible apply AW.regL)) | ((with_reducible apply AW.drawL fit); (focus (decide +kernel))) | ((with_reducible apply InBlk.n))))
        exact ⟨_, [(0, .int .i64 n), (3, .pointer (some ⟨m.length + 0, 0, none⟩)), (7, .slice (some ⟨m.length + 2, 0, none⟩) l.length l.length), (9, .slice (some ⟨m.length + 3, 0, none⟩) (left.length + 1) (left.length + 1)), (36, .slice (some ⟨m.length + 1, 0, none⟩) l.length l.length), (37, .int .i64 (l.length : Nat)), (38, .int .i64 (k + 1 : Nat))], [some { cells := [v] }, some { cells := iv (ordL l) }, some { cells := iv (out.set i (left.length : Nat)) }, some { cells := iv ((left ++ [n]).set left.length (n - x)), kind := .grow, size := 1 }], by omega, (Back.mvC 3 6 rfl rfl rfl rfl (by intro j b hj h; rcases j with _ | _ | _ | _ | _ | _ | _ | _ | j <;> first | exact absurd rfl hj | exact h | (simp at h; done)) (by repeat (first | exact CellsP.nil | (refine CellsP.cons ?_ ?_; (focus (first | exact cells_iv _ | ((repeat (first | exact cells_nil | (refine cells_cons ?_ ?_; (focus (exact Ren.of_sl_ne (by assumption) (by first | omega | (simp; omega)) (by first | omega | (simp; omega))))))); done)))))) (by repeat (first | exact trivial | (refine And.intro ⟨_, rfl, by (first | exact .int _ _ | exact Ren.slice_mv (by first | (simp; done) | omega | (simp; omega)) | exact Ren.slice_ne (by first | (simp; done) | omega | (simp; omega)) (by omega) | exact Ren.ptr_ne (by first | (simp; done) | omega | (simp; omega)) (by omega))⟩ ?_)))), k + 1, rfl, by omega,
          by rw [hoe', hle', hO, hlf, gb_pos (by simp [iv])], by rw [hle', hlf, gv_pos (by simp), List.length_set, hl1]⟩
    · obtain rfl : k = l.length := by omega
      (repeat (first | (with_reducible refine AWo.cons ?_) | ((with_reducible refine Step.id ?_); first | ((with_reducible apply Step.move); exact rfl; exact rfl) | ((with_reducible apply Step.assign); exact rfl; exact rfl) | ((with_reducible apply Step.lss); exact rfl; exact rfl; exact rfl)) | (with_reducible refine AWo.nil ?_) | ((with_reducible apply AW.seq)) | ((with_reducible apply Then.n)) | ((with_reducible apply AW.regL)) | ((with_reducible apply AW.exit)) | ((with_reducible apply InBlk.hit)) | ((with_reducible apply Then.e)) | ((with_reducible apply AW.condF); exact rfl; (focus ((simp only [decide_eq_true_eq, decide_eq_false_iff_not, Bool.not_eq_true', Bool.not_eq_false', Bool.not_true, Bool.not_false]; first | assumption | omega))))))
      refine AW.retB (l := [(4, .slice (some ⟨m.length + 0, 0, none⟩) l.length l.length), (5, .int .i64 0)]) (L1 := [some { cells := iv (ffO n l 0 l.length) }]) (Back.mv 0 2 rfl rfl rfl rfl (by intro j b hj h; rcases j with _ | _ | _ | _ | _ | _ | j <;> simp_all) (by repeat (first | exact CellsOk.nil | refine CellsOk.cons (by exact g0_iv _) ?_)) (by repeat (first | exact trivial | (refine And.intro ⟨_, rfl, by (first | exact .int _ _ | exact Ren.slice_mv (by first | (simp; done) | omega | (simp; omega)))⟩ ?_)))) ?_
      exact ⟨_, rfl, rfl, rfl⟩
end Go.Proofs.YtibhgdglbillaaaDoor.Abs
namespace Go.Proofs.YtibhgdglbillaaaDoor.Abs
set_option linter.unusedSimpArgs false
set_option linter.unusedVariables false
open Go.RowKit
open Go.Proofs.YtibhgdglbillaaaDoor.Sim
open Go.Proofs
/-- The row whose cells below i hold -1. -/
def negL (n i : Nat) : List Int := (List.range n).map fun j => if j < i then -1 else 0
theorem negL_len (n i : Nat) : (negL n i).length = n := by simp [negL]
theorem negL_zero (n : Nat) : List.replicate n (0 : Int) = negL n 0 := by
  apply List.ext_getElem?
  intro j
  by_cases h : j < n
  · simp [negL, h]
  · rw [List.getElem?_eq_none (by simp; omega), List.getElem?_eq_none (by rw [negL_len]; omega)]
theorem negL_set {n i : Nat} : (negL n i).set i (-1) = negL n (i + 1) := by
  apply List.ext_getElem?
  intro j
  rw [List.getElem?_set]
  by_cases h : j < n
  · by_cases e : i = j
    · subst e
      rw [if_pos rfl, if_pos (by rw [negL_len]; exact h)]
      simp [negL, h]
    · rw [if_neg e]
      simp only [negL, List.getElem?_map, List.getElem?_range h, Option.map_some]
      congr 1
      by_cases q : j < i
      · rw [if_pos q, if_pos (by omega)]
      · rw [if_neg q, if_neg (by omega)]
  · have h1 : (negL n i)[j]? = none := List.getElem?_eq_none (by rw [negL_len]; omega)
    have h2 : (negL n (i + 1))[j]? = none := List.getElem?_eq_none (by rw [negL_len]; omega)
    rw [h1, h2]
    split
    · rw [if_neg (by rw [negL_len]; omega)]
    · rfl
theorem negL_full (n : Int) (l : List Int) : negL l.length l.length = ffO n l (-1) 0 := by
  show negL l.length l.length = List.replicate l.length (-1)
  apply List.ext_getElem?
  intro j
  by_cases h : j < l.length
  · simp [negL, h]
  · rw [List.getElem?_eq_none (by rw [negL_len]; omega), List.getElem?_eq_none (by simp; omega)]
theorem ffL_hit {n : Int} {l : List Int} {k : Nat} (h : ffK n l k < (ffL n l k).length) : ffL n l (k + 1) = (ffL n l k).set (ffK n l k) ((ffL n l k).getD (ffK n l k) 0 + l.getD (oi l k) 0) := by
  have h' : ffB n (ffL n l k) (l.getD (oi l k) 0) < (ffL n l k).length := h
  simp only [ffL, ffA, if_pos h']
  rfl
theorem ffL_miss {n : Int} {l : List Int} {k : Nat} (h : ¬ ffK n l k < (ffL n l k).length) : ffL n l (k + 1) = (ffL n l k ++ [0]).set (ffK n l k) (0 + l.getD (oi l k) 0) ∧ ffK n l k = (ffL n l k).length := by
  have h' : ¬ ffB n (ffL n l k) (l.getD (oi l k) 0) < (ffL n l k).length := h
  have e : ffK n l k = (ffL n l k).length := by
    have := ffB_le n (ffL n l k) (l.getD (oi l k) 0)
    unfold ffK at h ⊢
    omega
  refine ⟨?_, e⟩
  rw [e, List.set_append_right _ _ (Nat.le_refl _), Nat.sub_self, Int.zero_add]
  simp only [ffL, ffA, if_neg h']
  rfl
set_option maxRecDepth 100000 in
theorem RFirstFit_no {m : AM} {v : Value} {l : List Int} {n : Int} (hl : Ints m v l) (hlen : l.length ≤ 9223372036854775807) (hok : stripsB n l = false) : ACall Tryd.prog 58 #[.int .i64 n, v] m (Ret (.tuple #[.slice none 0 0, .int .i64 2]) m) := by
  refine ACall.start Tryd.func58 rfl rfl ?_
  (repeat (first | (with_reducible refine AWo.cons ?_) | ((with_reducible refine Step.id ?_); first | ((with_reducible apply Step.move); exact rfl; exact rfl) | ((with_reducible apply Step.assign); exact rfl; exact rfl) | ((with_reducible apply Step.not); exact rfl; exact rfl) | ((with_reducible apply Step.callR fit); exact rfl; exact Tryd.func61; exact rfl; exact rfl; exact (RStrips_ok (hl.old _) hlen hok))) | (with_reducible refine AWo.nil ?_) | ((with_reducible apply AW.seq)) | ((with_reducible apply Then.n)) | ((with_reducible apply AW.regL)) | ((with_reducible apply AW.condT); exact rfl; (focus (rfl)))))
  (refine AW.retD (l := [(4, _), (5, _)]) (by repeat (first | exact trivial | (refine And.intro ⟨rfl, by (first | exact .int _ _ | exact Ren.of_g0 rfl)⟩ ?_))) ?_; (repeat (first | refine Then.r ?_ | refine InBlk.r ?_)))
  exact ⟨_, rfl, rfl, rfl⟩
set_option maxHeartbeats 8000000 in
set_option maxRecDepth 100000 in
theorem RFirstFit_ok {m : AM} {v : Value} {l : List Int} {n : Int} (hl : Ints m v l) (hok : stripsB n l = true) :
    ACall Tryd.prog 58 #[.int .i64 n, v] m (NewT (fun N => .tuple #[.slice (some ⟨N, 0, none⟩) l.length l.length, .int .i64 0]) (some { cells := iv (ffO n l 0 l.length) }) m) := by
  have h := SpOk.of hok
  have hn1 := h.n1
  have hn2 := h.n2
  have hl14 := h.len
  have hat := h.at_
  obtain ⟨a, o, h1, h2, h3⟩ := id hl
  rw [ffO_end 0 (-1)]
  refine ACall.start Tryd.func58 rfl rfl ?_
  (repeat (first | (with_reducible refine AWo.cons ?_) | ((with_reducible refine Step.id ?_); first | ((with_reducible apply Step.move); exact rfl; exact rfl) | ((with_reducible apply Step.assign); exact rfl; exact rfl) | ((with_reducible apply Step.len); exact rfl; (focus (first | assumption | exact Sl.mk (by omega))); (focus (decide +kernel)); exact rfl) | ((with_reducible apply Step.not); exact rfl; exact rfl) | ((with_reducible apply Step.callR fit); exact rfl; exact Tryd.func61; exact rfl; exact rfl; exact (RStrips_ok (hl.old _) (by omega) hok)) | ((with_reducible apply Step.make1 0); exact rfl; exact rfl; exact rfl; exact el47; (focus (omega)); exact rfl; (focus (first | (simp only [List.nil_append, List.cons_append, List.set_cons_zero, List.set_cons_succ, iv_set, bv_set, iv_rep, bv_rep]; done) | (simp only [List.nil_append, List.cons_append, List.set_cons_zero, List.set_cons_succ, iv_set, bv_set, iv_rep, bv_rep]; rfl) | rfl)))) | (with_reducible refine AWo.nil ?_) | ((with_reducible apply AW.seq)) | ((with_reducible apply Then.n)) | ((with_reducible apply AW.regL)) | ((with_reducible apply AW.block)) | ((with_reducible apply AW.skip)) | ((with_reducible apply AW.condF); exact rfl; (focus (rfl)))))
  rw [negL_zero]
  refine AW.loopT (fun q t L => ∃ i : Nat, q = l.length - i ∧ i ≤ l.length ∧ L = [some { cells := iv (negL l.length i) }] ∧
    t = [(0, .int .i64 n), (1, v), (6, .slice (some ⟨m.length + 0, 0, none⟩) l.length l.length), (21, .int .i64 (l.length : Nat)), (22, .int .i64 (i : Nat))]) ⟨_, _, _, (Or.inl ⟨rfl, (by repeat (first | exact trivial | (refine And.intro rfl ?_)))⟩), 0, rfl, Nat.zero_le _, rfl, rfl⟩ ?_
  rintro q t L ⟨i, rfl, hi, rfl, rfl⟩
  rcases Nat.lt_or_ge i l.length with hil | hil
  · have hset := negL_set (n := l.length) (i := i)
    have hln := negL_len l.length i
    (repeat (first | (with_reducible refine AWo.cons ?_) | ((with_reducible refine Step.id ?_); first | ((with_reducible apply Step.move); exact rfl; exact rfl) | ((with_reducible apply Step.assign); exact rfl; exact rfl) | ((with_reducible apply Step.ix1z); exact rfl; (focus (exact Sl.mk (by omega))); exact rfl; (focus (decide +kernel)); exact rfl; (focus (omega))) | ((with_reducible apply Step.add); exact rfl; exact rfl; (focus (omega)); exact rfl) | ((with_reducible apply Step.lss); exact rfl; exact rfl; exact rfl) | ((with_reducible apply Step.store (k := 0)); exact rfl; exact rfl; exact rfl; exact rfl; (focus (decide +kernel)); exact rfl; exact rfl; (focus (first | omega | (simp [iv, bv]; done) | (simp [iv, bv]; omega))); (focus (first | (simp only [List.nil_append, List.cons_append, List.set_cons_zero, List.set_cons_succ, iv_set, bv_set, iv_rep, bv_rep]; done) | (simp only [List.nil_append, List.cons_append, List.set_cons_zero, List.set_cons_succ, iv_set, bv_set, iv_rep, bv_rep]; rfl) | rfl)))) | (with_reducible refine AWo.nil ?_) | ((with_reducible apply AW.seq)) | ((with_reducible apply Then.n)) | ((with_reducible apply AW.regL)) | ((with_reducible apply AW.block)) | ((with_reducible apply InBlk.n)) | ((with_reducible apply AW.skip)) | ((with_reducible apply AW.condT); exact rfl; (focus ((simp only [decide_eq_true_eq, decide_eq_false_iff_not, Bool.not_eq_true', Bool.not_eq_false', Bool.not_true, Bool.not_false]; first | assumption | omega))))))
    exact ⟨_, _, _, by omega, (Or.inl ⟨rfl, (by repeat (first | exact trivial | (refine And.intro rfl ?_)))⟩), i + 1, rfl, by omega, by rw [hset], rfl⟩
  · obtain rfl : i = l.length := by omega
    rw [negL_full n]
    (repeat (first | (with_reducible refine AWo.cons ?_) | ((with_reducible refine Step.id ?_); first | ((with_reducible apply Step.move); exact rfl; exact rfl) | ((with_reducible apply Step.assign); exact rfl; exact rfl) | ((with_reducible apply Step.lss); exact rfl; exact rfl; exact rfl) | ((with_reducible apply Step.len); exact rfl; (focus (assumption)); (focus (decide +kernel)); exact rfl)) | (with_reducible refine AWo.nil ?_) | ((with_reducible apply AW.seq)) | ((with_reducible apply Then.n)) | ((with_reducible apply AW.regL)) | ((with_reducible apply AW.block)) | ((with_reducible apply AW.exit)) | ((with_reducible apply InBlk.hit)) | ((with_reducible apply Then.e)) | ((with_reducible apply AW.condF); exact rfl; (focus ((simp only [decide_eq_true_eq, decide_eq_false_iff_not, Bool.not_eq_true', Bool.not_eq_false', Bool.not_true, Bool.not_false]; first | assumption | omega))))))
    refine AW.loopT (fun q t L => ∃ k : Nat, q = l.length - k ∧ k ≤ l.length ∧ L = [some { cells := iv (ffO n l (-1) k) }, gb (iv (ffL n l k)) 1] ∧
      t = [(0, .int .i64 n), (1, v), (6, .slice (some ⟨m.length + 0, 0, none⟩) l.length l.length), (8, gv (m.length + 1) (ffL n l k).length), (30, .int .i64 (l.length : Nat)), (31, .int .i64 (k : Nat))])
      ⟨_, _, [some { cells := iv (ffO n l (-1) 0) }, none], (Back.padC rfl (by repeat (first | exact trivial | (refine And.intro ⟨rfl, by (first | exact .int _ _ | exact Ren.of_gv (by first | (simp; done) | omega | (simp; omega)) | exact .slice _ _ _ _ (by first | (simp; done) | omega | (simp; omega)) | exact Ren.of_sl (by assumption) (by first | omega | (simp; omega)))⟩ ?_))) (by repeat (first | exact CellsP.nil | (refine CellsP.cons ?_ ?_; (focus (exact cells_iv _)))))), 0, rfl, Nat.zero_le _, rfl, rfl⟩ ?_
    rintro q t L ⟨k, rfl, hk, rfl, rfl⟩
    rcases Nat.lt_or_ge k l.length with hkl | hkl
    · obtain ⟨mt, hmt⟩ : ∃ mt : List Bool, ∀ i : Nat, i < l.length → mt.getD i false = decide ((i : Int) ∈ (ordL l).take k) :=
        ⟨(List.range l.length).map fun i : Nat => decide ((i : Int) ∈ (ordL l).take k), fun i hi => by simp [hi]⟩
      have hneg := fun (i : Nat) (hi : i < l.length) => ffO_neg (n := n) (l := l) (i := i) hi hk
      have lO := ffO_len n l (-1) k
      have hO : ffO n l (-1) (k + 1) = (ffO n l (-1) k).set (oi l k) (ffK n l k : Nat) := rfl
      (repeat (first | (with_reducible refine AWo.cons ?_) | ((with_reducible refine Step.id ?_); first | ((with_reducible apply Step.move); exact rfl; exact rfl) | ((with_reducible apply Step.assign); exact rfl; exact rfl) | ((with_reducible apply Step.lss); exact rfl; exact rfl; exact rfl) | ((with_reducible apply Step.len); exact rfl; (focus (assumption)); (focus (decide +kernel)); exact rfl)) | (with_reducible refine AWo.nil ?_) | ((with_reducible apply AW.seq)) | ((with_reducible apply Then.n)) | ((with_reducible apply AW.regL)) | ((with_reducible apply AW.block)) | ((with_reducible apply AW.skip)) | ((with_reducible apply AW.condT); exact rfl; (focus ((simp only [decide_eq_true_eq, decide_eq_false_iff_not, Bool.not_eq_true', Bool.not_eq_false', Bool.not_true, Bool.not_false]; first | assumption | omega))))))
      refine AW.loopT (fun q t L => ∃ (j : Nat) (x : Int), q = l.length - j ∧ j ≤ l.length ∧ Pick l mt j x ∧ L = [some { cells := iv (ffO n l (-1) k) }, gb (iv (ffL n l k)) 1] ∧
        t = [(0, .int .i64 n), (1, v), (6, .slice (some ⟨m.length + 0, 0, none⟩) l.length l.length), (8, gv (m.length + 1) (ffL n l k).length), (30, .int .i64 (l.length : Nat)), (31, .int .i64 (k : Nat)), (9, .int .i64 x), (33, v), (34, .int .i64 (l.length : Nat)), (35, .int .i64 (j : Nat))]) ⟨_, _, _, (Or.inl ⟨rfl, (by repeat (first | exact trivial | (refine And.intro rfl ?_)))⟩), 0, -1, rfl, Nat.zero_le _, Pick.zero l mt, rfl, rfl⟩ ?_
      rintro q t L ⟨j, x, rfl, hj, hpk, rfl, rfl⟩
      rcases Nat.lt_or_ge j l.length with hjl | hjl
      · have hrj := h3 j hjl
        have hm := hmt j hjl
        have hn := hneg j hjl
        rw [← hm] at hn
        have r1 : ∀ T, Rd (m ++ (some { cells := iv (ffO n l (-1) k) } :: T)) (m.length + 0) j (.int .i64 ((ffO n l (-1) k).getD j 0)) := fun T => Rd.new rfl (iv_get (by omega))
        cases hmj : mt.getD j false with
        | true =>
          rw [hmj] at hn
          simp only [Bool.not_true, decide_eq_false_iff_not] at hn
          generalize (ffO n l (-1) k).getD j 0 = z at *
          (repeat (first | (with_reducible refine AWo.cons ?_) | ((with_reducible refine Step.id ?_); first | ((with_reducible apply Step.gdU); exact rfl; exact rfl) | ((with_reducible apply Step.gdF); exact rfl; exact rfl; (focus ((simp only [decide_eq_true_eq, decide_eq_false_iff_not, Bool.not_eq_true', Bool.not_eq_false', Bool.not_true, Bool.not_false]; first | assumption | omega)))) | ((with_reducible apply Step.move); exact rfl; exact rfl) | ((with_reducible apply Step.assign); exact rfl; exact rfl) | ((with_reducible apply Step.load); exact rfl; (focus (decide +kernel)); exact rfl; (focus (first | exact r1 _ | exact Rd.old _ (by assumption)))) | ((with_reducible apply Step.ix1z); exact rfl; (focus (exact Sl.mk (by omega))); exact rfl; (focus (decide +kernel)); exact rfl; (focus (omega))) | ((with_reducible apply Step.ix1); exact rfl; (focus (assumption)); exact rfl; (focus (decide +kernel)); exact rfl; (focus (omega))) | ((with_reducible apply Step.add); exact rfl; exact rfl; (focus (omega)); exact rfl) | ((with_reducible apply Step.lss); exact rfl; exact rfl; exact rfl) | ((with_reducible apply Step.pickF); exact rfl; exact rfl; exact rfl; exact rfl; (focus ((simp only [decide_eq_true_eq, decide_eq_false_iff_not, Bool.not_eq_true', Bool.not_eq_false', Bool.not_true, Bool.not_false]; first | assumption | omega))))) | (with_reducible refine AWo.nil ?_) | ((with_reducible apply AW.seq)) | ((with_reducible apply Then.n)) | ((with_reducible apply AW.regL)) | ((with_reducible apply AW.block)) | ((with_reducible apply InBlk.n)) | ((with_reducible apply AW.skip)) | ((with_reducible apply AW.condT); exact rfl; (focus ((simp only [decide_eq_true_eq, decide_eq_false_iff_not, Bool.not_eq_true', Bool.not_eq_false', Bool.not_true, Bool.not_false]; first | assumption | omega)))) | ((with_reducible apply AW.condF); exact rfl; (focus (rfl)))))
          exact ⟨_, _, _, by omega, (Or.inl ⟨rfl, (by repeat (first | exact trivial | (refine And.intro rfl ?_)))⟩), j + 1, x, rfl, by omega, hpk.met hmj, rfl, rfl⟩
        | false =>
          rw [hmj] at hn
          simp only [Bool.not_false, decide_eq_true_eq] at hn
          generalize (ffO n l (-1) k).getD j 0 = z at *
          by_cases hx : x < 0
          · (repeat (first | (with_reducible refine AWo.cons ?_) | ((with_reducible refine Step.id ?_); first | ((with_reducible apply Step.gdT); exact rfl; exact rfl; (focus ((simp only [decide_eq_true_eq, decide_eq_false_iff_not, Bool.not_eq_true', Bool.not_eq_false', Bool.not_true, Bool.not_false]; first | assumption | omega)))) | ((with_reducible apply Step.gdF); exact rfl; exact rfl; (focus ((simp only [decide_eq_true_eq, decide_eq_false_iff_not, Bool.not_eq_true', Bool.not_eq_false', Bool.not_true, Bool.not_false]; first | assumption | omega)))) | ((with_reducible apply Step.move); exact rfl; exact rfl) | ((with_reducible apply Step.assign); exact rfl; exact rfl) | ((with_reducible apply Step.load); exact rfl; (focus (decide +kernel)); exact rfl; (focus (first | exact r1 _ | exact Rd.old _ (by assumption)))) | ((with_reducible apply Step.ix1z); exact rfl; (focus (exact Sl.mk (by omega))); exact rfl; (focus (decide +kernel)); exact rfl; (focus (omega))) | ((with_reducible apply Step.ix1); exact rfl; (focus (assumption)); exact rfl; (focus (decide +kernel)); exact rfl; (focus (omega))) | ((with_reducible apply Step.add); exact rfl; exact rfl; (focus (omega)); exact rfl) | ((with_reducible apply Step.lss); exact rfl; exact rfl; exact rfl) | ((with_reducible apply Step.pickT); exact rfl; exact rfl; exact rfl; exact rfl; (focus ((simp only [decide_eq_true_eq, decide_eq_false_iff_not, Bool.not_eq_true', Bool.not_eq_false', Bool.not_true, Bool.not_false]; first | assumption | omega))))) | (with_reducible refine AWo.nil ?_) | ((with_reducible apply AW.seq)) | ((with_reducible apply Then.n)) | ((with_reducible apply AW.regL)) | ((with_reducible apply AW.block)) | ((with_reducible apply InBlk.n)) | ((with_reducible apply AW.skip)) | ((with_reducible apply AW.condT); exact rfl; (focus (first | rfl | (simp only [decide_eq_true_eq, decide_eq_false_iff_not, Bool.not_eq_true', Bool.not_eq_false', Bool.not_true, Bool.not_false]; first | assumption | omega))))))
            exact ⟨_, _, _, by omega, (Or.inl ⟨rfl, (by repeat (first | exact trivial | (refine And.intro rfl ?_)))⟩), j + 1, _, rfl, by omega, hpk.take hmj (.inl hx), rfl, rfl⟩
          · have hx0 : 0 ≤ x := by omega
            obtain ⟨y, rfl⟩ := Int.eq_ofNat_of_zero_le hx0
            have hyl := (hpk.some hx0).1
            have hry := h3 y (by omega)
            by_cases hgt : l.getD y 0 < l.getD j 0
            · (repeat (first | (with_reducible refine AWo.cons ?_) | ((with_reducible refine Step.id ?_); first | ((with_reducible apply Step.gdT); exact rfl; exact rfl; (focus (first | rfl | (simp only [decide_eq_true_eq, decide_eq_false_iff_not, Bool.not_eq_true', Bool.not_eq_false', Bool.not_true, Bool.not_false]; first | assumption | omega)))) | ((with_reducible apply Step.move); exact rfl; exact rfl) | ((with_reducible apply Step.assign); exact rfl; exact rfl) | ((with_reducible apply Step.load); exact rfl; (focus (decide +kernel)); exact rfl; (focus (first | exact r1 _ | exact Rd.old _ (by assumption)))) | ((with_reducible apply Step.ix1z); exact rfl; (focus (exact Sl.mk (by omega))); exact rfl; (focus (decide +kernel)); exact rfl; (focus (omega))) | ((with_reducible apply Step.ix1); exact rfl; (focus (assumption)); exact rfl; (focus (decide +kernel)); exact rfl; (focus (omega))) | ((with_reducible apply Step.add); exact rfl; exact rfl; (focus (omega)); exact rfl) | ((with_reducible apply Step.lss); exact rfl; exact rfl; exact rfl) | ((with_reducible apply Step.gtr); exact rfl; exact rfl; exact rfl) | ((with_reducible apply Step.pickT); exact rfl; exact rfl; exact rfl; exact rfl; (focus ((simp only [decide_eq_true_eq, decide_eq_false_iff_not, Bool.not_eq_true', Bool.not_eq_false', Bool.not_true, Bool.not_false]; first | assumption | omega)))) | ((with_reducible apply Step.pickF); exact rfl; exact rfl; exact rfl; exact rfl; (focus (rfl)))) | (with_reducible refine AWo.nil ?_) | ((with_reducible apply AW.seq)) | ((with_reducible apply Then.n)) | ((with_reducible apply AW.regL)) | ((with_reducible apply AW.block)) | ((with_reducible apply InBlk.n)) | ((with_reducible apply AW.skip)) | ((with_reducible apply AW.condT); exact rfl; (focus ((simp only [decide_eq_true_eq, decide_eq_false_iff_not, Bool.not_eq_true', Bool.not_eq_false', Bool.not_true, Bool.not_false]; first | assumption | omega))))))
              exact ⟨_, _, _, by omega, (Or.inl ⟨rfl, (by repeat (first | exact trivial | (refine And.intro rfl ?_)))⟩), j + 1, _, rfl, by omega, hpk.take hmj (.inr ⟨hx0, by rw [Int.toNat_natCast]; exact hgt⟩), rfl, rfl⟩
            · (repeat (first | (with_reducible refine AWo.cons ?_) | ((with_reducible refine Step.id ?_); first | ((with_reducible apply Step.gdT); exact rfl; exact rfl; (focus (first | rfl | (simp only [decide_eq_true_eq, decide_eq_false_iff_not, Bool.not_eq_true', Bool.not_eq_false', Bool.not_true, Bool.not_false]; first | assumption | omega)))) | ((with_reducible apply Step.move); exact rfl; exact rfl) | ((with_reducible apply Step.assign); exact rfl; exact rfl) | ((with_reducible apply Step.load); exact rfl; (focus (decide +kernel)); exact rfl; (focus (first | exact r1 _ | exact Rd.old _ (by assumption)))) | ((with_reducible apply Step.ix1z); exact rfl; (focus (exact Sl.mk (by omega))); exact rfl; (focus (decide +kernel)); exact rfl; (focus (omega))) | ((with_reducible apply Step.ix1); exact rfl; (focus (assumption)); exact rfl; (focus (decide +kernel)); exact rfl; (focus (omega))) | ((with_reducible apply Step.add); exact rfl; exact rfl; (focus (omega)); exact rfl) | ((with_reducible apply Step.lss); exact rfl; exact rfl; exact rfl) | ((with_reducible apply Step.gtr); exact rfl; exact rfl; exact rfl) | ((with_reducible apply Step.pickT); exact rfl; exact rfl; exact rfl; exact rfl; (focus ((simp only [decide_eq_true_eq, decide_eq_false_iff_not, Bool.not_eq_true', Bool.not_eq_false', Bool.not_true, Bool.not_false]; first | assumption | omega)))) | ((with_reducible apply Step.pickF); exact rfl; exact rfl; exact rfl; exact rfl; (focus (rfl)))) | (with_reducible refine AWo.nil ?_) | ((with_reducible apply AW.seq)) | ((with_reducible apply Then.n)) | ((with_reducible apply AW.regL)) | ((with_reducible apply AW.block)) | ((with_reducible apply InBlk.n)) | ((with_reducible apply AW.skip)) | ((with_reducible apply AW.condT); exact rfl; (focus ((simp only [decide_eq_true_eq, decide_eq_false_iff_not, Bool.not_eq_true', Bool.not_eq_false', Bool.not_true, Bool.not_false]; first | assumption | omega)))) | ((with_reducible apply AW.condF); exact rfl; (focus ((simp only [decide_eq_true_eq, decide_eq_false_iff_not, Bool.not_eq_true', Bool.not_eq_false', Bool.not_true, Bool.not_false]; first | assumption | omega))))))
              exact ⟨_, _, _, by omega, (Or.inl ⟨rfl, (by repeat (first | exact trivial | (refine And.intro rfl ?_)))⟩), j + 1, _, rfl, by omega, hpk.stay hx0 (by rw [Int.toNat_natCast]; omega), rfl, rfl⟩
      · obtain rfl : j = l.length := by omega
        have hxe := hpk.eq hkl hmt
        obtain ⟨ho1, ho2⟩ := oi_lt hkl
        rw [ho2] at hxe
        subst hxe
        have hni := hneg (oi l k) ho1
        have hnot : ¬ ((oi l k : Nat) : Int) ∈ (ordL l).take k := fun hmem => by
          obtain ⟨j, hj, e⟩ := (mem_take_oi hk).1 hmem
          have := oi_inj (by omega) hkl e
          omega
        rw [decide_eq_false hnot] at hni
        simp only [Bool.not_false, decide_eq_true_eq] at hni
        clear hpk hmt hneg
        have hr := h3 (oi l k) ho1
        have hx := hat (oi l k) ho1
        have hbd := fun b => lf_bd h hk b
        have hfs : (ffL n l k).length ≤ k := ffL_bars n l k
        have hle := ffB_le n (ffL n l k) (l.getD (oi l k) 0)
        change ffK n l k ≤ _ at hle
        have hfull : ∀ b, b < ffK n l k → n < (ffL n l k).getD b 0 + l.getD (oi l k) 0 := fun b hb => ffB_full hb
        have hroom : ffK n l k < (ffL n l k).length → (ffL n l k).getD (ffK n l k) 0 + l.getD (oi l k) 0 ≤ n := fun hb => ffB_room hb
        have hhit := fun hb => ffL_hit (n := n) (l := l) (k := k) hb
        have hmiss := fun hb => ffL_miss (n := n) (l := l) (k := k) hb
        generalize hO' : ffO n l (-1) (k + 1) = out' at *
        generalize hF' : ffL n l (k + 1) = fs' at *
        generalize ffO n l (-1) k = out at *
        generalize ffL n l k = fs at *
        generalize ffK n l k = K at *
        generalize l.getD (oi l k) 0 = x at *
        generalize oi l k = i at *
        have hof : 0 < fs'.length ∧ out'.length = l.length ∧ out'.getD i 0 = (K : Nat) := by
          refine ⟨?_, by rw [hO, List.length_set]; exact lO, by rw [hO, getD_set _ _ _ _ (by omega), if_pos rfl]⟩
          by_cases hh : K < fs.length
          · rw [hhit hh, List.length_set]; omega
          · rw [(hmiss hh).1]; simp
        (repeat (first | (with_reducible refine AWo.cons ?_) | ((with_reducible refine Step.id ?_); first | ((with_reducible apply Step.assign); exact rfl; exact rfl) | ((with_reducible apply Step.lss); exact rfl; exact rfl; exact rfl)) | (with_reducible refine AWo.nil ?_) | ((with_reducible apply AW.seq)) | ((with_reducible apply Then.n)) | ((with_reducible apply AW.regL)) | ((with_reducible apply AW.block)) | ((with_reducible apply AW.exit)) | ((with_reducible apply InBlk.hit)) | ((with_reducible apply Then.e)) | ((with_reducible apply AW.condF); exact rfl; (focus ((simp only [decide_eq_true_eq, decide_eq_false_iff_not, Bool.not_eq_true', Bool.not_eq_false', Bool.not_true, Bool.not_false]; first | assumption | omega))))))
        refine AW.loopT (fun q t L => (∃ b : Nat, q = K - b + 1 ∧ b ≤ K ∧ L = [some { cells := iv out }, gb (iv fs) 1] ∧
          t = [(0, .int .i64 n), (1, v), (6, .slice (some ⟨m.length + 0, 0, none⟩) l.length l.length), (8, gv (m.length + 1) fs.length), (30, .int .i64 (l.length : Nat)), (31, .int .i64 (k : Nat)), (9, .int .i64 (i : Nat)), (12, .int .i64 (b : Nat))]) ∨
          (q = 0 ∧ L = [some { cells := iv out' }, gb (iv fs') 1] ∧
          t = [(0, .int .i64 n), (1, v), (6, .slice (some ⟨m.length + 0, 0, none⟩) l.length l.length), (8, gv (m.length + 1) fs'.length), (30, .int .i64 (l.length : Nat)), (31, .int .i64 (k : Nat)), (9, .int .i64 (i : Nat)), (12, .int .i64 (K + 1 : Nat))])) ⟨_, _, _, (Or.inl ⟨rfl, (by repeat (first | exact trivial | (refine And.intro rfl ?_)))⟩), .inl ⟨0, rfl, Nat.zero_le _, rfl, rfl⟩⟩ ?_
        rintro q t L (⟨b, rfl, hb, rfl, rfl⟩ | ⟨rfl, rfl, rfl⟩)
        · have r1 : ∀ T, Rd (m ++ (some { cells := iv out } :: T)) (m.length + 0) i (.int .i64 (out.getD i 0)) := fun T => Rd.new rfl (iv_get (by omega))
          rcases Nat.lt_or_ge b K with hbK | hbK
          · have hfb := hfull b hbK
            have hbb := hbd b
            rw [gb_pos (by simp [iv]; omega), gv_pos (by omega)]
            have r2 : Rd (m ++ [some { cells := iv out }, some { cells := iv fs, kind := .grow, size := 1 }]) (m.length + 1) b (.int .i64 (fs.getD b 0)) := Rd.new rfl (iv_get (by omega))
            generalize fs.getD b 0 = y at *
            generalize out.getD i 0 = z at *
            (repeat (first | (with_reducible refine AWo.cons ?_) | ((with_reducible refine Step.id ?_); first | ((with_reducible apply Step.move); exact rfl; exact rfl) | ((with_reducible apply Step.assign); exact rfl; exact rfl) | ((with_reducible apply Step.load); exact rfl; (focus (decide +kernel)); exact rfl; (focus (first | assumption | exact r1 _ | exact Rd.old _ (by assumption)))) | ((with_reducible apply Step.ix1z); exact rfl; (focus (exact Sl.mk (by omega))); exact rfl; (focus (decide +kernel)); exact rfl; (focus (omega))) | ((with_reducible apply Step.ix1); exact rfl; (focus (assumption)); exact rfl; (focus (decide +kernel)); exact rfl; (focus (omega))) | ((with_reducible apply Step.add); exact rfl; exact rfl; (focus (omega)); exact rfl) | ((with_reducible apply Step.lss); exact rfl; exact rfl; exact rfl) | ((with_reducible apply Step.leq); exact rfl; exact rfl; exact rfl) | ((with_reducible apply Step.eql); exact rfl; exact rfl; exact rfl) | ((with_reducible apply Step.len); exact rfl; (focus (exact Sl.mk (by omega))); (focus (decide +kernel)); exact rfl)) | (with_reducible refine AWo.nil ?_) | ((with_reducible apply AW.seq)) | ((with_reducible apply Then.n)) | ((with_reducible apply AW.regL)) | ((with_reducible apply AW.block)) | ((with_reducible apply AW.drawL fit); (focus (decide +kernel))) | ((with_reducible apply InBlk.n)) | ((with_reducible apply AW.skip)) | ((with_reducible apply AW.condT); exact rfl; (focus ((simp only [decide_eq_true_eq, decide_eq_false_iff_not, Bool.not_eq_true', Bool.not_eq_false', Bool.not_true, Bool.not_false]; first | assumption | omega)))) | ((with_reducible apply AW.condF); exact rfl; (focus ((simp only [decide_eq_true_eq, decide_eq_false_iff_not, Bool.not_eq_true', Bool.not_eq_false', Bool.not_true, Bool.not_false]; first | assumption | omega))))))
            exact ⟨_, [(0, .int .i64 n), (1, v), (6, .slice (some ⟨m.length + 0, 0, none⟩) l.length l.length), (8, (.slice (some ⟨m.length + 1, 0, none⟩) fs.length fs.length)), (30, .int .i64 (l.length : Nat)), (31, .int .i64 (k : Nat)), (9, .int .i64 (i : Nat)), (12, .int .i64 (b + 1 : Nat))], [some { cells := iv out }, some { cells := iv fs, kind := .grow, size := 1 }], by omega, (Or.inl ⟨rfl, (by repeat (first | exact trivial | (refine And.intro rfl ?_)))⟩), .inl ⟨b + 1, rfl, by omega, rfl, rfl⟩⟩
          · obtain rfl : b = K := by omega
            by_cases hh : b < fs.length
            · have hfb := hroom hh
              have hbb := hbd b
              have hfe := hhit hh
              rw [gb_pos (by simp [iv]; omega), gv_pos (by omega)]
              have r2 : Rd (m ++ [some { cells := iv out }, some { cells := iv fs, kind := .grow, size := 1 }]) (m.length + 1) b (.int .i64 (fs.getD b 0)) := Rd.new rfl (iv_get (by omega))
              generalize fs.getD b 0 = y at *
              generalize out.getD i 0 = z at *
              (repeat (first | (with_reducible refine AWo.cons ?_) | ((with_reducible refine Step.id ?_); first | ((with_reducible apply Step.move); exact rfl; exact rfl) | ((with_reducible apply Step.assign); exact rfl; exact rfl) | ((with_reducible apply Step.load); exact rfl; (focus (decide +kernel)); exact rfl; (focus (first | assumption | exact r1 _ | exact Rd.old _ (by assumption)))) | ((with_reducible apply Step.ix1z); exact rfl; (focus (exact Sl.mk (by omega))); exact rfl; (focus (decide +kernel)); exact rfl; (focus (omega))) | ((with_reducible apply Step.ix1); exact rfl; (focus (assumption)); exact rfl; (focus (decide +kernel)); exact rfl; (focus (omega))) | ((with_reducible apply Step.add); exact rfl; exact rfl; (focus (omega)); exact rfl) | ((with_reducible apply Step.lss); exact rfl; exact rfl; exact rfl) | ((with_reducible apply Step.leq); exact rfl; exact rfl; exact rfl) | ((with_reducible apply Step.eql); exact rfl; exact rfl; exact rfl) | ((with_reducible apply Step.len); exact rfl; (focus (exact Sl.mk (by omega))); (focus (decide +kernel)); exact rfl) | ((with_reducible apply Step.store (k := 0)); exact rfl; exact rfl; exact rfl; exact rfl; (focus (decide +kernel)); exact rfl; exact rfl; (focus (first | omega | (simp [iv, bv]; done) | (simp [iv, bv]; omega))); (focus (first | (simp only [List.nil_append, List.cons_append, List.set_cons_zero, List.set_cons_succ, iv_set, bv_set, iv_rep, bv_rep]; done) | (simp only [List.nil_append, List.cons_append, List.set_cons_zero, List.set_cons_succ, iv_set, bv_set, iv_rep, bv_rep]; rfl) | rfl))) | ((with_reducible apply Step.store (k := 1)); exact rfl; exact rfl; exact rfl; exact rfl; (focus (decide +kernel)); exact rfl; exact rfl; (focus (first | omega | (simp [iv, bv]; done) | (simp [iv, bv]; omega))); (focus (first | (simp only [List.nil_append, List.cons_append, List.set_cons_zero, List.set_cons_succ, iv_set, bv_set, iv_rep, bv_rep]; done) | (simp only [List.nil_append, List.cons_append, List.set_cons_zero, List.set_cons_succ, iv_set, bv_set, iv_rep, bv_rep]; rfl) | rfl)))) | (with_reducible refine AWo.nil ?_) | ((with_reducible apply AW.seq)) | ((with_reducible apply Then.n)) | ((with_reducible apply AW.regL)) | ((with_reducible apply AW.block)) | ((with_reducible apply AW.drawL fit); (focus (decide +kernel))) | ((with_reducible apply InBlk.n)) | ((with_reducible apply AW.skip)) | ((with_reducible apply AW.condT); exact rfl; (focus ((simp only [decide_eq_true_eq, decide_eq_false_iff_not, Bool.not_eq_true', Bool.not_eq_false', Bool.not_true, Bool.not_false]; first | assumption | omega)))) | ((with_reducible apply AW.condF); exact rfl; (focus ((simp only [decide_eq_true_eq, decide_eq_false_iff_not, Bool.not_eq_true', Bool.not_eq_false', Bool.not_true, Bool.not_false]; first | assumption | omega))))))
              exact ⟨_, [(0, .int .i64 n), (1, v), (6, .slice (some ⟨m.length + 0, 0, none⟩) l.length l.length), (8, (.slice (some ⟨m.length + 1, 0, none⟩) fs.length fs.length)), (30, .int .i64 (l.length : Nat)), (31, .int .i64 (k : Nat)), (9, .int .i64 (i : Nat)), (12, .int .i64 (b + 1 : Nat))], [some { cells := iv (out.set i b) }, some { cells := iv (fs.set b (y + x)), kind := .grow, size := 1 }], by omega, (Or.inl ⟨rfl, (by repeat (first | exact trivial | (refine And.intro rfl ?_)))⟩), .inr ⟨rfl, by rw [hO, hfe, gb_pos (by simp [iv]; omega)], by rw [hfe, List.length_set, gv_pos (by omega)]⟩⟩
            · obtain ⟨hfe, hbe⟩ := hmiss hh
              subst hbe
              have r4 : Rd (m ++ [some { cells := iv out }, none, some { cells := [.int .i64 0] }, some { cells := iv (fs ++ [0]), kind := .grow, size := 1 }]) (m.length + 3) fs.length (.int .i64 0) := by
                have e : (fs ++ [0]).getD fs.length 0 = 0 := by simp
                have := iv_get (l := fs ++ [0]) (k := fs.length) (by simp)
                rw [e] at this
                exact Rd.new (k := 3) rfl this
              have liv : (iv fs).length = fs.length * 1 := by simp [iv]
              have hl1 : (fs ++ [0]).length = fs.length + 1 := by simp
              generalize out.getD i 0 = z at *
              (repeat (first | (with_reducible refine AWo.cons ?_) | ((with_reducible refine Step.id ?_); first | ((with_reducible apply Step.move); exact rfl; exact rfl) | ((with_reducible apply Step.load); exact rfl; (focus (decide +kernel)); exact rfl; (focus (exact r1 _))) | ((with_reducible apply Step.ix1z); exact rfl; (focus (exact Sl.mk (by omega))); exact rfl; (focus (decide +kernel)); exact rfl; (focus (omega))) | ((with_reducible apply Step.lss); exact rfl; exact rfl; exact rfl) | ((with_reducible apply Step.eql); exact rfl; exact rfl; exact rfl) | ((with_reducible apply Step.len); exact rfl; (focus (exact gv_sl _ _)); (focus (decide +kernel)); exact rfl) | ((with_reducible apply Step.buildS 2); exact rfl; exact rfl; exact (fun _ _ => bs47a); exact rfl; (focus (first | (simp only [List.nil_append, List.cons_append, List.set_cons_zero, List.set_cons_succ, iv_set, bv_set, iv_rep, bv_rep]; done) | (simp only [List.nil_append, List.cons_append, List.set_cons_zero, List.set_cons_succ, iv_set, bv_set, iv_rep, bv_rep]; rfl) | rfl)))) | (with_reducible refine AWo.nil ?_) | ((with_reducible apply AW.seq)) | ((with_reducible apply Then.n)) | ((with_reducible apply AW.regL)) | ((with_reducible apply AW.block)) | ((with_reducible apply AW.skip)) | ((with_reducible apply AW.condT); exact rfl; (focus (first | (simp only [decide_eq_true_eq, decide_eq_false_iff_not, Bool.not_eq_true', Bool.not_eq_false', Bool.not_true, Bool.not_false]; first | assumption | omega) | (simp; done))))))
              ((with_reducible apply Step.appG (k := 3) (q := 1) (r := 2) (n := fs.length) (xl := 1)); exact rfl; exact rfl; exact rfl; exact el47; exact un47s; exact rfl; exact rfl; exact rfl; exact liv; exact rfl; exact rfl; (focus (kernel_rfl)); (focus (omega)); exact rfl; (focus (first | (simp only [List.nil_append, List.cons_append, List.set_cons_zero, List.set_cons_succ, iv_set, bv_set, iv_rep, bv_rep]; done) | (simp only [List.nil_append, List.cons_append, List.set_cons_zero, List.set_cons_succ, iv_set, bv_set, iv_rep, bv_rep]; rfl) | rfl)))
              rw [show iv fs ++ [Value.int .i64 0] = iv (fs ++ [0]) from by simp [iv]]
              (repeat (first | (with_reducible refine AWo.cons ?_) | ((with_reducible refine Step.id ?_); first | ((with_reducible apply Step.move); exact rfl; exact rfl) | ((with_reducible apply Step.assign); exact rfl; exact rfl) | ((with_reducible apply Step.load); exact rfl; (focus (decide +kernel)); exact rfl; (focus (first | assumption | exact Rd.old _ (by assumption)))) | ((with_reducible apply Step.ix1z); exact rfl; (focus (exact Sl.mk (by omega))); exact rfl; (focus (decide +kernel)); exact rfl; (focus (omega))) | ((with_reducible apply Step.ix1); exact rfl; (focus (assumption)); exact rfl; (focus (decide +kernel)); exact rfl; (focus (omega))) | ((with_reducible apply Step.add); exact rfl; exact rfl; (focus (omega)); exact rfl) | ((with_reducible apply Step.leq); exact rfl; exact rfl; exact rfl) | ((with_reducible apply Step.store (k := 0)); exact rfl; exact rfl; exact rfl; exact rfl; (focus (decide +kernel)); exact rfl; exact rfl; (focus (first | omega | (simp [iv, bv]; done) | (simp [iv, bv]; omega))); (focus (first | (simp only [List.nil_append, List.cons_append, List.set_cons_zero, List.set_cons_succ, iv_set, bv_set, iv_rep, bv_rep]; done) | (simp only [List.nil_append, List.cons_append, List.set_cons_zero, List.set_cons_succ, iv_set, bv_set, iv_rep, bv_rep]; rfl) | rfl))) | ((with_reducible apply Step.store (k := 3)); exact rfl; exact rfl; exact rfl; exact rfl; (focus (decide +kernel)); exact rfl; exact rfl; (focus (first | omega | (simp [iv, bv]; done) | (simp [iv, bv]; omega))); (focus (first | (simp only [List.nil_append, List.cons_append, List.set_cons_zero, List.set_cons_succ, iv_set, bv_set, iv_rep, bv_rep]; done) | (simp only [List.nil_append, List.cons_append, List.set_cons_zero, List.set_cons_succ, iv_set, bv_set, iv_rep, bv_rep]; rfl) | rfl)))) | (with_reducible refine AWo.nil ?_) | ((with_reducible apply AW.seq)) | ((with_reducible apply Then.n)) | ((with_reducible apply AW.regL)) | ((with_reducible apply AW.drawL fit); (focus (decide +kernel))) | ((with_reducible apply InBlk.n)) | ((with_reducible apply AW.condT); exact rfl; (focus ((simp only [decide_eq_true_eq, decide_eq_false_iff_not, Bool.not_eq_true', Bool.not_eq_false', Bool.not_true, Bool.not_false]; first | assumption | omega))))))
              exact ⟨_, [(0, .int .i64 n), (1, v), (6, .slice (some ⟨m.length + 0, 0, none⟩) l.length l.length), (8, (.slice (some ⟨m.length + 1, 0, none⟩) (fs.length + 1) (fs.length + 1))), (30, .int .i64 (l.length : Nat)), (31, .int .i64 (k : Nat)), (9, .int .i64 (i : Nat)), (12, .int .i64 (fs.length + 1 : Nat))], [some { cells := iv (out.set i (fs.length : Nat)) }, some { cells := iv ((fs ++ [0]).set fs.length (0 + x)), kind := .grow, size := 1 }], by omega, (Back.mv 1 3 rfl rfl rfl rfl (by intro j b hj h; rcases j with _ | _ | _ | _ | _ | _ | j <;> simp_all) (by repeat (first | exact CellsOk.nil | refine CellsOk.cons (by exact g0_iv _) ?_)) (by repeat (first | exact trivial | (refine And.intro ⟨_, rfl, by (first | exact .int _ _ | exact Ren.slice_mv (by first | (simp; done) | omega | (simp; omega)) | exact Ren.slice_ne (by first | (simp; done) | omega | (simp; omega)) (by omega) | exact Ren.of_sl_ne (by assumption) (by first | omega | (simp; omega)) (by first | omega | (simp; omega)))⟩ ?_)))), .inr ⟨rfl, by rw [hO, hfe, gb_pos (by simp [iv])], by rw [hfe, List.length_set, hl1, gv_pos (by omega)]⟩⟩
        · obtain ⟨f1, f2, f3⟩ := hof
          have r1 : ∀ T, Rd (m ++ (some { cells := iv out' } :: T)) (m.length + 0) i (.int .i64 (K : Nat)) := fun T => by rw [← f3]; exact Rd.new rfl (iv_get (by omega))
          (repeat (first | (with_reducible refine AWo.cons ?_) | ((with_reducible refine Step.id ?_); first | ((with_reducible apply Step.move); exact rfl; exact rfl) | ((with_reducible apply Step.load); exact rfl; (focus (decide +kernel)); exact rfl; (focus (exact r1 _))) | ((with_reducible apply Step.ix1z); exact rfl; (focus (exact Sl.mk (by omega))); exact rfl; (focus (decide +kernel)); exact rfl; (focus (omega))) | ((with_reducible apply Step.add); exact rfl; exact rfl; (focus (omega)); exact rfl) | ((with_reducible apply Step.lss); exact rfl; exact rfl; exact rfl)) | (with_reducible refine AWo.nil ?_) | ((with_reducible apply AW.seq)) | ((with_reducible apply Then.n)) | ((with_reducible apply AW.regL)) | ((with_reducible apply AW.exit)) | ((with_reducible apply InBlk.n)) | ((with_reducible apply InBlk.hit)) | ((with_reducible apply Then.e)) | ((with_reducible apply AW.condF); exact rfl; (focus (rfl)))))
          exact ⟨_, [(0, .int .i64 n), (1, v), (6, .slice (some ⟨m.length + 0, 0, none⟩) l.length l.length), (8, gv (m.length + 1) fs'.length), (30, .int .i64 (l.length : Nat)), (31, .int .i64 (k + 1 : Nat))], _, by omega, (Or.inl ⟨rfl, (by repeat (first | exact trivial | (refine And.intro rfl ?_)))⟩), k + 1, rfl, by omega, by rw [hO', hF'], by rw [hF']⟩
    · obtain rfl : k = l.length := by omega
      (repeat (first | (with_reducible refine AWo.cons ?_) | ((with_reducible refine Step.id ?_); first | ((with_reducible apply Step.move); exact rfl; exact rfl) | ((with_reducible apply Step.assign); exact rfl; exact rfl) | ((with_reducible apply Step.lss); exact rfl; exact rfl; exact rfl)) | (with_reducible refine AWo.nil ?_) | ((with_reducible apply AW.seq)) | ((with_reducible apply Then.n)) | ((with_reducible apply AW.regL)) | ((with_reducible apply AW.exit)) | ((with_reducible apply InBlk.hit)) | ((with_reducible apply Then.e)) | ((with_reducible apply AW.condF); exact rfl; (focus ((simp only [decide_eq_true_eq, decide_eq_false_iff_not, Bool.not_eq_true', Bool.not_eq_false', Bool.not_true, Bool.not_false]; first | assumption | omega))))))
      refine AW.retB (l := [(4, .slice (some ⟨m.length + 0, 0, none⟩) l.length l.length), (5, .int .i64 0)]) (L1 := [some { cells := iv (ffO n l (-1) l.length) }]) (Back.trim rfl rfl (by repeat (first | exact CellsOk.nil | refine CellsOk.cons (by exact g0_iv _) ?_)) (by repeat (first | exact trivial | (refine And.intro ⟨rfl, by (first | exact .int _ _ | exact .slice _ _ _ _ (by first | (simp; done) | omega | (simp; omega)))⟩ ?_)))) ?_
      exact ⟨_, rfl, rfl, rfl⟩
end Go.Proofs.YtibhgdglbillaaaDoor.Abs
namespace Go.Proofs.YtibhgdglbillaaaDoor.Abs
set_option linter.unusedSimpArgs false
set_option linter.unusedVariables false
open Go.RowKit
open Go.Proofs.YtibhgdglbillaaaDoor.Sim
open Go.Proofs
set_option maxRecDepth 100000 in
theorem Floor_no {m : AM} {v : Value} {l : List Int} {n : Int} (hl : Ints m v l) (hlen : l.length ≤ 9223372036854775807) (hok : stripsB n l = false) : ACall Tryd.prog 59 #[.int .i64 n, v] m (Ret (.tuple #[.int .i64 0, .int .i64 2]) m) := by
  refine ACall.start Tryd.func59 rfl rfl ?_
  (repeat (first | (with_reducible refine AWo.cons ?_) | ((with_reducible refine Step.id ?_); first | ((with_reducible apply Step.move); exact rfl; exact rfl) | ((with_reducible apply Step.assign); exact rfl; exact rfl) | ((with_reducible apply Step.not); exact rfl; exact rfl) | ((with_reducible apply Step.callR fit); exact rfl; exact Tryd.func88; exact rfl; exact rfl; exact (valid_ok (hl.old _) hlen hok))) | (with_reducible refine AWo.nil ?_) | ((with_reducible apply AW.seq)) | ((with_reducible apply Then.n)) | ((with_reducible apply AW.regL)) | ((with_reducible apply AW.condT); exact rfl; (focus (rfl)))))
  (refine AW.retD (l := [(4, _), (5, _)]) (by repeat (first | exact trivial | (refine And.intro ⟨rfl, by (exact .int _ _)⟩ ?_))) ?_; (repeat (first | refine Then.r ?_ | refine InBlk.r ?_)))
  exact ⟨_, rfl, rfl, rfl⟩
set_option maxRecDepth 100000 in
theorem RFloor_no {m : AM} {v : Value} {l : List Int} {n : Int} (hl : Ints m v l) (hlen : l.length ≤ 9223372036854775807) (hok : stripsB n l = false) : ACall Tryd.prog 60 #[.int .i64 n, v] m (Ret (.tuple #[.int .i64 0, .int .i64 2]) m) := by
  refine ACall.start Tryd.func60 rfl rfl ?_
  (repeat (first | (with_reducible refine AWo.cons ?_) | ((with_reducible refine Step.id ?_); first | ((with_reducible apply Step.move); exact rfl; exact rfl) | ((with_reducible apply Step.assign); exact rfl; exact rfl) | ((with_reducible apply Step.not); exact rfl; exact rfl) | ((with_reducible apply Step.callR fit); exact rfl; exact Tryd.func61; exact rfl; exact rfl; exact (RStrips_ok (hl.old _) hlen hok))) | (with_reducible refine AWo.nil ?_) | ((with_reducible apply AW.seq)) | ((with_reducible apply Then.n)) | ((with_reducible apply AW.regL)) | ((with_reducible apply AW.condT); exact rfl; (focus (rfl)))))
  (refine AW.retD (l := [(4, _), (5, _)]) (by repeat (first | exact trivial | (refine And.intro ⟨rfl, by (exact .int _ _)⟩ ?_))) ?_; (repeat (first | refine Then.r ?_ | refine InBlk.r ?_)))
  exact ⟨_, rfl, rfl, rfl⟩
set_option maxRecDepth 100000 in
theorem CutFits_ok {m : AM} {v : Value} {l : List Int} {n : Int} (hl : Ints m v l) (hlen : l.length ≤ 9223372036854775807) : ACall Tryd.prog 15 #[.int .i64 n, v] m (Ret (.bool true) m) := by
  obtain ⟨a, o, h1, h2, h3⟩ := id hl
  have hM : 0 < m.length := by omega
  cases hok : stripsB n l with
  | false =>
    refine ACall.start Tryd.func15 rfl rfl ?_
    (repeat (first | (with_reducible refine AWo.cons ?_) | ((with_reducible refine Step.id ?_); first | ((with_reducible apply Step.gdT); exact rfl; exact rfl; (focus (rfl))) | ((with_reducible apply Step.move); exact rfl; exact rfl) | ((with_reducible apply Step.assign); exact rfl; exact rfl) | ((with_reducible apply Step.eql); exact rfl; exact rfl; exact rfl) | ((with_reducible apply Step.extract); exact rfl; exact rfl; exact rfl) | ((with_reducible apply Step.pickT); exact rfl; exact rfl; exact rfl; exact rfl; (focus (rfl))) | ((with_reducible apply Step.callR fit); exact rfl; exact Tryd.func57; exact rfl; exact rfl; exact (FirstFit_no (hl.old _) hlen hok)) | ((with_reducible apply Step.callR fit); exact rfl; exact Tryd.func58; exact rfl; exact rfl; exact (RFirstFit_no (hl.old _) hlen hok)) | ((with_reducible apply Step.callR fit); exact rfl; exact Tryd.func59; exact rfl; exact rfl; exact (Floor_no (hl.old _) hlen hok)) | ((with_reducible apply Step.callR fit); exact rfl; exact Tryd.func60; exact rfl; exact rfl; exact (RFloor_no (hl.old _) hlen hok)) | ((with_reducible apply Step.callR fit); exact rfl; exact Tryd.func40; exact rfl; exact rfl; exact (equalI_ok ((ints_nil hM).old _) ((ints_nil hM).old _) (by simp) rfl)) | ((with_reducible apply Step.callR fit); exact rfl; exact Tryd.func21; exact rfl; exact rfl; exact (awake_ok))) | (with_reducible refine AWo.nil ?_) | ((with_reducible apply AW.seq)) | ((with_reducible apply Then.n)) | ((with_reducible apply AW.regL))))
    (refine AW.retD (l := [(4, _)]) (by repeat (first | exact trivial | (refine And.intro ⟨rfl, by (exact .bool _)⟩ ?_))) ?_; (repeat (first | refine Then.r ?_ | refine InBlk.r ?_)))
    exact ⟨_, rfl, rfl, rfl⟩
  | true =>
    have h := SpOk.of hok
    have hl14 := h.len
    have lO := ffO_len n l 0 l.length
    have hA := fun T => FirstFit_ok (hl.old T) hok
    have hB := fun T => RFirstFit_ok (hl.old T) hok
    generalize ffO n l 0 l.length = out at *
    have eq := equalI_ok (m := m ++ [some { cells := iv out }, some { cells := iv out }]) (l := out) (k := out) (ints_new (k := 0) rfl rfl l.length lO.symm) (ints_new (k := 1) rfl rfl l.length lO.symm) (by omega) (b := true) (by simp)
    refine ACall.start Tryd.func15 rfl rfl ?_
    (repeat (first | (with_reducible refine AWo.cons ?_) | ((with_reducible refine Step.id ?_); first | ((with_reducible apply Step.gdT); exact rfl; exact rfl; (focus (first | rfl | (simp; done)))) | ((with_reducible apply Step.move); exact rfl; exact rfl) | ((with_reducible apply Step.assign); exact rfl; exact rfl) | ((with_reducible apply Step.eql); exact rfl; exact rfl; exact rfl) | ((with_reducible apply Step.extract); exact rfl; exact rfl; exact rfl) | ((with_reducible apply Step.pickT); exact rfl; exact rfl; exact rfl; exact rfl; (focus (first | rfl | (simp; done)))) | ((with_reducible apply Step.callT fit (k := 0)); exact rfl; exact rfl; exact Tryd.func57; exact rfl; exact rfl; exact (hA _); (focus (first | (simp only [List.nil_append, List.cons_append, List.set_cons_zero, List.set_cons_succ, iv_set, bv_set, iv_rep, bv_rep]; done) | (simp only [List.nil_append, List.cons_append, List.set_cons_zero, List.set_cons_succ, iv_set, bv_set, iv_rep, bv_rep]; rfl) | rfl))) | ((with_reducible apply Step.callT fit (k := 1)); exact rfl; exact rfl; exact Tryd.func58; exact rfl; exact rfl; exact (hB _); (focus (first | (simp only [List.nil_append, List.cons_append, List.set_cons_zero, List.set_cons_succ, iv_set, bv_set, iv_rep, bv_rep]; done) | (simp only [List.nil_append, List.cons_append, List.set_cons_zero, List.set_cons_succ, iv_set, bv_set, iv_rep, bv_rep]; rfl) | rfl))) | ((with_reducible apply Step.callR fit); exact rfl; exact Tryd.func59; exact rfl; exact rfl; exact (Floor_ok (hl.old _) hok)) | ((with_reducible apply Step.callR fit); exact rfl; exact Tryd.func60; exact rfl; exact rfl; exact (RFloor_ok (hl.old _) hok)) | ((with_reducible apply Step.callR fit); exact rfl; exact Tryd.func40; exact rfl; exact rfl; exact (eq)) | ((with_reducible apply Step.callR fit); exact rfl; exact Tryd.func21; exact rfl; exact rfl; exact (awake_ok))) | (with_reducible refine AWo.nil ?_) | ((with_reducible apply AW.seq)) | ((with_reducible apply Then.n)) | ((with_reducible apply AW.regL))))
    (refine AW.retD (l := [(4, _)]) (by repeat (first | exact trivial | (refine And.intro ⟨rfl, by (exact .bool _)⟩ ?_))) ?_; (repeat (first | refine Then.r ?_ | refine InBlk.r ?_)))
    exact ⟨_, rfl, by simp, rfl⟩
end Go.Proofs.YtibhgdglbillaaaDoor.Abs
namespace Go.Proofs.YtibhgdglbillaaaDoor.Abs
set_option linter.unusedSimpArgs false
set_option linter.unusedVariables false
open Go.RowKit
open Go.Proofs.YtibhgdglbillaaaDoor.Sim
open Go.ChangeShapes Go.WideShapes Go.Deep
def RelSelf (v : Value) : Prop := ∃ c, v = .agg c ∧ ∀ R, Rel R (.agg c) (.agg c)
def Okarg3 (W : World) (a : AR) : Prop := Okarg W a ∨ RelSelf a.1
theorem top_call3 {P : Program} {f : FuncId} {W : World} (ars : List AR) (h : ∀ a ∈ ars, Okarg3 W a) (hc : ACall P f (mkVs 0 ars).toArray (ars.map mkB) (Ret (.bool true) (ars.map mkB))) :
    Calls P f (ars.map (·.1)).toArray W fun e w' => e = .returned (.bool true) ∧ Below W.heap.size W w' := by
  let R : Pl := fun i => (ars[i]?).bind mkP
  have hm : MRep W.heap.size R (ars.map mkB) W := by
    refine ⟨fun i hi => ?_, fun i b hi => ?_, fun i j b c p q hi hj hb _ _ _ _ => ?_⟩
    · simp only [List.length_map] at hi
      simp [R, List.getElem?_eq_none hi]
    · rw [List.getElem?_map] at hi
      cases ha : ars[i]? with
      | none => rw [ha] at hi; cases hi
      | some a =>
        rw [ha] at hi
        simp only [Option.map_some, Option.some.injEq] at hi
        obtain ⟨v, c⟩ := a
        rcases h _ (List.mem_of_getElem? ha) with (h1 | ⟨bb, o, n, cap, h1, h2, h3, h4, h5⟩) | ⟨l, h1, hl⟩
        · simp only at h1
          cases v with
          | slice x n cap => cases x with
            | none => simp [mkB] at hi
            | some x => simp [g0] at h1
          | _ => simp [mkB] at hi
        · simp only at h1
          subst h1
          simp only [mkB, Option.some.injEq] at hi
          subst hi
          refine ⟨⟨bb, o, cap - n⟩, by simp [R, ha, mkP], h3, ?_⟩
          refine ⟨fun e => by simp at e, fun j x hj => ⟨x, h4 j x hj, g0_rel (h5 x (List.mem_of_getElem? hj))⟩⟩
        · simp only at h1
          subst h1
          simp [mkB] at hi
    · rw [List.getElem?_map] at hi
      cases ha : ars[i]? with
      | none => rw [ha] at hi; cases hi
      | some a =>
        rw [ha] at hi
        simp only [Option.map_some, Option.some.injEq] at hi
        obtain ⟨v, c'⟩ := a
        cases v with
        | slice x n cap => cases x with
          | none => simp [mkB] at hi
          | some x => simp only [mkB, Option.some.injEq] at hi; subst hi; cases hb
        | _ => simp [mkB] at hi
  have hargs : Rels R (mkVs 0 ars).toArray (ars.map (·.1)).toArray := by
    refine ⟨by simp [mkVs_len], fun i hi => ?_⟩
    simp only [List.size_toArray, mkVs_len] at hi
    have ha : ars[i]? = some ars[i] := List.getElem?_eq_getElem hi
    have e1 : (mkVs 0 ars).toArray.getD i undef = mkV i ars[i].1 := by
      simp [mkVs_get, ha]
    have e2 : (ars.map (·.1)).toArray.getD i undef = ars[i].1 := by simp [hi]
    rw [e1, e2]
    generalize ars[i] = a at ha
    obtain ⟨v, c⟩ := a
    rcases h _ (List.mem_of_getElem? ha) with (h1 | ⟨bb, o, n, cap, h1, h2, h3, h4, h5⟩) | ⟨l, h1, hl⟩
    · simp only at h1 ⊢
      cases v with
      | slice x n cap => cases x with
        | none => exact g0_rel h1
        | some x => simp [g0] at h1
      | _ => exact g0_rel h1
    · simp only at h1 ⊢
      subst h1
      have := Rel.slice (R := R) i 0 n n ⟨bb, o, cap - n⟩ (by simp [R, ha, mkP]) (Nat.le_refl _)
      rw [show n + (cap - n) = cap by omega] at this
      simpa [mkV] using this
    · simp only at h1 ⊢
      subst h1
      exact hl R
  refine (hc W.heap.size R W _ (Nat.le_refl _) hm hargs).mono ?_
  rintro e w' ⟨v, v', R', m', rfl, k1, k2, rfl, rfl⟩
  cases k1
  exact ⟨rfl, k2.below hm (Nat.le_refl _)⟩
theorem RelSelf.rect (r : Rc) : RelSelf r.v := ⟨_, rfl, fun R => rel_aggI R [r.x, r.y, r.w, r.h]⟩
theorem RelSelf.kind (k : Kd) : RelSelf k.v := ⟨_, rfl, fun R => .agg _ _ rfl fun i hi => by
  simp at hi
  rcases (show i = 0 ∨ i = 1 ∨ i = 2 ∨ i = 3 ∨ i = 4 by omega) with rfl | rfl | rfl | rfl | rfl
  · exact .int _ _
  · exact .int _ _
  · exact .int _ _
  · exact .int _ _
  · exact .bool _⟩
def sv (l : List ByteArray) : List Value := l.map .string
section
variable {H : Type} {enc : TypeId × Value → H} {P : Program} {w : World} {base : Nat} {spare : Nat → Bool} {held : Bool}
def kv (l : List Kd) : List Value := l.flatMap Kd.cells
end
end Go.Proofs.YtibhgdglbillaaaDoor.Abs
namespace Go.Proofs.YtibhgdglbillaaaDoor.Abs
set_option linter.unusedSimpArgs false
set_option linter.unusedVariables false
open Go.RowKit
open Go.Proofs.YtibhgdglbillaaaDoor.Sim
open Go.Proofs
section
variable (leaf : R4 → Int) (w h : Nat) (t : List Int)
end
section
variable {leaf : R4 → Int} {w h : Nat} {t : List Int}
end
/-- The memory in which block q holds some cells. -/
def MC (m : AM) (q : Nat) (c : List Value) : AM := m.set q (some { cells := c })
section
variable {m : AM} {q : Nat} {c c' : List Value}
theorem MC.len : (MC m q c).length = m.length := by simp [MC]
theorem MC.at (hq : q < m.length) : (MC m q c)[q]? = some (some { cells := c }) := by unfold MC; exact List.getElem?_set_self hq
theorem MC.ne {a : Nat} (h : a ≠ q) : (MC m q c)[a]? = m[a]? := by unfold MC; exact List.getElem?_set_ne (fun e => h e.symm)
theorem MC.set (hq : q < m.length) (T : AM) : (MC m q c ++ T).set q (some { cells := c' }) = MC m q c' ++ T := by
  unfold MC
  rw [List.set_append_left _ _ (by simpa using hq), List.set_set]
theorem MC.rd {a o : Nat} {x : Value} (h : a ≠ q) (hr : Rd m a o x) : Rd (MC m q c) a o x := by
  obtain ⟨b, h1, h2⟩ := hr
  exact ⟨b, by rw [MC.ne h]; exact h1, h2⟩
theorem MC.ints {v : Value} {l : List Int} {m1 N : AM} (hm : m = m1 ++ N) (hq1 : m1.length ≤ q) (h : Ints m1 v l) : Ints (MC m q c) v l := by
  subst hm
  obtain ⟨N', hN'⟩ := set_high (N := N) hq1 (some { cells := c })
  unfold MC
  rw [hN']
  exact h.old _
/-- A turned block of flat cells: what may be let go behind it. -/
theorem MC.cut (hq : q < m.length) (hg : ∀ x ∈ c', g0 x = true) (T X : AM) (hX : ∀ b, some b ∈ X → isMapK b.kind = false ∧ ∀ x ∈ b.cells, g0 x = true) (n j : Nat) (b : Blk) (h : (MC m q c' ++ (T ++ X))[j]? = some (some b)) :
    (j < (MC m q c ++ T).length ∧ (MC m q c ++ T)[j]? = some (some b)) ∨ (isMapK b.kind = false ∧ ∀ x ∈ b.cells, Ren rid n x x) := by
  have e : (MC m q c').length = (MC m q c).length := by rw [MC.len, MC.len]
  rcases Nat.lt_or_ge j (MC m q c').length with hj | hj
  · rw [List.getElem?_append_left hj] at h
    by_cases ej : j = q
    · subst ej
      rw [MC.at hq] at h
      simp only [Option.some.injEq] at h
      subst h
      exact .inr ⟨rfl, fun x hx => Ren.of_g0 (hg x hx)⟩
    · rw [MC.ne ej] at h
      refine .inl ⟨by rw [List.length_append]; omega, ?_⟩
      rw [List.getElem?_append_left (by omega), MC.ne ej]
      exact h
  · rw [List.getElem?_append_right hj] at h
    rcases Nat.lt_or_ge (j - (MC m q c').length) T.length with hj2 | hj2
    · rw [List.getElem?_append_left hj2] at h
      refine .inl ⟨by rw [List.length_append]; omega, ?_⟩
      rw [List.getElem?_append_right (by omega), ← e]
      exact h
    · rw [List.getElem?_append_right hj2] at h
      obtain ⟨h1, h2⟩ := hX b (List.mem_of_getElem? h)
      exact .inr ⟨h1, fun x hx => Ren.of_g0 (h2 x hx)⟩
end
end Go.Proofs.YtibhgdglbillaaaDoor.Abs
namespace Go.Proofs.YtibhgdglbillaaaDoor.Abs
set_option linter.unusedSimpArgs false
set_option linter.unusedVariables false
open Go.RowKit
open Go.Proofs.YtibhgdglbillaaaDoor.Sim
open Go.Proofs
def I64s (t : List Int) : Prop := ∀ i, -9223372036854775808 ≤ t.getD i 0 ∧ t.getD i 0 ≤ 9223372036854775807
end Go.Proofs.YtibhgdglbillaaaDoor.Abs
namespace Go.Proofs.YtibhgdglbillaaaDoor.Abs
set_option linter.unusedSimpArgs false
set_option linter.unusedVariables false
open Go.RowKit
open Go.Proofs.YtibhgdglbillaaaDoor.Sim
open Go.ChangeShapes Go.WideShapes Go.Deep
section
variable {H : Type} {enc : TypeId × Value → H} {P : Program} {w : World} {base : Nat} {spare : Nat → Bool} {held : Bool}
theorem arg_ints64 {r : Reach} {b0 : Nat} {T e : TypeId} {a : Option Addr} {n c : Nat} {d : DataW H} {p : List MemPlace} (ht : P.underlying T = some (.slice e)) (he : P.underlying e = some (.int .i64)) (hce : P.cellsOf e = 1) (hok : Value.okWide P w r b0 T (.slice a n c)) (h : DataW.Trod enc P w base spare held T (.slice a n c) d p) :
    ∃ l : List Int, l.length = n ∧ n ≤ maxLen ∧ Okarg w (.slice a n c, iv l) ∧ (∀ M : AM, ∀ i, M[i]? = some (mkB (.slice a n c, iv l)) → Ints M (mkV i (.slice a n c)) l) ∧ I64s l := by
  obtain ⟨fuel, h⟩ := h
  rcases ok_slice ht hok with ⟨rfl, rfl, rfl⟩ | ⟨b, o, rfl, hle, hlt⟩
  · exact ⟨[], rfl, by unfold maxLen; omega, .inl rfl, fun M i hi => ⟨i, 0, .inl ⟨rfl, rfl⟩, (List.getElem?_eq_some_iff.1 hi).1, fun k hk => by simp at hk⟩, fun i => by simp⟩
  · rcases open_ints ht he hce h with ⟨hcs, _⟩ | ⟨x, l, c', zs, hcs, _, hl, hm, hz, _, hcell, hwf⟩
    · simp [Value.cells] at hcs
    · simp [Value.cells] at hcs
      obtain ⟨rfl, rfl, rfl⟩ := hcs
      have hzl : n ≤ zs.length := by rw [hz]; split <;> omega
      have hlen : (zs.take n).length = n := by simp; omega
      refine ⟨zs.take n, hlen, by omega, .inr ⟨b, o, n, c, rfl, hle, hlt, fun j x hj => ?_, g0_iv _⟩, fun M i hi => ?_, fun i => ?_⟩
      · simp only [iv, List.getElem?_map] at hj
        by_cases hjn : j < n
        · rw [List.getElem?_take, if_pos hjn, List.getElem?_eq_getElem (by omega)] at hj
          simp only [Option.map_some, Option.some.injEq] at hj
          have := hcell j (by omega)
          rw [Addr.add_lit] at this
          rw [this, ← hj]
          simp [show j < zs.length by omega]
        · rw [List.getElem?_take, if_neg hjn] at hj
          cases hj
      · simp only [mkB] at hi
        exact ints_at hi rfl n hlen.symm
      · by_cases hi : i < (zs.take n).length
        · rw [getD_in _ _ hi]
          have := hwf _ (List.mem_of_mem_take (List.getElem_mem hi))
          simp only [Lit.wf, Bool.and_eq_true, decide_eq_true_eq, IntKind.min, IntKind.max, IntKind.signed, IntKind.bits] at this
          simpa using this
        · rw [List.getD_eq_getElem?_getD, List.getElem?_eq_none (by omega)]
          simp
end
end Go.Proofs.YtibhgdglbillaaaDoor.Abs
