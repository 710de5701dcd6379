/- Chapter 8: slices.Equal and slices.Clone over ints; whether a slice is an order. -/
import Derived.Test.YtmomjannlnafcaaB2
import Derived.Test.YtmomjannlnafcaaAbs9
import Derived.Test.YtmomjannlnafcaaAbsS
import Derived.Test.YtmomjannlnafcaaXt
namespace Go.Proofs.Ytmomjannlnafcaa.Abs
set_option linter.unusedSimpArgs false
set_option linter.unusedVariables false
open Go.RowKit
open Go.Proofs.Ytmomjannlnafcaa.Sim
open Go.Proofs
theorem bs23 {m : AM} {n : Nat} : abuildSlice Try.prog m n 23 0 [] = some (.slice (some ⟨n, 0, none⟩) 0 0, m.set n (some { cells := [] })) := by kernel_rfl
theorem rows_rdl {m : AM} {a o : Nat} {c : List Value} (hpos : 0 < c.length) (h : ∀ k, k < c.length → Rd m a (o + k) (c.getD k undef)) : RdL m a o c := by
  obtain ⟨b, h1, _⟩ := h 0 hpos
  refine ⟨b, h1, fun j v hj => ?_⟩
  have hjl := (List.getElem?_eq_some_iff.1 hj).1
  obtain ⟨b', k1, k2⟩ := h j hjl
  rw [h1] at k1; injection k1 with k1; injection k1 with k1; subst k1
  rw [k2]
  simp [← hj, hjl]
theorem ints_rdl {m : AM} {a o : Nat} {l : List Int} (hpos : 0 < l.length) (h : ∀ k, k < l.length → Rd m a (o + k) (.int .i64 (l.getD k 0))) : RdL m a o (iv l) :=
  rows_rdl (by simpa [iv] using hpos) fun k hk => by
    have hk' : k < l.length := by simpa [iv] using hk
    have := h k hk'
    simpa [iv, hk'] using this
-- function 23
set_option maxRecDepth 100000 in
theorem equal_ok {m : AM} {v w : Value} {l k : List Int} (hl : Ints m v l) (hk : Ints m w k) (hlen : l.length ≤ 100000) {b : Bool} (hb : decide (l = k) = b) : ACall Try.prog 23 #[v, w] m (Ret (.bool b) m) := by
  subst hb
  obtain ⟨a, o, h1, h2, h3⟩ := hl
  obtain ⟨c, u, k1, k2, k3⟩ := hk
  refine ACall.start Try.func23 rfl rfl ?_
  by_cases hn : (l.length : Int) = (k.length : Int)
  · (repeat (first | (with_reducible refine AWo.cons ?_) | ((with_reducible refine Step.id ?_); first | ((with_reducible apply Step.move); exact rfl; exact rfl) | ((with_reducible apply Step.assign); exact rfl; exact rfl) | ((with_reducible apply Step.neq); exact rfl; exact rfl; exact rfl) | ((with_reducible apply Step.len); exact rfl; (focus (assumption)); (focus (decide +kernel)); exact rfl)) | (with_reducible refine AWo.nil ?_) | ((with_reducible apply AW.seq)) | ((with_reducible apply Then.n)) | ((with_reducible apply AW.regL)) | ((with_reducible apply AW.block)) | ((with_reducible apply AW.skip)) | ((with_reducible apply AW.condF); exact rfl; (focus ((simp only [decide_eq_true_eq, decide_eq_false_iff_not, Bool.not_eq_true', Bool.not_eq_false', Bool.not_true, Bool.not_false]; first | assumption | omega))))))
    refine AW.loopT (fun n t L => ∃ i : Nat, n = l.length - i ∧ i ≤ l.length ∧ l.take i = k.take i ∧ L = [] ∧
      t = [(0, v), (1, w), (12, .int .i64 (l.length : Nat)), (13, .int .i64 (i : Nat))]) ⟨_, _, _, (Or.inl ⟨rfl, (by repeat (first | exact trivial | (refine And.intro rfl ?_)))⟩), 0, rfl, Nat.zero_le _, rfl, rfl, rfl⟩ ?_
    rintro n t L ⟨i, rfl, hi, he, rfl, rfl⟩
    rcases Nat.lt_or_ge i l.length with hlt | hge
    · have r1 := h3 i hlt
      have r2 := k3 i (by omega)
      have ts := take_snoc l i 0 hlt
      have tk := take_snoc k i 0 (by omega)
      by_cases hx : l.getD i 0 = k.getD i 0
      · (repeat (first | (with_reducible refine AWo.cons ?_) | ((with_reducible refine Step.id ?_); first | ((with_reducible apply Step.move); exact rfl; exact rfl) | ((with_reducible apply Step.assign); exact rfl; exact rfl) | ((with_reducible apply Step.load); exact rfl; (focus (decide +kernel)); exact rfl; (focus (exact Rd.old _ (by assumption)))) | ((with_reducible apply Step.ix1); exact rfl; (focus (assumption)); exact rfl; (focus (decide +kernel)); exact rfl; (focus (omega))) | ((with_reducible apply Step.add); exact rfl; exact rfl; (focus (omega)); exact rfl) | ((with_reducible apply Step.lss); exact rfl; exact rfl; exact rfl) | ((with_reducible apply Step.neq); exact rfl; exact rfl; exact rfl)) | (with_reducible refine AWo.nil ?_) | ((with_reducible apply AW.seq)) | ((with_reducible apply Then.n)) | ((with_reducible apply AW.regL)) | ((with_reducible apply AW.block)) | ((with_reducible apply AW.drawL fit); (focus (decide +kernel))) | ((with_reducible apply InBlk.n)) | ((with_reducible apply AW.skip)) | ((with_reducible apply AW.condT); exact rfl; (focus ((simp only [decide_eq_true_eq, decide_eq_false_iff_not, Bool.not_eq_true', Bool.not_eq_false', Bool.not_true, Bool.not_false]; first | assumption | omega)))) | ((with_reducible apply AW.condF); exact rfl; (focus ((simp only [decide_eq_true_eq, decide_eq_false_iff_not, Bool.not_eq_true', Bool.not_eq_false', Bool.not_true, Bool.not_false]; first | assumption | omega))))))
        exact ⟨_, _, _, by omega, (Or.inl ⟨rfl, (by repeat (first | exact trivial | (refine And.intro rfl ?_)))⟩), i + 1, rfl, by omega, by rw [ts, tk, he, hx], rfl, rfl⟩
      · (repeat (first | (with_reducible refine AWo.cons ?_) | ((with_reducible refine Step.id ?_); first | ((with_reducible apply Step.move); exact rfl; exact rfl) | ((with_reducible apply Step.assign); exact rfl; exact rfl) | ((with_reducible apply Step.load); exact rfl; (focus (decide +kernel)); exact rfl; (focus (exact Rd.old _ (by assumption)))) | ((with_reducible apply Step.ix1); exact rfl; (focus (assumption)); exact rfl; (focus (decide +kernel)); exact rfl; (focus (omega))) | ((with_reducible apply Step.lss); exact rfl; exact rfl; exact rfl) | ((with_reducible apply Step.neq); exact rfl; exact rfl; exact rfl)) | (with_reducible refine AWo.nil ?_) | ((with_reducible apply AW.seq)) | ((with_reducible apply Then.n)) | ((with_reducible apply AW.regL)) | ((with_reducible apply AW.block)) | ((with_reducible apply AW.drawL fit); (focus (decide +kernel))) | ((with_reducible apply AW.skip)) | ((with_reducible apply AW.condT); exact rfl; (focus ((simp only [decide_eq_true_eq, decide_eq_false_iff_not, Bool.not_eq_true', Bool.not_eq_false', Bool.not_true, Bool.not_false]; first | assumption | omega))))))
        (refine AW.retD (l := [(4, _)]) (by repeat (first | exact trivial | (refine And.intro ⟨rfl, by (exact .bool _)⟩ ?_))) ?_; (repeat (first | refine Then.r ?_ | refine InBlk.r ?_)))
        refine ⟨_, rfl, ?_, rfl⟩
        rw [decide_eq_false (fun e => hx (by rw [e]))]
    · (repeat (first | (with_reducible refine AWo.cons ?_) | ((with_reducible refine Step.id ?_); first | ((with_reducible apply Step.assign); exact rfl; exact rfl) | ((with_reducible apply Step.lss); exact rfl; exact rfl; exact rfl)) | (with_reducible refine AWo.nil ?_) | ((with_reducible apply AW.seq)) | ((with_reducible apply Then.n)) | ((with_reducible apply AW.regL)) | ((with_reducible apply AW.exit)) | ((with_reducible apply InBlk.hit)) | ((with_reducible apply Then.e)) | ((with_reducible apply AW.condF); exact rfl; (focus ((simp only [decide_eq_true_eq, decide_eq_false_iff_not, Bool.not_eq_true', Bool.not_eq_false', Bool.not_true, Bool.not_false]; first | assumption | omega))))))
      (refine AW.retD (l := [(4, _)]) (by repeat (first | exact trivial | (refine And.intro ⟨rfl, by (exact .bool _)⟩ ?_))) ?_; (repeat (first | refine Then.r ?_ | refine InBlk.r ?_)))
      refine ⟨_, rfl, ?_, rfl⟩
      rw [List.take_of_length_le (by omega), List.take_of_length_le (by omega)] at he
      rw [decide_eq_true he]
  · (repeat (first | (with_reducible refine AWo.cons ?_) | ((with_reducible refine Step.id ?_); first | ((with_reducible apply Step.move); exact rfl; exact rfl) | ((with_reducible apply Step.assign); exact rfl; exact rfl) | ((with_reducible apply Step.neq); exact rfl; exact rfl; exact rfl) | ((with_reducible apply Step.len); exact rfl; (focus (assumption)); (focus (decide +kernel)); exact rfl)) | (with_reducible refine AWo.nil ?_) | ((with_reducible apply AW.seq)) | ((with_reducible apply Then.n)) | ((with_reducible apply AW.regL)) | ((with_reducible apply AW.condT); exact rfl; (focus ((simp only [decide_eq_true_eq, decide_eq_false_iff_not, Bool.not_eq_true', Bool.not_eq_false', Bool.not_true, Bool.not_false]; first | assumption | omega))))))
    (refine AW.retD (l := [(4, _)]) (by repeat (first | exact trivial | (refine And.intro ⟨rfl, by (exact .bool _)⟩ ?_))) ?_; (repeat (first | refine Then.r ?_ | refine InBlk.r ?_)))
    refine ⟨_, rfl, ?_, rfl⟩
    rw [decide_eq_false (fun e => hn (by rw [e]))]
/-- What slices.Clone returns: nil of nil, else a new row. -/
def Cloned (l : List Int) (m : AM) : Value → AM → Prop := fun r m' => (l = [] ∧ r = .slice none 0 0 ∧ m' = m ++ [none]) ∨ ∃ kd : Kind, kd.solid = true ∧ r = .slice (some ⟨m.length, 0, none⟩) l.length l.length ∧ m' = m ++ [some { cells := iv l, kind := kd }]
-- function 77
set_option maxRecDepth 100000 in
theorem clone_ok {m : AM} {v : Value} {l : List Int} (hl : Ints m v l) (hlen : l.length ≤ 1000000) : ACall Try.prog 77 #[v] m (Cloned l m) := by
  obtain ⟨a, o, h1, h2, h3⟩ := hl
  refine ACall.start Try.func77 rfl rfl ?_
  rcases h1 with ⟨rfl, hn⟩ | ⟨c, hc, rfl⟩
  · obtain rfl : l = [] := List.eq_nil_of_length_eq_zero hn
    (repeat (first | (with_reducible refine AWo.cons ?_) | ((with_reducible refine Step.id ?_); first | ((with_reducible apply Step.move); exact rfl; exact rfl) | ((with_reducible apply Step.assign); exact rfl; exact rfl) | ((with_reducible apply Step.nilNil); exact rfl; exact rfl; exact un23; exact rfl)) | (with_reducible refine AWo.nil ?_) | ((with_reducible apply AW.seq)) | ((with_reducible apply Then.n)) | ((with_reducible apply AW.regL)) | ((with_reducible apply AW.condT); exact rfl; (focus (rfl)))))
    refine AW.retB (l := [(2, _)]) (Back.pad (by repeat (first | exact trivial | (refine And.intro ⟨rfl, by (exact Ren.of_g0 rfl)⟩ ?_))) CellsOk.nil) ?_
    exact ⟨_, rfl, .inl ⟨rfl, rfl, rfl⟩⟩
  · by_cases hn : l.length = 0
    · obtain rfl : l = [] := List.eq_nil_of_length_eq_zero hn
      (repeat (first | (with_reducible refine AWo.cons ?_) | ((with_reducible refine Step.id ?_); first | ((with_reducible apply Step.move); exact rfl; exact rfl) | ((with_reducible apply Step.assign); exact rfl; exact rfl) | ((with_reducible apply Step.eqNil); exact rfl; exact rfl; exact un23; exact rfl) | ((with_reducible apply Step.buildS 0); exact rfl; exact rfl; exact (fun _ _ => bs23); exact rfl; (focus (first | (simp only [List.nil_append, List.cons_append, List.set_cons_zero, List.set_cons_succ, iv_set, bv_set, iv_rep, bv_rep]; done) | (simp only [List.nil_append, List.cons_append, List.set_cons_zero, List.set_cons_succ, iv_set, bv_set, iv_rep, bv_rep]; rfl) | rfl)))) | (with_reducible refine AWo.nil ?_) | ((with_reducible apply AW.seq)) | ((with_reducible apply Then.n)) | ((with_reducible apply AW.regL)) | ((with_reducible apply AW.skip)) | ((with_reducible apply AW.condF); exact rfl; (focus (rfl)))))
      ((with_reducible apply Step.app0 (k := 1)); exact rfl; exact rfl; exact rfl; exact el23; exact un23; exact rfl; exact rfl; (focus (first | (simp only [List.nil_append, List.cons_append, List.set_cons_zero, List.set_cons_succ, iv_set, bv_set, iv_rep, bv_rep]; done) | (simp only [List.nil_append, List.cons_append, List.set_cons_zero, List.set_cons_succ, iv_set, bv_set, iv_rep, bv_rep]; rfl) | rfl)))
      (repeat (first | (with_reducible refine AWo.cons ?_) | ((with_reducible refine Step.id ?_); ((with_reducible apply Step.assign); exact rfl; exact rfl)) | (with_reducible refine AWo.nil ?_) | ((with_reducible apply Then.n))))
      refine AW.retB (l := [(2, _)]) (L1 := [some { cells := [] }]) (Back.trim rfl rfl (by repeat (first | exact CellsOk.nil | refine CellsOk.cons (by (intro v hv; simp at hv; done)) ?_)) (by repeat (first | exact trivial | (refine And.intro ⟨rfl, by (exact .slice _ _ _ _ (by first | (simp; done) | omega | (simp; omega)))⟩ ?_)))) ?_
      exact ⟨_, rfl, .inr ⟨.own, rfl, rfl, rfl⟩⟩
    · have hr := ints_rdl (by omega) h3
      (repeat (first | (with_reducible refine AWo.cons ?_) | ((with_reducible refine Step.id ?_); first | ((with_reducible apply Step.move); exact rfl; exact rfl) | ((with_reducible apply Step.assign); exact rfl; exact rfl) | ((with_reducible apply Step.eqNil); exact rfl; exact rfl; exact un23; exact rfl) | ((with_reducible apply Step.buildS 0); exact rfl; exact rfl; exact (fun _ _ => bs23); exact rfl; (focus (first | (simp only [List.nil_append, List.cons_append, List.set_cons_zero, List.set_cons_succ, iv_set, bv_set, iv_rep, bv_rep]; done) | (simp only [List.nil_append, List.cons_append, List.set_cons_zero, List.set_cons_succ, iv_set, bv_set, iv_rep, bv_rep]; rfl) | rfl)))) | (with_reducible refine AWo.nil ?_) | ((with_reducible apply AW.seq)) | ((with_reducible apply Then.n)) | ((with_reducible apply AW.regL)) | ((with_reducible apply AW.skip)) | ((with_reducible apply AW.condF); exact rfl; (focus (rfl)))))
      ((with_reducible apply Step.appE (k := 1)); exact rfl; exact rfl; exact rfl; exact el23; exact un23; exact rfl; exact rfl; exact (hr.old _); (focus (simp [iv])); (focus (omega)); exact (iv_one _); (focus (omega)); exact rfl; (focus (first | (simp only [List.nil_append, List.cons_append, List.set_cons_zero, List.set_cons_succ, iv_set, bv_set, iv_rep, bv_rep]; done) | (simp only [List.nil_append, List.cons_append, List.set_cons_zero, List.set_cons_succ, iv_set, bv_set, iv_rep, bv_rep]; rfl) | rfl)))
      (repeat (first | (with_reducible refine AWo.cons ?_) | ((with_reducible refine Step.id ?_); ((with_reducible apply Step.assign); exact rfl; exact rfl)) | (with_reducible refine AWo.nil ?_) | ((with_reducible apply Then.n))))
      refine AW.retB (l := [(2, .slice (some ⟨m.length + 0, 0, none⟩) l.length l.length)]) (L1 := [some { cells := iv l, kind := .grow, size := 1 }]) (Back.mv 0 1 rfl rfl rfl rfl (by intro j b hj h; rcases j with _ | _ | _ | _ | _ | _ | j <;> simp_all) (by repeat (first | exact CellsOk.nil | refine CellsOk.cons (by exact g0_iv _) ?_)) (by repeat (first | exact trivial | (refine And.intro ⟨_, rfl, by (exact Ren.slice_mv (by first | (simp; done) | omega | (simp; omega)))⟩ ?_)))) ?_
      exact ⟨_, rfl, .inr ⟨.grow, rfl, rfl, rfl⟩⟩
end Go.Proofs.Ytmomjannlnafcaa.Abs
