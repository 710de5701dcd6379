/- Proved here: what the proof of BenchProof rests on, part 3 of 4. Conditions: those that each theorem names. -/
import Derived.Test.YtmomjannlnafcaaBenchProofK2
namespace Go.Proofs.Ytmomjannlnafcaa.Abs
set_option linter.unusedSimpArgs false
set_option linter.unusedVariables false
open Go.RowKit
open Go.Proofs.Ytmomjannlnafcaa.Sim
open Go.Proofs
theorem sz3n : szB Try.prog 3 = some 1 := by kernel_rfl
theorem mem_getD' {l : List Int} {k : Nat} (h : k < l.length) : l.getD k 0 ∈ l := by
  rw [List.getD_eq_getElem?_getD, List.getElem?_eq_getElem h]; exact List.getElem_mem h
theorem idxF_neg' {pr : Nat → Bool} {n : Nat} (h : idxF pr n < 0) : idxF pr n = -1 ∧ ∀ i, i < n → pr i = false := by
  unfold idxF at h ⊢
  cases h' : (List.range n).find? pr with
  | none =>
    refine ⟨rfl, fun i hi => ?_⟩
    have := List.find?_eq_none.1 h' i (by simpa using hi)
    simpa using this
  | some k => rw [h'] at h; simp at h; omega
theorem idxF_pos' {pr : Nat → Bool} {n : Nat} (h : 0 ≤ idxF pr n) : ∃ k : Nat, idxF pr n = k ∧ k < n ∧ pr k = true ∧ ∀ i, i < k → pr i = false := by
  unfold idxF at h ⊢
  cases h' : (List.range n).find? pr with
  | none => rw [h'] at h; simp at h
  | some k =>
    obtain ⟨h1, h2, h3⟩ := List.find?_range_eq_some.1 h'
    exact ⟨k, rfl, by simpa using h2, h1, fun i hi => by simpa using h3 i hi⟩
set_option maxRecDepth 100000 in
theorem sum_ok {m : AM} {v : Value} {l : List Int} {g : FuncId} {cap : Array Value} {fn : Func} {bd : Code} (hl : Ints m v l) (hf : Try.prog.funcs[g]? = some fn) (hb : fn.body = some bd) (h : Nat → Int) (hlen : l.length ≤ 1000000)
    (hbd : ∀ k, k ≤ l.length → -1000000000000 ≤ sm h k ∧ sm h k ≤ 1000000000000) (hg : ∀ k, k < l.length → ACall Try.prog g (#[] ++ #[.int .i64 (l.getD k 0)] ++ cap) m (Ret (.int .i64 (h k)) m)) : ACall Try.prog 71 #[v, .func (.func g) #[] cap] m (Ret (.int .i64 (sm h l.length)) m) := by
  obtain ⟨a, o, h1, h2, h3⟩ := hl
  refine ACall.start Try.func71 rfl rfl ?_
  (repeat (first | (with_reducible refine AWo.cons ?_) | ((with_reducible refine Step.id ?_); first | ((with_reducible apply Step.move); exact rfl; exact rfl) | ((with_reducible apply Step.assign); exact rfl; exact rfl) | ((with_reducible apply Step.len); exact rfl; (focus (assumption)); (focus (decide +kernel)); exact rfl)) | (with_reducible refine AWo.nil ?_) | ((with_reducible apply AW.seq)) | ((with_reducible apply Then.n)) | ((with_reducible apply AW.regL)) | ((with_reducible apply AW.block))))
  refine AW.loopT (fun n t L => ∃ (k : Nat) (x : Int), n = l.length - k ∧ k ≤ l.length ∧ x = sm h k ∧ L = [] ∧
    t = [(0, v), (1, .func (.func g) #[] cap), (5, .int .i64 x), (8, v), (9, .int .i64 (l.length : Nat)), (10, .int .i64 (k : Nat))]) ⟨_, _, _, (Or.inl ⟨rfl, (by repeat (first | exact trivial | (refine And.intro rfl ?_)))⟩), 0, 0, rfl, Nat.zero_le _, rfl, rfl, rfl⟩ ?_
  rintro n t L ⟨k, x, rfl, hk, hx, rfl, rfl⟩
  rcases Nat.lt_or_ge k l.length with hlt | hge
  · have hgk := hg k hlt
    have hr := h3 k hlt
    have b1 := hbd k hk
    have b2 := hbd (k + 1) hlt
    have hs : sm h (k + 1) = x + h k := by rw [hx]; rfl
    (repeat (first | (with_reducible refine AWo.cons ?_) | ((with_reducible refine Step.id ?_); first | ((with_reducible apply Step.move); exact rfl; exact rfl) | ((with_reducible apply Step.assign); exact rfl; exact rfl) | ((with_reducible apply Step.load); exact rfl; (focus (decide +kernel)); exact rfl; (focus (exact Rd.old _ (by assumption)))) | ((with_reducible apply Step.ix1); exact rfl; (focus (assumption)); exact rfl; (focus (decide +kernel)); exact rfl; (focus (omega))) | ((with_reducible apply Step.add); exact rfl; exact rfl; (focus (omega)); exact rfl) | ((with_reducible apply Step.lss); exact rfl; exact rfl; exact rfl) | ((with_reducible apply Step.callV fit); exact rfl; exact rfl; exact hf; exact hb; exact rfl; exact ((by rw [List.append_nil]; exact hgk)))) | (with_reducible refine AWo.nil ?_) | ((with_reducible apply AW.seq)) | ((with_reducible apply Then.n)) | ((with_reducible apply AW.regL)) | ((with_reducible apply AW.block)) | ((with_reducible apply InBlk.n)) | ((with_reducible apply AW.skip)) | ((with_reducible apply AW.condT); exact rfl; (focus ((simp only [decide_eq_true_eq, decide_eq_false_iff_not, Bool.not_eq_true', Bool.not_eq_false', Bool.not_true, Bool.not_false]; first | assumption | omega))))))
    exact ⟨_, _, _, by omega, (Or.inl ⟨rfl, (by repeat (first | exact trivial | (refine And.intro rfl ?_)))⟩), k + 1, _, rfl, by omega, hs.symm, rfl, rfl⟩
  · (repeat (first | (with_reducible refine AWo.cons ?_) | ((with_reducible refine Step.id ?_); first | ((with_reducible apply Step.move); exact rfl; exact rfl) | ((with_reducible apply Step.assign); exact rfl; exact rfl) | ((with_reducible apply Step.lss); exact rfl; exact rfl; exact rfl)) | (with_reducible refine AWo.nil ?_) | ((with_reducible apply AW.seq)) | ((with_reducible apply Then.n)) | ((with_reducible apply AW.regL)) | ((with_reducible apply AW.exit)) | ((with_reducible apply InBlk.hit)) | ((with_reducible apply Then.e)) | ((with_reducible apply AW.condF); exact rfl; (focus ((simp only [decide_eq_true_eq, decide_eq_false_iff_not, Bool.not_eq_true', Bool.not_eq_false', Bool.not_true, Bool.not_false]; first | assumption | omega))))))
    obtain rfl : k = l.length := by omega
    (refine AW.retD (l := [(4, _)]) (by repeat (first | exact trivial | (refine And.intro ⟨rfl, by (exact .int _ _)⟩ ?_))) ?_; (repeat (first | refine Then.r ?_ | refine InBlk.r ?_)))
    exact ⟨_, rfl, by rw [hx], rfl⟩
set_option maxRecDepth 100000 in
theorem indexI_ok {m : AM} {v : Value} {l : List Int} (x : Int) (hl : Ints m v l) (hlen : l.length ≤ 9223372036854775807) : ACall Try.prog 75 #[v, .int .i64 x] m (Ret (.int .i64 (idxF (fun k => decide (l.getD k 0 = x)) l.length)) m) := by
  obtain ⟨a, o, h1, h2, h3⟩ := hl
  refine ACall.start Try.func75 rfl rfl ?_
  (repeat (first | (with_reducible refine AWo.cons ?_) | ((with_reducible refine Step.id ?_); first | ((with_reducible apply Step.move); exact rfl; exact rfl) | ((with_reducible apply Step.assign); exact rfl; exact rfl) | ((with_reducible apply Step.len); exact rfl; (focus (assumption)); (focus (decide +kernel)); exact rfl)) | (with_reducible refine AWo.nil ?_) | ((with_reducible apply AW.seq)) | ((with_reducible apply Then.n)) | ((with_reducible apply AW.regL)) | ((with_reducible apply AW.block))))
  refine AW.loopT (fun n t L => ∃ k : Nat, n = l.length - k ∧ k ≤ l.length ∧ (∀ i, i < k → decide (l.getD i 0 = x) = false) ∧ L = [] ∧
    t = [(0, v), (1, .int .i64 x), (7, .int .i64 (l.length : Nat)), (8, .int .i64 (k : Nat))]) ⟨_, _, _, (Or.inl ⟨rfl, (by repeat (first | exact trivial | (refine And.intro rfl ?_)))⟩), 0, rfl, Nat.zero_le _, by omega, rfl, rfl⟩ ?_
  rintro n t L ⟨k, rfl, hk, hz, rfl, rfl⟩
  rcases Nat.lt_or_ge k l.length with hlt | hge
  · have hr := h3 k hlt
    by_cases hp : x = l.getD k 0
    · (repeat (first | (with_reducible refine AWo.cons ?_) | ((with_reducible refine Step.id ?_); first | ((with_reducible apply Step.move); exact rfl; exact rfl) | ((with_reducible apply Step.assign); exact rfl; exact rfl) | ((with_reducible apply Step.load); exact rfl; (focus (decide +kernel)); exact rfl; (focus (exact Rd.old _ (by assumption)))) | ((with_reducible apply Step.ix1); exact rfl; (focus (assumption)); exact rfl; (focus (decide +kernel)); exact rfl; (focus (omega))) | ((with_reducible apply Step.lss); exact rfl; exact rfl; exact rfl) | ((with_reducible apply Step.eql); exact rfl; exact rfl; exact rfl)) | (with_reducible refine AWo.nil ?_) | ((with_reducible apply AW.seq)) | ((with_reducible apply Then.n)) | ((with_reducible apply AW.regL)) | ((with_reducible apply AW.block)) | ((with_reducible apply AW.skip)) | ((with_reducible apply AW.condT); exact rfl; (focus ((simp only [decide_eq_true_eq, decide_eq_false_iff_not, Bool.not_eq_true', Bool.not_eq_false', Bool.not_true, Bool.not_false]; first | assumption | omega))))))
      (refine AW.retD (l := [(4, _)]) (by repeat (first | exact trivial | (refine And.intro ⟨rfl, by (exact .int _ _)⟩ ?_))) ?_; (repeat (first | refine Then.r ?_ | refine InBlk.r ?_)))
      exact ⟨_, rfl, by rw [idxF_hit hlt hz (decide_eq_true hp.symm)], rfl⟩
    · (repeat (first | (with_reducible refine AWo.cons ?_) | ((with_reducible refine Step.id ?_); first | ((with_reducible apply Step.move); exact rfl; exact rfl) | ((with_reducible apply Step.assign); exact rfl; exact rfl) | ((with_reducible apply Step.load); exact rfl; (focus (decide +kernel)); exact rfl; (focus (exact Rd.old _ (by assumption)))) | ((with_reducible apply Step.ix1); exact rfl; (focus (assumption)); exact rfl; (focus (decide +kernel)); exact rfl; (focus (omega))) | ((with_reducible apply Step.add); exact rfl; exact rfl; (focus (omega)); exact rfl) | ((with_reducible apply Step.lss); exact rfl; exact rfl; exact rfl) | ((with_reducible apply Step.eql); exact rfl; exact rfl; exact rfl)) | (with_reducible refine AWo.nil ?_) | ((with_reducible apply AW.seq)) | ((with_reducible apply Then.n)) | ((with_reducible apply AW.regL)) | ((with_reducible apply AW.block)) | ((with_reducible apply InBlk.n)) | ((with_reducible apply AW.skip)) | ((with_reducible apply AW.condT); exact rfl; (focus ((simp only [decide_eq_true_eq, decide_eq_false_iff_not, Bool.not_eq_true', Bool.not_eq_false', Bool.not_true, Bool.not_false]; first | assumption | omega)))) | ((with_reducible apply AW.condF); exact rfl; (focus ((simp only [decide_eq_true_eq, decide_eq_false_iff_not, Bool.not_eq_true', Bool.not_eq_false', Bool.not_true, Bool.not_false]; first | assumption | omega))))))
      exact ⟨_, _, _, by omega, (Or.inl ⟨rfl, (by repeat (first | exact trivial | (refine And.intro rfl ?_)))⟩), k + 1, rfl, by omega, fun i hi => by rcases Nat.lt_succ_iff_lt_or_eq.1 hi with h | h; exact hz i h; rw [h]; exact decide_eq_false (Ne.symm hp), rfl, rfl⟩
  · (repeat (first | (with_reducible refine AWo.cons ?_) | ((with_reducible refine Step.id ?_); first | ((with_reducible apply Step.assign); exact rfl; exact rfl) | ((with_reducible apply Step.lss); exact rfl; exact rfl; exact rfl)) | (with_reducible refine AWo.nil ?_) | ((with_reducible apply AW.seq)) | ((with_reducible apply Then.n)) | ((with_reducible apply AW.regL)) | ((with_reducible apply AW.exit)) | ((with_reducible apply InBlk.hit)) | ((with_reducible apply Then.e)) | ((with_reducible apply AW.condF); exact rfl; (focus ((simp only [decide_eq_true_eq, decide_eq_false_iff_not, Bool.not_eq_true', Bool.not_eq_false', Bool.not_true, Bool.not_false]; first | assumption | omega))))))
    obtain rfl : k = l.length := by omega
    (refine AW.retD (l := [(4, _)]) (by repeat (first | exact trivial | (refine And.intro ⟨rfl, by (exact .int _ _)⟩ ?_))) ?_; (repeat (first | refine Then.r ?_ | refine InBlk.r ?_)))
    exact ⟨_, rfl, by rw [idxF_miss hz], rfl⟩
theorem any_mem (l : List Int) (x : Int) : (List.range l.length).any (fun k => decide (l.getD k 0 = x)) = decide (x ∈ l) := by
  rw [Bool.eq_iff_iff, List.any_eq_true, decide_eq_true_eq]
  constructor
  · rintro ⟨k, hk, h⟩
    rw [← of_decide_eq_true h]
    exact mem_getD' (by simpa using hk)
  · intro h
    obtain ⟨k, hk, rfl⟩ := List.getElem_of_mem h
    exact ⟨k, by simpa using hk, by simp [hk]⟩
set_option maxRecDepth 100000 in
theorem contains_ok {m : AM} {v : Value} {l : List Int} (x : Int) (hl : Ints m v l) (hlen : l.length ≤ 9223372036854775807) {b : Bool} (hb : decide (x ∈ l) = b) : ACall Try.prog 46 #[v, .int .i64 x] m (Ret (.bool b) m) := by
  subst hb
  refine ACall.start Try.func46 rfl rfl ?_
  (repeat (first | (with_reducible refine AWo.cons ?_) | ((with_reducible refine Step.id ?_); first | ((with_reducible apply Step.move); exact rfl; exact rfl) | ((with_reducible apply Step.assign); exact rfl; exact rfl) | ((with_reducible apply Step.geq); exact rfl; exact rfl; exact rfl) | ((with_reducible apply Step.callR fit); exact rfl; exact Try.func75; exact rfl; exact rfl; exact ((by rw [List.append_nil]; exact indexI_ok x hl hlen)))) | (with_reducible refine AWo.nil ?_) | ((with_reducible apply AW.seq)) | ((with_reducible apply Then.n)) | ((with_reducible apply AW.regL))))
  (refine AW.retD (l := [(4, _)]) (by repeat (first | exact trivial | (refine And.intro ⟨rfl, by (exact .bool _)⟩ ?_))) ?_; (repeat (first | refine Then.r ?_ | refine InBlk.r ?_)))
  exact ⟨_, rfl, by rw [idxF_any, any_mem], rfl⟩
set_option maxRecDepth 100000 in
theorem after_ok {m : AM} {v : Value} {j : List Job} (a b : Nat) (hj : Jobs m v j) (hb : b < j.length) (hal : (aft j b).length ≤ 9223372036854775807) {q : Bool} (hq : decide ((a : Int) ∈ aft j b) = q) : ACall Try.prog 81 #[v, .int .i64 (a : Nat), .int .i64 (b : Nat)] m (Ret (.bool q) m) := by
  have hq' : (a : Int) ∈ aft j b ↔ q = true := by rw [← hq]; simp
  clear hq
  obtain ⟨ja, o, h1, h2, h3⟩ := hj
  obtain ⟨w, hr, hw⟩ := h3 b hb
  obtain ⟨wa, wo, w1, w2, w3⟩ := hw
  simp only [aft] at *
  generalize j.getD b default = x at *
  obtain ⟨x1, x2, x3, l⟩ := x
  simp only [Job.cells] at *
  refine ACall.start Try.func81 rfl rfl ?_
  (repeat (first | (with_reducible refine AWo.cons ?_) | ((with_reducible refine Step.id ?_); first | ((with_reducible apply Step.move); exact rfl; exact rfl) | ((with_reducible apply Step.assign); exact rfl; exact rfl) | ((with_reducible apply Step.load); exact rfl; (focus (decide +kernel)); exact rfl; (focus (exact Rd.old _ (hr.at_ 3 rfl)))) | ((with_reducible apply Step.ix (s := 4)); exact rfl; (focus (assumption)); exact rfl; (focus (decide +kernel)); exact rfl; (focus (omega))) | ((with_reducible apply Step.field (k := 3)); exact rfl; (focus (decide +kernel)); exact rfl) | ((with_reducible apply Step.len); exact rfl; (focus (assumption)); (focus (decide +kernel)); exact rfl)) | (with_reducible refine AWo.nil ?_) | ((with_reducible apply AW.seq)) | ((with_reducible apply Then.n)) | ((with_reducible apply AW.regL)) | ((with_reducible apply AW.block))))
  refine AW.loopT (fun n t L => ∃ k : Nat, n = l.length - k ∧ k ≤ l.length ∧ (∀ i, i < k → l.getD i 0 ≠ (a : Int)) ∧ L = [] ∧
    t = [(1, .int .i64 (a : Nat)), (13, w), (14, .int .i64 (l.length : Nat)), (15, .int .i64 (k : Nat))]) ⟨_, _, _, (Or.inl ⟨rfl, (by repeat (first | exact trivial | (refine And.intro rfl ?_)))⟩), 0, rfl, Nat.zero_le _, by omega, rfl, rfl⟩ ?_
  rintro n t L ⟨k, rfl, hk, hz, rfl, rfl⟩
  rcases Nat.lt_or_ge k l.length with hlt | hge
  · have hrk := w3 k hlt
    by_cases hp : l.getD k 0 = (a : Int)
    · (repeat (first | (with_reducible refine AWo.cons ?_) | ((with_reducible refine Step.id ?_); first | ((with_reducible apply Step.move); exact rfl; exact rfl) | ((with_reducible apply Step.assign); exact rfl; exact rfl) | ((with_reducible apply Step.load); exact rfl; (focus (decide +kernel)); exact rfl; (focus (exact Rd.old _ (by assumption)))) | ((with_reducible apply Step.ix1); exact rfl; (focus (assumption)); exact rfl; (focus (decide +kernel)); exact rfl; (focus (omega))) | ((with_reducible apply Step.lss); exact rfl; exact rfl; exact rfl) | ((with_reducible apply Step.eql); exact rfl; exact rfl; exact rfl)) | (with_reducible refine AWo.nil ?_) | ((with_reducible apply AW.seq)) | ((with_reducible apply Then.n)) | ((with_reducible apply AW.regL)) | ((with_reducible apply AW.block)) | ((with_reducible apply AW.skip)) | ((with_reducible apply AW.condT); exact rfl; (focus ((simp only [decide_eq_true_eq, decide_eq_false_iff_not, Bool.not_eq_true', Bool.not_eq_false', Bool.not_true, Bool.not_false]; first | assumption | omega))))))
      (refine AW.retD (l := [(6, _)]) (by repeat (first | exact trivial | (refine And.intro ⟨rfl, by (exact .bool _)⟩ ?_))) ?_; (repeat (first | refine Then.r ?_ | refine InBlk.r ?_)))
      exact ⟨_, rfl, by rw [hq'.1 (by rw [← hp]; exact mem_getD' hlt)], rfl⟩
    · (repeat (first | (with_reducible refine AWo.cons ?_) | ((with_reducible refine Step.id ?_); first | ((with_reducible apply Step.move); exact rfl; exact rfl) | ((with_reducible apply Step.assign); exact rfl; exact rfl) | ((with_reducible apply Step.load); exact rfl; (focus (decide +kernel)); exact rfl; (focus (exact Rd.old _ (by assumption)))) | ((with_reducible apply Step.ix1); exact rfl; (focus (assumption)); exact rfl; (focus (decide +kernel)); exact rfl; (focus (omega))) | ((with_reducible apply Step.add); exact rfl; exact rfl; (focus (omega)); exact rfl) | ((with_reducible apply Step.lss); exact rfl; exact rfl; exact rfl) | ((with_reducible apply Step.eql); exact rfl; exact rfl; exact rfl)) | (with_reducible refine AWo.nil ?_) | ((with_reducible apply AW.seq)) | ((with_reducible apply Then.n)) | ((with_reducible apply AW.regL)) | ((with_reducible apply AW.block)) | ((with_reducible apply InBlk.n)) | ((with_reducible apply AW.skip)) | ((with_reducible apply AW.condT); exact rfl; (focus ((simp only [decide_eq_true_eq, decide_eq_false_iff_not, Bool.not_eq_true', Bool.not_eq_false', Bool.not_true, Bool.not_false]; first | assumption | omega)))) | ((with_reducible apply AW.condF); exact rfl; (focus ((simp only [decide_eq_true_eq, decide_eq_false_iff_not, Bool.not_eq_true', Bool.not_eq_false', Bool.not_true, Bool.not_false]; first | assumption | omega))))))
      exact ⟨_, _, _, by omega, (Or.inl ⟨rfl, (by repeat (first | exact trivial | (refine And.intro rfl ?_)))⟩), k + 1, rfl, by omega, fun i hi => by rcases Nat.lt_succ_iff_lt_or_eq.1 hi with h | h; exact hz i h; rw [h]; exact hp, rfl, rfl⟩
  · (repeat (first | (with_reducible refine AWo.cons ?_) | ((with_reducible refine Step.id ?_); first | ((with_reducible apply Step.assign); exact rfl; exact rfl) | ((with_reducible apply Step.lss); exact rfl; exact rfl; exact rfl)) | (with_reducible refine AWo.nil ?_) | ((with_reducible apply AW.seq)) | ((with_reducible apply Then.n)) | ((with_reducible apply AW.regL)) | ((with_reducible apply AW.exit)) | ((with_reducible apply InBlk.hit)) | ((with_reducible apply Then.e)) | ((with_reducible apply AW.condF); exact rfl; (focus ((simp only [decide_eq_true_eq, decide_eq_false_iff_not, Bool.not_eq_true', Bool.not_eq_false', Bool.not_true, Bool.not_false]; first | assumption | omega))))))
    (refine AW.retD (l := [(6, _)]) (by repeat (first | exact trivial | (refine And.intro ⟨rfl, by (exact .bool _)⟩ ?_))) ?_; (repeat (first | refine Then.r ?_ | refine InBlk.r ?_)))
    refine ⟨_, rfl, ?_, rfl⟩
    cases q with
    | false => rfl
    | true =>
      obtain ⟨i, hi, e⟩ := List.getElem_of_mem (hq'.2 rfl)
      exact absurd (by simp [hi, e]) (hz i (by omega))
def penJ (x : Job) (t : Int) : Int := x.weight * max 0 (t - x.due)
theorem penJ_bd {x : Job} {t : Int} (hw : 0 ≤ x.weight ∧ x.weight ≤ 1000) (hd : 0 ≤ x.due) (ht : t ≤ 1000000) : 0 ≤ penJ x t ∧ penJ x t ≤ 1000000000 := by
  unfold penJ
  have h1 : 0 ≤ max 0 (t - x.due) ∧ max 0 (t - x.due) ≤ 1000000 := by omega
  refine ⟨Int.mul_nonneg hw.1 h1.1, ?_⟩
  have h2 : x.weight * max 0 (t - x.due) ≤ 1000 * max 0 (t - x.due) := Int.mul_le_mul_of_nonneg_right hw.2 h1.1
  omega
set_option maxRecDepth 100000 in
theorem pen_ok {m : AM} {w : Value} (x : Job) (t : Int) (hw : w.oneCell' = true) (h1 : 0 ≤ x.weight ∧ x.weight ≤ 1000) (h2 : 0 ≤ x.due ∧ x.due ≤ 1000000) (ht : -1000000 ≤ t ∧ t ≤ 1000000) : ACall Try.prog 113 #[.agg (x.cells w).toArray, .int .i64 t] m (Ret (.int .i64 (penJ x t)) m) := by
  have hb := penJ_bd h1 h2.1 ht.2
  obtain ⟨x1, x2, x3, l⟩ := x
  simp only [Job.cells, penJ] at *
  have hw1 := job_one (x := x1) (y := x2) (z := x3) hw
  have q1 : ∀ L : AM, Rd (m ++ (some { cells := [.int .i64 x1, .int .i64 x2, .int .i64 x3, w] } :: L)) (m.length + 0) (0 + 1) (.int .i64 x2) := fun L => Rd.new rfl rfl
  have q2 : ∀ L : AM, Rd (m ++ (some { cells := [.int .i64 x1, .int .i64 x2, .int .i64 x3, w] } :: L)) (m.length + 0) (0 + 2) (.int .i64 x3) := fun L => Rd.new rfl rfl
  refine ACall.start Try.func113 rfl rfl ?_
  (repeat (first | (with_reducible refine AWo.cons ?_) | ((with_reducible refine Step.id ?_); first | ((with_reducible apply Step.move); exact rfl; exact rfl) | ((with_reducible apply Step.assign); exact rfl; exact rfl) | ((with_reducible apply Step.load); exact rfl; (focus (decide +kernel)); exact rfl; (focus (exact Rd.new rfl rfl))) | ((with_reducible apply Step.field (k := 1)); exact rfl; (focus (decide +kernel)); exact rfl) | ((with_reducible apply Step.field (k := 2)); exact rfl; (focus (decide +kernel)); exact rfl) | ((with_reducible apply Step.sub); exact rfl; exact rfl; (focus (omega)); exact rfl) | ((with_reducible apply Step.mul); exact rfl; exact rfl; (focus (omega)); exact rfl) | ((with_reducible apply Step.max); exact rfl; exact rfl; exact rfl) | ((with_reducible apply Step.box 0); exact rfl; exact rfl; (focus (first | assumption | exact hw1)); exact rfl; (focus (first | (simp only [List.nil_append, List.cons_append, List.set_cons_zero, List.set_cons_succ, iv_set, bv_set, iv_rep, bv_rep]; done) | (simp only [List.nil_append, List.cons_append, List.set_cons_zero, List.set_cons_succ, iv_set, bv_set, iv_rep, bv_rep]; rfl) | rfl)))) | (with_reducible refine AWo.nil ?_) | ((with_reducible apply AW.seq)) | ((with_reducible apply Then.n)) | ((with_reducible apply AW.regL))))
  (refine AW.retD (l := [(4, _)]) (by repeat (first | exact trivial | (refine And.intro ⟨rfl, by (exact .int _ _)⟩ ?_))) ?_; (repeat (first | refine Then.r ?_ | refine InBlk.r ?_)))
  exact ⟨_, rfl, rfl, rfl⟩
set_option maxRecDepth 100000 in
theorem RPen_ok {m : AM} {w : Value} (x : Job) (t : Int) (hw : w.oneCell' = true) (h1 : 0 ≤ x.weight ∧ x.weight ≤ 1000) (h2 : 0 ≤ x.due ∧ x.due ≤ 1000000) (ht : -1000000 ≤ t ∧ t ≤ 1000000) : ACall Try.prog 64 #[.agg (x.cells w).toArray, .int .i64 t] m (Ret (.int .i64 (penJ x t)) m) := by
  have hb := penJ_bd h1 h2.1 ht.2
  obtain ⟨x1, x2, x3, l⟩ := x
  simp only [Job.cells, penJ] at *
  have hw1 := job_one (x := x1) (y := x2) (z := x3) hw
  refine ACall.start Try.func64 rfl rfl ?_
  (repeat (first | (with_reducible refine AWo.cons ?_) | ((with_reducible refine Step.id ?_); first | ((with_reducible apply Step.move); exact rfl; exact rfl) | ((with_reducible apply Step.assign); exact rfl; exact rfl) | ((with_reducible apply Step.load); exact rfl; (focus (decide +kernel)); exact rfl; (focus (exact Rd.new rfl rfl))) | ((with_reducible apply Step.field (k := 1)); exact rfl; (focus (decide +kernel)); exact rfl) | ((with_reducible apply Step.field (k := 2)); exact rfl; (focus (decide +kernel)); exact rfl) | ((with_reducible apply Step.sub); exact rfl; exact rfl; (focus (omega)); exact rfl) | ((with_reducible apply Step.mul); exact rfl; exact rfl; (focus (omega)); exact rfl) | ((with_reducible apply Step.max); exact rfl; exact rfl; exact rfl) | ((with_reducible apply Step.box 0); exact rfl; exact rfl; (focus (first | assumption | exact hw1)); exact rfl; (focus (first | (simp only [List.nil_append, List.cons_append, List.set_cons_zero, List.set_cons_succ, iv_set, bv_set, iv_rep, bv_rep]; done) | (simp only [List.nil_append, List.cons_append, List.set_cons_zero, List.set_cons_succ, iv_set, bv_set, iv_rep, bv_rep]; rfl) | rfl)))) | (with_reducible refine AWo.nil ?_) | ((with_reducible apply AW.seq)) | ((with_reducible apply Then.n)) | ((with_reducible apply AW.regL))))
  (refine AW.retD (l := [(4, _)]) (by repeat (first | exact trivial | (refine And.intro ⟨rfl, by (exact .int _ _)⟩ ?_))) ?_; (repeat (first | refine Then.r ?_ | refine InBlk.r ?_)))
  exact ⟨_, rfl, rfl, rfl⟩
section
variable {m : AM} {r s : Nat} {kd : Kind}
set_option maxHeartbeats 1000000 in
set_option maxRecDepth 100000 in
theorem delete_ok {A Z : List Int} {n c : Nat} {g : FuncId} {cap : Array Value} {fn : Func} {bd : Code} (q : Int → Bool) (hr : r < m.length) (hkd : kd.solid = true) (hf : Try.prog.funcs[g]? = some fn) (hb : fn.body = some bd) (hA : A.length = n) (hnc : n ≤ c) (hc : c ≤ 1000000)
    (hg : ∀ row x, x ∈ A → ACall Try.prog g (#[] ++ #[.int .i64 x] ++ cap) (St m r kd s row) (Ret (.bool (q x)) (St m r kd s row))) :
    ACall Try.prog 82 #[.slice (some ⟨r, 0, none⟩) n c, .func (.func g) #[] cap] (St m r kd s (A ++ Z)) (Ret (.slice (some ⟨r, 0, none⟩) (A.filter fun x => !q x).length c) (St m r kd s ((A.filter fun x => !q x) ++ List.replicate (n - (A.filter fun x => !q x).length) 0 ++ Z))) := by
  subst hA
  have hints : Ints (St m r kd s (A ++ Z)) (.slice (some ⟨r, 0, none⟩) A.length c) A := ⟨r, 0, Sl.mk hnc, by rw [St.len]; exact hr, fun k hk => by
    have := St.rd (s := s) (kd := kd) (l := A ++ Z) hr (o := k) (by simp; omega)
    rw [getD_l hk] at this
    rwa [Nat.zero_add]⟩
  have hix := f108_ok hints hf hb (fun k => q (A.getD k 0)) (by omega) (fun k hk => hg _ _ (mem_getD' hk))
  have hsl : Sl (.slice (some ⟨r, 0, none⟩) A.length c) r 0 A.length := Sl.mk hnc
  refine ACall.intro Try.func82 rfl (Nat.le_of_ble_eq_true rfl) ?_
  by_cases hno : idxF (fun k => q (A.getD k 0)) A.length < 0
  · obtain ⟨e1, e2⟩ := idxF_neg' hno
    have hfil : (A.filter fun x => !q x) = A := by
      rw [List.filter_eq_self]
      intro x hx
      obtain ⟨k, hk, rfl⟩ := List.getElem_of_mem hx
      have := e2 k hk
      simp only [List.getD_eq_getElem?_getD, List.getElem?_eq_getElem hk, Option.getD_some] at this
      simp [this]
    rw [e1] at hix
    (repeat (first | (with_reducible refine AWo.cons ?_) | ((with_reducible refine Step.id ?_); first | ((with_reducible apply Step.move); exact rfl; exact rfl) | ((with_reducible apply Step.assign); exact rfl; exact rfl) | ((with_reducible apply Step.eql); exact rfl; exact rfl; exact rfl) | ((with_reducible apply Step.callR fit); exact rfl; exact Try.func108; exact rfl; exact rfl; exact (hix))) | (with_reducible refine AWo.nil ?_) | ((with_reducible apply AW.seq)) | ((with_reducible apply Then.n)) | ((with_reducible apply AW.regL)) | ((with_reducible apply AW.condT); exact rfl; (focus (rfl)))))
    (refine AW.ret ?_; (repeat (first | refine Then.r ?_ | refine InBlk.r ?_)))
    refine ⟨_, rfl, by rw [hfil], ?_⟩
    rw [hfil, Nat.sub_self]; simp
  · obtain ⟨k0, e1, e2, e3, e4⟩ := idxF_pos' (pr := fun k => q (A.getD k 0)) (n := A.length) (by omega)
    rw [e1] at hix
    have hpre : (A.take k0).filter (fun x => !q x) = A.take k0 := by
      rw [List.filter_eq_self]
      intro x hx
      obtain ⟨i, hi, rfl⟩ := List.getElem_of_mem hx
      simp only [List.length_take] at hi
      have := e4 i (by omega)
      simp only [List.getD_eq_getElem?_getD, List.getElem?_eq_getElem (show i < A.length by omega), Option.getD_some] at this
      simp [this]
    (repeat (first | (with_reducible refine AWo.cons ?_) | ((with_reducible refine Step.id ?_); first | ((with_reducible apply Step.move); exact rfl; exact rfl) | ((with_reducible apply Step.assign); exact rfl; exact rfl) | ((with_reducible apply Step.add); exact rfl; exact rfl; (focus (omega)); exact rfl) | ((with_reducible apply Step.eql); exact rfl; exact rfl; exact rfl) | ((with_reducible apply Step.callR fit); exact rfl; exact Try.func108; exact rfl; exact rfl; exact (hix))) | (with_reducible refine AWo.nil ?_) | ((with_reducible apply AW.seq)) | ((with_reducible apply Then.n)) | ((with_reducible apply AW.regL)) | ((with_reducible apply AW.block)) | ((with_reducible apply AW.skip)) | ((with_reducible apply AW.condF); exact rfl; (focus (rfl)))))
    refine AW.loopW (fun u t M => ∃ (jj : Nat) (K Mid : List Int), u = A.length - jj ∧ jj ≤ A.length ∧ K = (A.take jj).filter (fun x => !q x) ∧ K.length + Mid.length = jj ∧ 0 < Mid.length ∧
      t = fr [(0, .slice (some ⟨r, 0, none⟩) A.length c), (1, .func (.func g) #[] cap), (5, .int .i64 ((K.length : Nat) : Int)), (6, .int .i64 ((jj : Nat) : Int))] ∧ M = St m r kd s (K ++ Mid ++ (A.drop jj ++ Z)))
      ⟨_, [(0, .slice (some ⟨r, 0, none⟩) A.length c), (1, .func (.func g) #[] cap), (5, .int .i64 ((k0 : Nat) : Int)), (6, .int .i64 ((k0 + 1 : Nat) : Int))], (by repeat (first | exact trivial | (refine And.intro rfl ?_))), k0 + 1, A.take k0, [A.getD k0 0], rfl, by omega, ?_, ?_, by simp, ?_, ?_⟩ ?_
    · rw [take_snoc A k0 0 e2, List.filter_append, hpre]; simp only [List.filter_cons, List.filter_nil, e3]; simp
    · simp; omega
    · simp [Nat.min_eq_left (Nat.le_of_lt e2)]
    · rw [← List.append_assoc, ← take_snoc A k0 0 e2, List.take_append_drop]
    rintro u t M ⟨jj, K, Mid, rfl, hjj, hK, hKM, hMid, rfl, rfl⟩
    rcases Nat.lt_or_ge jj A.length with hlt | hge
    · obtain ⟨x, hx⟩ : ∃ x, x = A.getD jj 0 := ⟨_, rfl⟩
      have hxA : x ∈ A := by rw [hx]; exact mem_getD' hlt
      have hdrop : A.drop jj = x :: A.drop (jj + 1) := by rw [List.drop_eq_getElem_cons hlt, hx]; simp [hlt]
      have hts := take_snoc A jj 0 hlt
      rw [← hx] at hts
      have hgx := hg (K ++ Mid ++ (A.drop jj ++ Z)) x hxA
      have hfs : (A.take (jj + 1)).filter (fun x => !q x) = K ++ if q x then [] else [x] := by
        rw [hts, List.filter_append, ← hK]; cases hq : q x <;> simp [hq]
      rw [hdrop] at hgx ⊢
      have hrd : Rd (St m r kd s (K ++ Mid ++ (x :: A.drop (jj + 1) ++ Z))) r jj (.int .i64 x) := by
        have := St.rd (s := s) (kd := kd) (l := K ++ Mid ++ (x :: A.drop (jj + 1) ++ Z)) hr (o := jj) (by simp; omega)
        rw [getD_r (j := 0) (by simp; omega)] at this
        exact this
      generalize hD : A.drop (jj + 1) = D at *
      cases hq : q x with
      | true =>
        rw [hq] at hgx hfs
        (repeat (first | (with_reducible refine AWo.cons ?_) | ((with_reducible refine Step.id ?_); first | ((with_reducible apply Step.move); exact rfl; exact rfl) | ((with_reducible apply Step.assign); exact rfl; exact rfl) | ((with_reducible apply Step.load); exact rfl; (focus (decide +kernel)); exact rfl; (focus (assumption))) | ((with_reducible apply Step.ix1z); exact rfl; (focus (assumption)); exact rfl; (focus (decide +kernel)); exact rfl; (focus (omega))) | ((with_reducible apply Step.add); exact rfl; exact rfl; (focus (omega)); exact rfl) | ((with_reducible apply Step.lss); exact rfl; exact rfl; exact rfl) | ((with_reducible apply Step.len); exact rfl; (focus (assumption)); (focus (decide +kernel)); exact rfl) | ((with_reducible apply Step.not); exact rfl; exact rfl) | ((with_reducible apply Step.callV fit); exact rfl; exact rfl; exact hf; exact hb; exact rfl; exact (hgx))) | (with_reducible refine AWo.nil ?_) | ((with_reducible apply AW.seq)) | ((with_reducible apply Then.n)) | ((with_reducible apply AW.regL)) | ((with_reducible apply AW.block)) | ((with_reducible apply InBlk.n)) | ((with_reducible apply AW.skip)) | ((with_reducible apply AW.condT); exact rfl; (focus ((simp only [decide_eq_true_eq, decide_eq_false_iff_not, Bool.not_eq_true', Bool.not_eq_false', Bool.not_true, Bool.not_false]; first | assumption | omega)))) | ((with_reducible apply AW.condF); exact rfl; (focus (rfl)))))
        exact ⟨_, [(0, .slice (some ⟨r, 0, none⟩) A.length c), (1, .func (.func g) #[] cap), (5, .int .i64 ((K.length : Nat) : Int)), (6, .int .i64 ((jj + 1 : Nat) : Int))], by omega, (by repeat (first | exact trivial | (refine And.intro rfl ?_))), jj + 1, K, Mid ++ [x], rfl, by omega, by rw [hfs]; simp, by simp; omega, by simp, rfl, by rw [hD]; simp⟩
      | false =>
        rw [hq] at hgx hfs
        obtain ⟨y, M', rfl⟩ : ∃ y M', Mid = y :: M' := by cases Mid with | nil => simp at hMid | cons y M' => exact ⟨y, M', rfl⟩
        simp only [List.length_cons] at hKM
        have hset : (K ++ (y :: M') ++ (x :: D ++ Z)).set K.length x = (K ++ [x]) ++ (M' ++ [x]) ++ (D ++ Z) := by
          rw [List.append_assoc, set_r (j := 0) (by omega)]; simp
        have hll : K.length < (K ++ (y :: M') ++ (x :: D ++ Z)).length := by simp
        (repeat (first | (with_reducible refine AWo.cons ?_) | ((with_reducible refine Step.id ?_); first | ((with_reducible apply Step.move); exact rfl; exact rfl) | ((with_reducible apply Step.assign); exact rfl; exact rfl) | ((with_reducible apply Step.load); exact rfl; (focus (decide +kernel)); exact rfl; (focus (assumption))) | ((with_reducible apply Step.ix1z); exact rfl; (focus (assumption)); exact rfl; (focus (decide +kernel)); exact rfl; (focus (omega))) | ((with_reducible apply Step.add); exact rfl; exact rfl; (focus (omega)); exact rfl) | ((with_reducible apply Step.lss); exact rfl; exact rfl; exact rfl) | ((with_reducible apply Step.len); exact rfl; (focus (assumption)); (focus (decide +kernel)); exact rfl) | ((with_reducible apply Step.not); exact rfl; exact rfl) | ((with_reducible apply Step.callV fit); exact rfl; exact rfl; exact hf; exact hb; exact rfl; exact (hgx)) | ((with_reducible apply Step.storeR); exact rfl; exact rfl; (focus (decide +kernel)); exact hr; exact hkd; (focus (first | omega | (simp [swp, ms_len]; omega))); exact rfl)) | (with_reducible refine AWo.nil ?_) | ((with_reducible apply AW.seq)) | ((with_reducible apply Then.n)) | ((with_reducible apply AW.regL)) | ((with_reducible apply AW.block)) | ((with_reducible apply InBlk.n)) | ((with_reducible apply AW.skip)) | ((with_reducible apply AW.condT); exact rfl; (focus (first | rfl | (simp only [decide_eq_true_eq, decide_eq_false_iff_not, Bool.not_eq_true', Bool.not_eq_false', Bool.not_true, Bool.not_false]; first | assumption | omega))))))
        refine ⟨_, [(0, .slice (some ⟨r, 0, none⟩) A.length c), (1, .func (.func g) #[] cap), (5, .int .i64 ((K.length + 1 : Nat) : Int)), (6, .int .i64 ((jj + 1 : Nat) : Int))], by omega, (by repeat (first | exact trivial | (refine And.intro rfl ?_))), jj + 1, K ++ [x], M' ++ [x], rfl, by omega, by rw [hfs]; simp, by simp; omega, by simp, by simp, ?_⟩
        rw [hD, ← hset]
    · obtain rfl : jj = A.length := by omega
      rw [List.take_length] at hK
      rw [List.drop_length, List.nil_append]
      have hcl : (K ++ Mid ++ Z).take (0 + K.length * 1) ++ List.replicate (A.length - K.length) 0 ++ (K ++ Mid ++ Z).drop (0 + K.length * 1 + (A.length - K.length)) = K ++ List.replicate (A.length - K.length) 0 ++ Z := by
        rw [Nat.zero_add, Nat.mul_one, show K.length + (A.length - K.length) = (K ++ Mid).length by simp; omega, List.drop_left]
        rw [List.append_assoc K Mid Z, List.take_left]
      have e0 : ((K.length : Nat) : Int) = ((K.length : Nat) : Int) := rfl
      (repeat (first | (with_reducible refine AWo.cons ?_) | ((with_reducible refine Step.id ?_); first | ((with_reducible apply Step.move); exact rfl; exact rfl) | ((with_reducible apply Step.slFrom); exact rfl; exact rfl; exact rfl; (focus (omega)); (focus (omega)); (focus (omega)); exact un23; exact sz3n; exact rfl) | ((with_reducible apply Step.lss); exact rfl; exact rfl; exact rfl) | ((with_reducible apply Step.len); exact rfl; (focus (assumption)); (focus (decide +kernel)); exact rfl)) | (with_reducible refine AWo.nil ?_) | ((with_reducible apply AW.seq)) | ((with_reducible apply Then.n)) | ((with_reducible apply AW.regL)) | ((with_reducible apply AW.exit)) | ((with_reducible apply InBlk.hit)) | ((with_reducible apply Then.e)) | ((with_reducible apply AW.condF); exact rfl; (focus ((simp only [decide_eq_true_eq, decide_eq_false_iff_not, Bool.not_eq_true', Bool.not_eq_false', Bool.not_true, Bool.not_false]; first | assumption | omega))))))
      ((with_reducible apply Step.clearR); exact rfl; exact el23; exact hr; exact hkd; (focus (simp; omega)); (focus (omega)); exact hcl)
      (repeat (first | (with_reducible refine AWo.cons ?_) | ((with_reducible refine Step.id ?_); first | ((with_reducible apply Step.move); exact rfl; exact rfl) | ((with_reducible apply Step.assign); exact rfl; exact rfl) | ((with_reducible apply Step.slTo); exact rfl; exact rfl; (focus (assumption)); (focus (omega)); exact un23; exact sz3n; exact rfl)) | (with_reducible refine AWo.nil ?_) | ((with_reducible apply AW.seq)) | ((with_reducible apply Then.n)) | ((with_reducible apply AW.regL))))
      (refine AW.ret ?_; (repeat (first | refine Then.r ?_ | refine InBlk.r ?_)))
      rw [← hK]
      exact ⟨_, rfl, rfl, rfl⟩
end
end Go.Proofs.Ytmomjannlnafcaa.Abs
namespace Go.Proofs.Ytmomjannlnafcaa.Abs
set_option linter.unusedSimpArgs false
set_option linter.unusedVariables false
open Go.RowKit
open Go.Proofs.Ytmomjannlnafcaa.Sim
open Go.Proofs
abbrev jb (j : List Job) (i : Int) : Job := j.getD i.toNat default
/-- Some job of the set has i in its After. -/
def blkJ (j : List Job) (set : List Int) (i : Int) : Bool := set.any fun k => decide (i ∈ (jb j k).after)
/-- One more of the set is looked at. -/
def lastS (j : List Job) (set : List Int) (t : Int) (st : Int × Int) (i : Int) : Int × Int :=
  if blkJ j set i then st else if st.1 < 0 ∨ penJ (jb j i) t ≤ st.2 then (i, penJ (jb j i) t) else st
def sumJ (j : List Job) (set : List Int) : Int := sm (fun k => (jb j (set.getD k 0)).time) set.length
def lastF (j : List Job) (set : List Int) : Int × Int := set.foldl (lastS j set (sumJ j set)) (-1, 0)
def InJ (j : List Job) (set : List Int) : Prop := ∀ x ∈ set, 0 ≤ x ∧ x < j.length
theorem sumJ_bd {j : List Job} (h : JOk j) {set : List Int} (hs : InJ j set) : ∀ k, k ≤ set.length → (k : Int) ≤ sm (fun k => (jb j (set.getD k 0)).time) k ∧ sm (fun k => (jb j (set.getD k 0)).time) k ≤ 10000 * k
  | 0, _ => by simp [sm]
  | k + 1, hk => by
    have h1 := sumJ_bd h hs k (by omega)
    have hm := hs _ (mem_getD' hk)
    have h2 := h.num (set.getD k 0).toNat (by omega)
    have hs : sm (fun k => (jb j (set.getD k 0)).time) (k + 1) = sm (fun k => (jb j (set.getD k 0)).time) k + (jb j (set.getD k 0)).time := rfl
    have h3 : 1 ≤ (jb j (set.getD k 0)).time ∧ (jb j (set.getD k 0)).time ≤ 10000 := ⟨h2.1, h2.2.1⟩
    rw [hs]
    omega
set_option maxRecDepth 100000 in
theorem f111_ok {m : AM} {p : Nat} {v : Value} {j : List Job} (x : Int) (hj : Jobs m v j) (hp : Rd m p 0 v) (hx : 0 ≤ x ∧ x < j.length) : ACall Try.prog 111 #[.int .i64 x, .pointer (some ⟨p, 0, none⟩)] m (Ret (.int .i64 (jb j x).time) m) := by
  obtain ⟨k, rfl⟩ := Int.eq_ofNat_of_zero_le hx.1
  obtain ⟨a, o, h1, h2, h3⟩ := hj
  obtain ⟨w, hr, hw⟩ := h3 k (by omega)
  simp only [jb, Int.toNat_natCast]
  generalize j.getD k default = y at *
  obtain ⟨x1, x2, x3, l⟩ := y
  simp only [Job.cells] at *
  have r0 := hr.at_ 0 rfl
  rw [← List.append_nil m] at hp r0
  refine ACall.start Try.func111 rfl rfl ?_
  (repeat (first | (with_reducible refine AWo.cons ?_) | ((with_reducible refine Step.id ?_); first | ((with_reducible apply Step.move); exact rfl; exact rfl) | ((with_reducible apply Step.assign); exact rfl; exact rfl) | ((with_reducible apply Step.load); exact rfl; (focus (decide +kernel)); exact rfl; (focus (assumption))) | ((with_reducible apply Step.ix (s := 4)); exact rfl; (focus (assumption)); exact rfl; (focus (decide +kernel)); exact rfl; (focus (omega))) | ((with_reducible apply Step.field0); exact rfl; (focus (decide +kernel)); exact rfl)) | (with_reducible refine AWo.nil ?_) | ((with_reducible apply AW.seq)) | ((with_reducible apply Then.n)) | ((with_reducible apply AW.regL))))
  (refine AW.retD (l := [(3, _)]) (by repeat (first | exact trivial | (refine And.intro ⟨rfl, by (exact .int _ _)⟩ ?_))) ?_; (repeat (first | refine Then.r ?_ | refine InBlk.r ?_)))
  exact ⟨_, rfl, rfl, rfl⟩
set_option maxRecDepth 100000 in
theorem f112_ok {m : AM} {p q : Nat} {v : Value} {j : List Job} (x i : Int) (hj : Jobs m v j) (hJ : JOk j) (hp : Rd m p 0 v) (hq : Rd m q 0 (.int .i64 i)) (hx : 0 ≤ x ∧ x < j.length) {b : Bool} (hb : decide (i ∈ (jb j x).after) = b) :
    ACall Try.prog 112 #[.int .i64 x, .pointer (some ⟨p, 0, none⟩), .pointer (some ⟨q, 0, none⟩)] m (Ret (.bool b) m) := by
  obtain ⟨k, rfl⟩ := Int.eq_ofNat_of_zero_le hx.1
  obtain ⟨a, o, h1, h2, h3⟩ := hj
  have hk : k < j.length := by omega
  obtain ⟨w, hr, hw⟩ := h3 k hk
  have hl := hJ.alen hk
  have h40 := hJ.len
  simp only [jb, Int.toNat_natCast, aft] at *
  have hb' : (i ∈ (j.getD k default).after) ↔ b = true := by rw [← hb]; simp
  clear hb
  generalize j.getD k default = y at *
  obtain ⟨x1, x2, x3, l⟩ := y
  simp only [Job.cells] at *
  have r3 := hr.at_ 3 rfl
  have co := contains_ok (m := m ++ []) (v := w) (l := l) i (hw.old []) (by omega) (b := b) (by rw [Bool.eq_iff_iff, decide_eq_true_eq]; exact hb')
  rw [← List.append_nil m] at hp hq r3
  refine ACall.start Try.func112 rfl rfl ?_
  (repeat (first | (with_reducible refine AWo.cons ?_) | ((with_reducible refine Step.id ?_); first | ((with_reducible apply Step.move); exact rfl; exact rfl) | ((with_reducible apply Step.assign); exact rfl; exact rfl) | ((with_reducible apply Step.load); exact rfl; (focus (decide +kernel)); exact rfl; (focus (assumption))) | ((with_reducible apply Step.ix (s := 4)); exact rfl; (focus (assumption)); exact rfl; (focus (decide +kernel)); exact rfl; (focus (omega))) | ((with_reducible apply Step.field (k := 3)); exact rfl; (focus (decide +kernel)); exact rfl) | ((with_reducible apply Step.callR fit); exact rfl; exact Try.func46; exact rfl; exact rfl; exact (co))) | (with_reducible refine AWo.nil ?_) | ((with_reducible apply AW.seq)) | ((with_reducible apply Then.n)) | ((with_reducible apply AW.regL)) | ((with_reducible apply AW.drawL fit); (focus (decide +kernel)))))
  (refine AW.retD (l := [(4, _)]) (by repeat (first | exact trivial | (refine And.intro ⟨rfl, by (exact .bool _)⟩ ?_))) ?_; (repeat (first | refine Then.r ?_ | refine InBlk.r ?_)))
  exact ⟨_, rfl, rfl, rfl⟩
theorem ze3 : zeroB Try.prog 3 = some #[.int .i64 0] := by kernel_rfl
theorem foldl_snoc {α β : Type} (f : β → α → β) (b : β) (l : List α) (x : α) : (l ++ [x]).foldl f b = f (l.foldl f b) x := by simp
set_option maxHeartbeats 2000000 in
set_option maxRecDepth 100000 in
theorem last_ok {m : AM} {v u : Value} {j : List Job} {set : List Int} (hj : Jobs m v j) (hl : Ints m u set) (hJ : JOk j) (hset : InJ j set) (hlen : set.length ≤ 40) {q : Int × Int} (hq : lastF j set = q) : ACall Try.prog 89 #[v, u] m (Ret (.tuple #[.int .i64 q.1, .int .i64 q.2]) m) := by
  subst hq
  obtain ⟨a, o, h1, h2, h3⟩ := id hj
  obtain ⟨b, z, k1, k2, k3⟩ := id hl
  have hv := h1.cells
  have h40 := hJ.len
  have hsb := sumJ_bd hJ hset
  have su := sum_ok (m := m ++ [some { cells := [v] }]) (v := u) (l := set) (g := 111) (cap := #[.pointer (some ⟨m.length + 0, 0, none⟩)]) (hl.old _) Try.func111 rfl (fun k => (jb j (set.getD k 0)).time) (by omega)
    (fun k hk => by have := hsb k hk; omega)
    (fun k hk => f111_ok (set.getD k 0) (hj.old _) (Rd.new (k := 0) rfl rfl) (hset _ (mem_getD' hk)))
  obtain ⟨t0, ht0⟩ : ∃ t0, sumJ j set = t0 := ⟨_, rfl⟩
  have tb := hsb set.length (Nat.le_refl _)
  have ht0' : sm (fun k => (jb j (set.getD k 0)).time) set.length = t0 := ht0
  rw [ht0'] at su tb
  refine ACall.start Try.func89 rfl rfl ?_
  (repeat (first | (with_reducible refine AWo.cons ?_) | ((with_reducible refine Step.id ?_); first | ((with_reducible apply Step.move); exact rfl; exact rfl) | ((with_reducible apply Step.assign); exact rfl; exact rfl) | ((with_reducible apply Step.len); exact rfl; (focus (assumption)); (focus (decide +kernel)); exact rfl) | ((with_reducible apply Step.fn); exact rfl; exact rfl; exact rfl) | ((with_reducible apply Step.callR fit); exact rfl; exact Try.func71; exact rfl; exact rfl; exact (su)) | ((with_reducible apply Step.boxV 0); exact rfl; exact rfl; (focus (assumption)); exact rfl; (focus (first | (simp only [List.nil_append, List.cons_append, List.set_cons_zero, List.set_cons_succ, iv_set, bv_set, iv_rep, bv_rep]; done) | (simp only [List.nil_append, List.cons_append, List.set_cons_zero, List.set_cons_succ, iv_set, bv_set, iv_rep, bv_rep]; rfl) | rfl)))) | (with_reducible refine AWo.nil ?_) | ((with_reducible apply AW.seq)) | ((with_reducible apply Then.n)) | ((with_reducible apply AW.regL)) | ((with_reducible apply AW.block))))
  refine AW.loopT (fun n t L => ∃ (k : Nat) (st : Int × Int), n = set.length - k ∧ k ≤ set.length ∧ st = (set.take k).foldl (lastS j set t0) (-1, 0) ∧ L = [some { cells := [v] }] ∧
    t = [(1, u), (2, .pointer (some ⟨m.length + 0, 0, none⟩)), (6, .int .i64 t0), (7, .int .i64 st.1), (8, .int .i64 st.2), (15, u), (16, .int .i64 (set.length : Nat)), (17, .int .i64 (k : Nat))]) ⟨_, _, _, (Or.inl ⟨rfl, (by repeat (first | exact trivial | (refine And.intro rfl ?_)))⟩), 0, (-1, 0), rfl, Nat.zero_le _, rfl, rfl, rfl⟩ ?_
  rintro n t L ⟨k, ⟨bst, lst⟩, rfl, hk, hst, rfl, rfl⟩
  rcases Nat.lt_or_ge k set.length with hlt | hge
  · have ts := take_snoc set k 0 hlt
    have hrk := k3 k hlt
    have hm := hset _ (mem_getD' hlt)
    have hfs : (set.take (k + 1)).foldl (lastS j set t0) (-1, 0) = lastS j set t0 (bst, lst) (set.getD k 0) := by rw [ts, foldl_snoc, ← hst]
    generalize set.getD k 0 = i at *
    obtain ⟨ik, rfl⟩ := Int.eq_ofNat_of_zero_le hm.1
    have hik : ik < j.length := by omega
    obtain ⟨w, hr, hw⟩ := h3 ik hik
    obtain ⟨wa, wo, w1, w2, w3⟩ := id hw
    have hone := w1.one
    have hnum := hJ.num ik hik
    have call := f94_ok (m := m ++ [some { cells := [v] }, some { cells := [.int .i64 (ik : Nat)] }]) (v := u) (l := set) (g := 112) (cap := #[.pointer (some ⟨m.length + 0, 0, none⟩), .pointer (some ⟨m.length + 1, 0, none⟩)]) (hl.old _) Try.func112 rfl (fun k => decide (((ik : Nat) : Int) ∈ (jb j (set.getD k 0)).after)) (by omega)
      (fun k hk => f112_ok (set.getD k 0) ((ik : Nat) : Int) (hj.old _) hJ (Rd.new (k := 0) rfl rfl) (Rd.new (k := 1) rfl rfl) (hset _ (mem_getD' hk)) rfl)
      (b := blkJ j set (ik : Nat)) (by
        unfold blkJ
        have := any_all set 0 (fun k => !decide (((ik : Nat) : Int) ∈ (jb j k).after))
        simp only [Bool.not_not] at this
        rw [this, List.not_all_eq_any_not]
        simp)
    cases hblk : blkJ j set ((ik : Nat) : Int) with
    | true =>
      rw [hblk] at call
      simp only [lastS, hblk, if_true] at hfs
      (repeat (first | (with_reducible refine AWo.cons ?_) | ((with_reducible refine Step.id ?_); first | ((with_reducible apply Step.move); exact rfl; exact rfl) | ((with_reducible apply Step.load); exact rfl; (focus (decide +kernel)); exact rfl; (focus (exact Rd.old _ (by assumption)))) | ((with_reducible apply Step.ix1); exact rfl; (focus (assumption)); exact rfl; (focus (decide +kernel)); exact rfl; (focus (omega))) | ((with_reducible apply Step.add); exact rfl; exact rfl; (focus (omega)); exact rfl) | ((with_reducible apply Step.lss); exact rfl; exact rfl; exact rfl) | ((with_reducible apply Step.fn); exact rfl; exact rfl; exact rfl) | ((with_reducible apply Step.callR fit); exact rfl; exact Try.func94; exact rfl; exact rfl; exact (call)) | ((with_reducible apply Step.alloc 1); exact rfl; exact ze3; exact rfl; (focus (first | (simp only [List.nil_append, List.cons_append, List.set_cons_zero, List.set_cons_succ, iv_set, bv_set, iv_rep, bv_rep]; done) | (simp only [List.nil_append, List.cons_append, List.set_cons_zero, List.set_cons_succ, iv_set, bv_set, iv_rep, bv_rep]; rfl) | rfl))) | ((with_reducible apply Step.store (k := 1)); exact rfl; exact rfl; exact rfl; exact rfl; (focus (decide +kernel)); exact rfl; exact rfl; (focus (first | omega | (simp [iv, bv]; done) | (simp [iv, bv]; omega))); (focus (first | (simp only [List.nil_append, List.cons_append, List.set_cons_zero, List.set_cons_succ, iv_set, bv_set, iv_rep, bv_rep]; done) | (simp only [List.nil_append, List.cons_append, List.set_cons_zero, List.set_cons_succ, iv_set, bv_set, iv_rep, bv_rep]; rfl) | rfl)))) | (with_reducible refine AWo.nil ?_) | ((with_reducible apply AW.seq)) | ((with_reducible apply Then.n)) | ((with_reducible apply AW.regL)) | ((with_reducible apply AW.block)) | ((with_reducible apply AW.exit)) | ((with_reducible apply InBlk.hit)) | ((with_reducible apply Then.e)) | ((with_reducible apply AW.skip)) | ((with_reducible apply AW.condT); exact rfl; (focus (first | rfl | (simp only [decide_eq_true_eq, decide_eq_false_iff_not, Bool.not_eq_true', Bool.not_eq_false', Bool.not_true, Bool.not_false]; first | assumption | omega))))))
      exact ⟨_, _, [some { cells := [v] }], by omega, (Back.trimC rfl rfl (by repeat (first | exact CellsP.nil | (refine CellsP.cons ?_ ?_; (focus (((repeat (first | exact cells_nil | (refine cells_cons ?_ ?_; (focus (exact Ren.of_sl (by assumption) (by first | omega | (simp; omega))))))); done)))))) (by repeat (first | exact trivial | (refine And.intro ⟨rfl, by (first | exact .int _ _ | exact .ptr _ _ (by first | (simp; done) | omega | (simp; omega)) | exact Ren.of_sl (by assumption) (by first | omega | (simp; omega)))⟩ ?_)))), k + 1, (bst, lst), rfl, by omega, hfs.symm, rfl, rfl⟩
    | false =>
      rw [hblk] at call
      simp only [lastS, hblk, jb, Int.toNat_natCast] at hfs
      have pn := pen_ok (m := m ++ [some { cells := [v] }, some { cells := [.int .i64 (ik : Nat)] }]) (w := w) (j.getD ik default) t0 hone ⟨by omega, by omega⟩ ⟨by omega, by omega⟩ ⟨by omega, by omega⟩
      generalize j.getD ik default = x at *
      generalize hpx : penJ x t0 = px at *
      obtain ⟨x1, x2, x3, af⟩ := x
      simp only [Job.cells] at *
      by_cases hb0 : bst < 0
      · rw [if_neg (by simp), if_pos (.inl hb0)] at hfs
        (repeat (first | (with_reducible refine AWo.cons ?_) | ((with_reducible refine Step.id ?_); first | ((with_reducible apply Step.gdF); exact rfl; exact rfl; (focus ((simp only [decide_eq_true_eq, decide_eq_false_iff_not, Bool.not_eq_true', Bool.not_eq_false', Bool.not_true, Bool.not_false]; first | assumption | omega)))) | ((with_reducible apply Step.move); exact rfl; exact rfl) | ((with_reducible apply Step.assign); exact rfl; exact rfl) | ((with_reducible apply Step.load); exact rfl; (focus (decide +kernel)); exact rfl; (focus (first | exact Rd.new rfl rfl | exact Rd.old _ (by assumption)))) | ((with_reducible apply Step.loadL (n := 4)); exact rfl; (focus (decide +kernel)); (focus (decide +kernel)); exact rfl; (focus (exact RdL.old _ (by assumption))); exact rfl; exact rfl) | ((with_reducible apply Step.ix1); exact rfl; (focus (assumption)); exact rfl; (focus (decide +kernel)); exact rfl; (focus (omega))) | ((with_reducible apply Step.ix (s := 4)); exact rfl; (focus (assumption)); exact rfl; (focus (decide +kernel)); exact rfl; (focus (omega))) | ((with_reducible apply Step.add); exact rfl; exact rfl; (focus (omega)); exact rfl) | ((with_reducible apply Step.lss); exact rfl; exact rfl; exact rfl) | ((with_reducible apply Step.fn); exact rfl; exact rfl; exact rfl) | ((with_reducible apply Step.pickT); exact rfl; exact rfl; exact rfl; exact rfl; (focus ((simp only [decide_eq_true_eq, decide_eq_false_iff_not, Bool.not_eq_true', Bool.not_eq_false', Bool.not_true, Bool.not_false]; first | assumption | omega)))) | ((with_reducible apply Step.callR fit); exact rfl; exact Try.func94; exact rfl; exact rfl; exact (call)) | ((with_reducible apply Step.callR fit); exact rfl; exact Try.func113; exact rfl; exact rfl; exact (pn)) | ((with_reducible apply Step.alloc 1); exact rfl; exact ze3; exact rfl; (focus (first | (simp only [List.nil_append, List.cons_append, List.set_cons_zero, List.set_cons_succ, iv_set, bv_set, iv_rep, bv_rep]; done) | (simp only [List.nil_append, List.cons_append, List.set_cons_zero, List.set_cons_succ, iv_set, bv_set, iv_rep, bv_rep]; rfl) | rfl))) | ((with_reducible apply Step.store (k := 1)); exact rfl; exact rfl; exact rfl; exact rfl; (focus (decide +kernel)); exact rfl; exact rfl; (focus (first | omega | (simp [iv, bv]; done) | (simp [iv, bv]; omega))); (focus (first | (simp only [List.nil_append, List.cons_append, List.set_cons_zero, List.set_cons_succ, iv_set, bv_set, iv_rep, bv_rep]; done) | (simp only [List.nil_append, List.cons_append, List.set_cons_zero, List.set_cons_succ, iv_set, bv_set, iv_rep, bv_rep]; rfl) | rfl)))) | (with_reducible refine AWo.nil ?_) | ((with_reducible apply AW.seq)) | ((with_reducible apply Then.n)) | ((with_reducible apply AW.regL)) | ((with_reducible apply AW.block)) | ((with_reducible apply InBlk.n)) | ((with_reducible apply AW.skip)) | ((with_reducible apply AW.condT); exact rfl; (focus (first | rfl | (simp only [decide_eq_true_eq, decide_eq_false_iff_not, Bool.not_eq_true', Bool.not_eq_false', Bool.not_true, Bool.not_false]; first | assumption | omega)))) | ((with_reducible apply AW.condF); exact rfl; (focus (rfl)))))
        exact ⟨_, _, [some { cells := [v] }], by omega, (Back.trimC rfl rfl (by repeat (first | exact CellsP.nil | (refine CellsP.cons ?_ ?_; (focus (((repeat (first | exact cells_nil | (refine cells_cons ?_ ?_; (focus (exact Ren.of_sl (by assumption) (by first | omega | (simp; omega))))))); done)))))) (by repeat (first | exact trivial | (refine And.intro ⟨rfl, by (first | exact .int _ _ | exact .ptr _ _ (by first | (simp; done) | omega | (simp; omega)) | exact Ren.of_sl (by assumption) (by first | omega | (simp; omega)))⟩ ?_)))), k + 1, _, rfl, by omega, hfs.symm, rfl, rfl⟩
      · by_cases hle : px ≤ lst
        · rw [if_neg (by simp), if_pos (.inr hle)] at hfs
          (repeat (first | (with_reducible refine AWo.cons ?_) | ((with_reducible refine Step.id ?_); first | ((with_reducible apply Step.gdT); exact rfl; exact rfl; (focus ((simp only [decide_eq_true_eq, decide_eq_false_iff_not, Bool.not_eq_true', Bool.not_eq_false', Bool.not_true, Bool.not_false]; first | assumption | omega)))) | ((with_reducible apply Step.move); exact rfl; exact rfl) | ((with_reducible apply Step.assign); exact rfl; exact rfl) | ((with_reducible apply Step.load); exact rfl; (focus (decide +kernel)); exact rfl; (focus (first | exact Rd.new rfl rfl | exact Rd.old _ (by assumption)))) | ((with_reducible apply Step.loadL (n := 4)); exact rfl; (focus (decide +kernel)); (focus (decide +kernel)); exact rfl; (focus (exact RdL.old _ (by assumption))); exact rfl; exact rfl) | ((with_reducible apply Step.ix1); exact rfl; (focus (assumption)); exact rfl; (focus (decide +kernel)); exact rfl; (focus (omega))) | ((with_reducible apply Step.ix (s := 4)); exact rfl; (focus (assumption)); exact rfl; (focus (decide +kernel)); exact rfl; (focus (omega))) | ((with_reducible apply Step.add); exact rfl; exact rfl; (focus (omega)); exact rfl) | ((with_reducible apply Step.lss); exact rfl; exact rfl; exact rfl) | ((with_reducible apply Step.leq); exact rfl; exact rfl; exact rfl) | ((with_reducible apply Step.fn); exact rfl; exact rfl; exact rfl) | ((with_reducible apply Step.pickF); exact rfl; exact rfl; exact rfl; exact rfl; (focus ((simp only [decide_eq_true_eq, decide_eq_false_iff_not, Bool.not_eq_true', Bool.not_eq_false', Bool.not_true, Bool.not_false]; first | assumption | omega)))) | ((with_reducible apply Step.callR fit); exact rfl; exact Try.func94; exact rfl; exact rfl; exact (call)) | ((with_reducible apply Step.callR fit); exact rfl; exact Try.func113; exact rfl; exact rfl; exact (pn)) | ((with_reducible apply Step.alloc 1); exact rfl; exact ze3; exact rfl; (focus (first | (simp only [List.nil_append, List.cons_append, List.set_cons_zero, List.set_cons_succ, iv_set, bv_set, iv_rep, bv_rep]; done) | (simp only [List.nil_append, List.cons_append, List.set_cons_zero, List.set_cons_succ, iv_set, bv_set, iv_rep, bv_rep]; rfl) | rfl))) | ((with_reducible apply Step.store (k := 1)); exact rfl; exact rfl; exact rfl; exact rfl; (focus (decide +kernel)); exact rfl; exact rfl; (focus (first | omega | (simp [iv, bv]; done) | (simp [iv, bv]; omega))); (focus (first | (simp only [List.nil_append, List.cons_append, List.set_cons_zero, List.set_cons_succ, iv_set, bv_set, iv_rep, bv_rep]; done) | (simp only [List.nil_append, List.cons_append, List.set_cons_zero, List.set_cons_succ, iv_set, bv_set, iv_rep, bv_rep]; rfl) | rfl)))) | (with_reducible refine AWo.nil ?_) | ((with_reducible apply AW.seq)) | ((with_reducible apply Then.n)) | ((with_reducible apply AW.regL)) | ((with_reducible apply AW.block)) | ((with_reducible apply InBlk.n)) | ((with_reducible apply AW.skip)) | ((with_reducible apply AW.condT); exact rfl; (focus ((simp only [decide_eq_true_eq, decide_eq_false_iff_not, Bool.not_eq_true', Bool.not_eq_false', Bool.not_true, Bool.not_false]; first | assumption | omega)))) | ((with_reducible apply AW.condF); exact rfl; (focus (rfl)))))
          exact ⟨_, _, [some { cells := [v] }], by omega, (Back.trimC rfl rfl (by repeat (first | exact CellsP.nil | (refine CellsP.cons ?_ ?_; (focus (((repeat (first | exact cells_nil | (refine cells_cons ?_ ?_; (focus (exact Ren.of_sl (by assumption) (by first | omega | (simp; omega))))))); done)))))) (by repeat (first | exact trivial | (refine And.intro ⟨rfl, by (first | exact .int _ _ | exact .ptr _ _ (by first | (simp; done) | omega | (simp; omega)) | exact Ren.of_sl (by assumption) (by first | omega | (simp; omega)))⟩ ?_)))), k + 1, _, rfl, by omega, hfs.symm, rfl, rfl⟩
        · rw [if_neg (by simp), if_neg (by omega)] at hfs
          (repeat (first | (with_reducible refine AWo.cons ?_) | ((with_reducible refine Step.id ?_); first | ((with_reducible apply Step.gdT); exact rfl; exact rfl; (focus ((simp only [decide_eq_true_eq, decide_eq_false_iff_not, Bool.not_eq_true', Bool.not_eq_false', Bool.not_true, Bool.not_false]; first | assumption | omega)))) | ((with_reducible apply Step.move); exact rfl; exact rfl) | ((with_reducible apply Step.assign); exact rfl; exact rfl) | ((with_reducible apply Step.load); exact rfl; (focus (decide +kernel)); exact rfl; (focus (first | exact Rd.new rfl rfl | exact Rd.old _ (by assumption)))) | ((with_reducible apply Step.loadL (n := 4)); exact rfl; (focus (decide +kernel)); (focus (decide +kernel)); exact rfl; (focus (exact RdL.old _ (by assumption))); exact rfl; exact rfl) | ((with_reducible apply Step.ix1); exact rfl; (focus (assumption)); exact rfl; (focus (decide +kernel)); exact rfl; (focus (omega))) | ((with_reducible apply Step.ix (s := 4)); exact rfl; (focus (assumption)); exact rfl; (focus (decide +kernel)); exact rfl; (focus (omega))) | ((with_reducible apply Step.add); exact rfl; exact rfl; (focus (omega)); exact rfl) | ((with_reducible apply Step.lss); exact rfl; exact rfl; exact rfl) | ((with_reducible apply Step.leq); exact rfl; exact rfl; exact rfl) | ((with_reducible apply Step.fn); exact rfl; exact rfl; exact rfl) | ((with_reducible apply Step.pickF); exact rfl; exact rfl; exact rfl; exact rfl; (focus ((simp only [decide_eq_true_eq, decide_eq_false_iff_not, Bool.not_eq_true', Bool.not_eq_false', Bool.not_true, Bool.not_false]; first | assumption | omega)))) | ((with_reducible apply Step.callR fit); exact rfl; exact Try.func94; exact rfl; exact rfl; exact (call)) | ((with_reducible apply Step.callR fit); exact rfl; exact Try.func113; exact rfl; exact rfl; exact (pn)) | ((with_reducible apply Step.alloc 1); exact rfl; exact ze3; exact rfl; (focus (first | (simp only [List.nil_append, List.cons_append, List.set_cons_zero, List.set_cons_succ, iv_set, bv_set, iv_rep, bv_rep]; done) | (simp only [List.nil_append, List.cons_append, List.set_cons_zero, List.set_cons_succ, iv_set, bv_set, iv_rep, bv_rep]; rfl) | rfl))) | ((with_reducible apply Step.store (k := 1)); exact rfl; exact rfl; exact rfl; exact rfl; (focus (decide +kernel)); exact rfl; exact rfl; (focus (first | omega | (simp [iv, bv]; done) | (simp [iv, bv]; omega))); (focus (first | (simp only [List.nil_append, List.cons_append, List.set_cons_zero, List.set_cons_succ, iv_set, bv_set, iv_rep, bv_rep]; done) | (simp only [List.nil_append, List.cons_append, List.set_cons_zero, List.set_cons_succ, iv_set, bv_set, iv_rep, bv_rep]; rfl) | rfl)))) | (with_reducible refine AWo.nil ?_) | ((with_reducible apply AW.seq)) | ((with_reducible apply Then.n)) | ((with_reducible apply AW.regL)) | ((with_reducible apply AW.block)) | ((with_reducible apply InBlk.n)) | ((with_reducible apply AW.skip)) | ((with_reducible apply AW.condT); exact rfl; (focus ((simp only [decide_eq_true_eq, decide_eq_false_iff_not, Bool.not_eq_true', Bool.not_eq_false', Bool.not_true, Bool.not_false]; first | assumption | omega)))) | ((with_reducible apply AW.condF); exact rfl; (focus (first | rfl | (simp only [decide_eq_true_eq, decide_eq_false_iff_not, Bool.not_eq_true', Bool.not_eq_false', Bool.not_true, Bool.not_false]; first | assumption | omega))))))
          exact ⟨_, _, [some { cells := [v] }], by omega, (Back.trimC rfl rfl (by repeat (first | exact CellsP.nil | (refine CellsP.cons ?_ ?_; (focus (((repeat (first | exact cells_nil | (refine cells_cons ?_ ?_; (focus (exact Ren.of_sl (by assumption) (by first | omega | (simp; omega))))))); done)))))) (by repeat (first | exact trivial | (refine And.intro ⟨rfl, by (first | exact .int _ _ | exact .ptr _ _ (by first | (simp; done) | omega | (simp; omega)) | exact Ren.of_sl (by assumption) (by first | omega | (simp; omega)))⟩ ?_)))), k + 1, (bst, lst), rfl, by omega, hfs.symm, rfl, rfl⟩
  · (repeat (first | (with_reducible refine AWo.cons ?_) | ((with_reducible refine Step.id ?_); first | ((with_reducible apply Step.move); exact rfl; exact rfl) | ((with_reducible apply Step.assign); exact rfl; exact rfl) | ((with_reducible apply Step.lss); exact rfl; exact rfl; exact rfl)) | (with_reducible refine AWo.nil ?_) | ((with_reducible apply AW.seq)) | ((with_reducible apply Then.n)) | ((with_reducible apply AW.regL)) | ((with_reducible apply AW.exit)) | ((with_reducible apply InBlk.hit)) | ((with_reducible apply Then.e)) | ((with_reducible apply AW.condF); exact rfl; (focus ((simp only [decide_eq_true_eq, decide_eq_false_iff_not, Bool.not_eq_true', Bool.not_eq_false', Bool.not_true, Bool.not_false]; first | assumption | omega))))))
    (refine AW.retD (l := [(4, _), (5, _)]) (by repeat (first | exact trivial | (refine And.intro ⟨rfl, by (exact .int _ _)⟩ ?_))) ?_; (repeat (first | refine Then.r ?_ | refine InBlk.r ?_)))
    refine ⟨_, rfl, ?_, rfl⟩
    rw [List.take_of_length_le hge] at hst
    unfold lastF
    rw [ht0, ← hst]
end Go.Proofs.Ytmomjannlnafcaa.Abs
namespace Go.Proofs.Ytmomjannlnafcaa.Abs
set_option linter.unusedSimpArgs false
set_option linter.unusedVariables false
open Go.RowKit
open Go.Proofs.Ytmomjannlnafcaa.Sim
open Go.Proofs
theorem idxF_succ (pr : Nat → Bool) (i : Nat) : idxF pr (i + 1) = if idxF pr i < 0 then (if pr i then (i : Int) else -1) else idxF pr i := by
  unfold idxF
  rw [List.range_succ, List.find?_append]
  cases h : (List.range i).find? pr with
  | none =>
    simp only [Option.none_or]
    cases hp : pr i with
    | true => simp [hp]
    | false => simp [hp]
  | some k => simp; omega
theorem idxF_neg {pr : Nat → Bool} {n : Nat} (h : idxF pr n < 0) : idxF pr n = -1 ∧ ∀ i, i < n → pr i = false := by
  unfold idxF at h ⊢
  cases h' : (List.range n).find? pr with
  | none =>
    refine ⟨rfl, fun i hi => ?_⟩
    have := List.find?_eq_none.1 h' i (by simpa using hi)
    simpa using this
  | some k => rw [h'] at h; simp at h; omega
theorem idxF_pos {pr : Nat → Bool} {n : Nat} (h : 0 ≤ idxF pr n) : ∃ k : Nat, idxF pr n = k ∧ k < n ∧ pr k = true ∧ ∀ i, i < k → pr i = false := by
  unfold idxF at h ⊢
  cases h' : (List.range n).find? pr with
  | none => rw [h'] at h; simp at h
  | some k =>
    obtain ⟨h1, h2, h3⟩ := List.find?_range_eq_some.1 h'
    exact ⟨k, rfl, by simpa using h2, h1, fun i hi => by simpa using h3 i hi⟩
theorem sortF_len (j : List Job) : ∀ (f : Nat) (P : List Nat), (sortF j f P).length ≤ f + P.length
  | 0, P => by simp [sortF]
  | f + 1, P => by
    rw [sortF]
    split
    · omega
    · have := sortF_len j f (P ++ [‹Nat›])
      simp at this; omega
theorem sortF_stuck {j : List Job} {P : List Nat} {f : Nat} (h : ∀ i, i < j.length → readyJ j P i = false) (hs : sortF j f P = sortL j) : sortL j = P := by rw [← hs, sortF_none h]
set_option maxHeartbeats 2000000 in
set_option maxRecDepth 100000 in
theorem RSorted_ok {m : AM} {v : Value} {j : List Job} (hj : Jobs m v j) (hok : JOk j) {P0 : List Nat} (hP0 : sortL j = P0) (hn : P0.length = j.length) : ACall Try.prog 96 #[v] m (NewT (fun N => .tuple #[gv N P0.length, .bool true]) (gb (iv (nv P0)) 1) m) := by
  subst hP0
  have h40 := hok.len
  obtain ⟨a, o, h1, h2, h3⟩ := hj
  refine ACall.start Try.func96 rfl rfl ?_
  (repeat (first | (with_reducible refine AWo.cons ?_) | ((with_reducible refine Step.id ?_); first | ((with_reducible apply Step.move); exact rfl; exact rfl) | ((with_reducible apply Step.assign); exact rfl; exact rfl) | ((with_reducible apply Step.len); exact rfl; (focus (assumption)); (focus (decide +kernel)); exact rfl) | ((with_reducible apply Step.make1 0); exact rfl; exact rfl; exact rfl; exact el84; (focus (omega)); exact rfl; (focus (first | (simp only [List.nil_append, List.cons_append, List.set_cons_zero, List.set_cons_succ, iv_set, bv_set, iv_rep, bv_rep]; done) | (simp only [List.nil_append, List.cons_append, List.set_cons_zero, List.set_cons_succ, iv_set, bv_set, iv_rep, bv_rep]; rfl) | rfl)))) | (with_reducible refine AWo.nil ?_) | ((with_reducible apply AW.seq)) | ((with_reducible apply Then.n)) | ((with_reducible apply AW.regL)) | ((with_reducible apply AW.block))))
  refine AW.loopT (fun n' t L => ∃ P : List Nat, n' = j.length - P.length ∧ P.length ≤ j.length ∧ sortF j (j.length - P.length) P = sortL j ∧
    L = [some { cells := bv (plR j.length P) }, gb (iv (nv P)) 1] ∧
    t = [(0, v), (4, gv (m.length + 1) P.length), (5, .slice (some ⟨m.length + 0, 0, none⟩) j.length j.length), (15, .int .i64 (j.length : Nat)), (16, .int .i64 (P.length : Nat))]) ⟨_, _, [some { cells := bv (List.replicate j.length false) }] ++ [none], (Back.padC rfl (by repeat (first | exact trivial | (refine And.intro ⟨rfl, by (first | exact .int _ _ | exact Ren.of_gv (by first | (simp; done) | omega | (simp; omega)) | exact .slice _ _ _ _ (by first | (simp; done) | omega | (simp; omega)) | exact Ren.of_sl (by assumption) (by first | omega | (simp; omega)))⟩ ?_))) (by repeat (first | exact CellsP.nil | (refine CellsP.cons ?_ ?_; (focus (exact cells_bv _)))))), [], rfl, Nat.zero_le _, rfl, by rw [plR_zero]; rfl, rfl⟩ ?_
  rintro n' t L ⟨P, rfl, hP, hsort, rfl, rfl⟩
  have lP := plR_len j.length P
  by_cases hfull : P.length = j.length
  · rw [show j.length - P.length = 0 by omega] at hsort
    simp only [sortF] at hsort
    rw [← hsort]
    (repeat (first | (with_reducible refine AWo.cons ?_) | ((with_reducible refine Step.id ?_); first | ((with_reducible apply Step.move); exact rfl; exact rfl) | ((with_reducible apply Step.assign); exact rfl; exact rfl) | ((with_reducible apply Step.lss); exact rfl; exact rfl; exact rfl)) | (with_reducible refine AWo.nil ?_) | ((with_reducible apply AW.seq)) | ((with_reducible apply Then.n)) | ((with_reducible apply AW.regL)) | ((with_reducible apply AW.exit)) | ((with_reducible apply InBlk.hit)) | ((with_reducible apply Then.e)) | ((with_reducible apply AW.condF); exact rfl; (focus ((simp only [decide_eq_true_eq, decide_eq_false_iff_not, Bool.not_eq_true', Bool.not_eq_false', Bool.not_true, Bool.not_false]; first | assumption | omega))))))
    refine AW.retB (l := [(2, gv (m.length + 0) P.length), (3, .bool true)]) (L1 := [gb (iv (nv P)) 1]) (Back.mvC 0 1 rfl rfl rfl rfl (by intro j b hj h; rcases j with _ | _ | _ | _ | _ | _ | _ | _ | j <;> first | exact absurd rfl hj | exact h | (simp at h; done)) (by repeat (first | exact CellsP.nil | (refine CellsP.gb ?_ ?_; (focus (exact cells_iv _))))) (by repeat (first | exact trivial | (refine And.intro ⟨_, rfl, by (first | exact .bool _ | exact Ren.gv_mv (by first | (simp; done) | omega | (simp; omega)))⟩ ?_)))) ?_
    exact ⟨_, rfl, rfl, rfl⟩
  · (repeat (first | (with_reducible refine AWo.cons ?_) | ((with_reducible refine Step.id ?_); first | ((with_reducible apply Step.move); exact rfl; exact rfl) | ((with_reducible apply Step.assign); exact rfl; exact rfl) | ((with_reducible apply Step.lss); exact rfl; exact rfl; exact rfl) | ((with_reducible apply Step.len); exact rfl; (focus (assumption)); (focus (decide +kernel)); exact rfl)) | (with_reducible refine AWo.nil ?_) | ((with_reducible apply AW.seq)) | ((with_reducible apply Then.n)) | ((with_reducible apply AW.regL)) | ((with_reducible apply AW.block)) | ((with_reducible apply AW.skip)) | ((with_reducible apply AW.condT); exact rfl; (focus ((simp only [decide_eq_true_eq, decide_eq_false_iff_not, Bool.not_eq_true', Bool.not_eq_false', Bool.not_true, Bool.not_false]; first | assumption | omega))))))
    refine AW.loopT (fun n' t L => ∃ i : Nat, n' = j.length - i ∧ i ≤ j.length ∧
      L = [some { cells := bv (plR j.length P) }, gb (iv (nv P)) 1] ∧
      t = [(0, v), (4, gv (m.length + 1) P.length), (5, .slice (some ⟨m.length + 0, 0, none⟩) j.length j.length), (15, .int .i64 (j.length : Nat)), (16, .int .i64 (P.length : Nat)), (6, .int .i64 (idxF (readyJ j P) i)), (18, v), (19, .int .i64 (j.length : Nat)), (20, .int .i64 (i : Nat))]) ⟨_, _, _, (Or.inl ⟨rfl, (by repeat (first | exact trivial | (refine And.intro rfl ?_)))⟩), 0, rfl, Nat.zero_le _, rfl, rfl⟩ ?_
    rintro n' t L ⟨i, rfl, hi, rfl, rfl⟩
    rcases Nat.lt_or_ge i j.length with hlt | hge
    · obtain ⟨w, hr, hw⟩ := h3 i hlt
      obtain ⟨wa, wo, w1, w2, w3⟩ := id hw
      have hal := hok.alen hlt
      have hmem := fun a ha => hok.mem hlt (a := a) ha
      have gP := plR_get P hlt
      have ix := idxF_succ (readyJ j P) i
      have rdef : readyJ j P i = (decide (i ∉ P) && (aft j i).all fun a => decide (a.toNat ∈ P)) := rfl
      simp only [aft] at *
      generalize j.getD i default = x at *
      obtain ⟨x1, x2, x3, l⟩ := x
      simp only [Job.cells] at *
      have hro : Rd (m ++ [some { cells := bv (plR j.length P) }, gb (iv (nv P)) 1]) (m.length + 0) i (.bool (decide (i ∈ P))) := by
        rw [← gP]; exact Rd.new rfl (bv_get (by omega))
      generalize hX : idxF (readyJ j P) i = X at *
      (repeat (first | (with_reducible refine AWo.cons ?_) | ((with_reducible refine Step.id ?_); first | ((with_reducible apply Step.move); exact rfl; exact rfl) | ((with_reducible apply Step.assign); exact rfl; exact rfl) | ((with_reducible apply Step.lss); exact rfl; exact rfl; exact rfl)) | (with_reducible refine AWo.nil ?_) | ((fail_if_success (with_reducible refine AW.atR (id := 9) ?_)); ((with_reducible apply AW.seq))) | ((with_reducible apply Then.n)) | ((with_reducible apply AW.regL)) | ((with_reducible apply AW.block)) | ((with_reducible apply AW.skip)) | ((with_reducible apply AW.condT); exact rfl; (focus ((simp only [decide_eq_true_eq, decide_eq_false_iff_not, Bool.not_eq_true', Bool.not_eq_false', Bool.not_true, Bool.not_false]; first | assumption | omega))))))
      refine AW.joinS [(0, v), (4, gv (m.length + 1) P.length), (5, .slice (some ⟨m.length + 0, 0, none⟩) j.length j.length), (15, .int .i64 (j.length : Nat)), (16, .int .i64 (P.length : Nat)), (6, .int .i64 X), (18, v), (19, .int .i64 (j.length : Nat)), (20, .int .i64 (i : Nat)), (7, .int .i64 (i : Nat)), (8, .bool (decide (i ∉ P) && decide (X < 0)))] (m ++ [some { cells := bv (plR j.length P) }, gb (iv (nv P)) 1]) ?_ ?_
      · by_cases hin : i ∈ P
        · rw [show (decide (i ∉ P) && decide (X < 0)) = false by simp [hin]]
          rw [decide_eq_true hin] at hro
          (repeat (first | (with_reducible refine AWo.cons ?_) | ((with_reducible refine Step.id ?_); first | ((with_reducible apply Step.gdF); exact rfl; exact rfl; (focus (rfl))) | ((with_reducible apply Step.move); exact rfl; exact rfl) | ((with_reducible apply Step.assign); exact rfl; exact rfl) | ((with_reducible apply Step.load); exact rfl; (focus (decide +kernel)); exact rfl; (focus (assumption))) | ((with_reducible apply Step.ix1z); exact rfl; (focus (exact Sl.mk (by omega))); exact rfl; (focus (decide +kernel)); exact rfl; (focus (omega))) | ((with_reducible apply Step.not); exact rfl; exact rfl) | ((with_reducible apply Step.pickF); exact rfl; exact rfl; exact rfl; exact rfl; (focus (rfl)))) | (with_reducible refine AWo.nil ?_) | ((with_reducible apply Then.n)) | ((with_reducible apply AW.regL))))
          exact ⟨rfl, (by repeat (first | exact trivial | (refine And.intro rfl ?_)))⟩
        · rw [show (decide (i ∉ P) && decide (X < 0)) = decide (X < 0) by simp [hin]]
          rw [decide_eq_false hin] at hro
          (repeat (first | (with_reducible refine AWo.cons ?_) | ((with_reducible refine Step.id ?_); first | ((with_reducible apply Step.gdT); exact rfl; exact rfl; (focus (rfl))) | ((with_reducible apply Step.move); exact rfl; exact rfl) | ((with_reducible apply Step.assign); exact rfl; exact rfl) | ((with_reducible apply Step.load); exact rfl; (focus (decide +kernel)); exact rfl; (focus (assumption))) | ((with_reducible apply Step.ix1z); exact rfl; (focus (exact Sl.mk (by omega))); exact rfl; (focus (decide +kernel)); exact rfl; (focus (omega))) | ((with_reducible apply Step.lss); exact rfl; exact rfl; exact rfl) | ((with_reducible apply Step.not); exact rfl; exact rfl) | ((with_reducible apply Step.pickT); exact rfl; exact rfl; exact rfl; exact rfl; (focus (rfl)))) | (with_reducible refine AWo.nil ?_) | ((with_reducible apply Then.n)) | ((with_reducible apply AW.regL))))
          exact ⟨rfl, (by repeat (first | exact trivial | (refine And.intro rfl ?_)))⟩
      generalize hb0 : (decide (i ∉ P) && decide (X < 0)) = b0
      (repeat (first | (with_reducible refine AWo.cons ?_) | ((with_reducible refine Step.id ?_); first | ((with_reducible apply Step.move); exact rfl; exact rfl) | ((with_reducible apply Step.load); exact rfl; (focus (decide +kernel)); exact rfl; (focus (exact Rd.old _ (hr.at_ 3 rfl)))) | ((with_reducible apply Step.ix (s := 4)); exact rfl; (focus (assumption)); exact rfl; (focus (decide +kernel)); exact rfl; (focus (omega))) | ((with_reducible apply Step.field (k := 3)); exact rfl; (focus (decide +kernel)); exact rfl) | ((with_reducible apply Step.len); exact rfl; (focus (assumption)); (focus (decide +kernel)); exact rfl)) | (with_reducible refine AWo.nil ?_) | ((with_reducible apply AW.seq)) | ((with_reducible apply Then.n)) | ((with_reducible apply AW.regL)) | ((with_reducible apply AW.block))))
      refine AW.loopT (fun n' t L => ∃ q : Nat, n' = l.length - q ∧ q ≤ l.length ∧
        L = [some { cells := bv (plR j.length P) }, gb (iv (nv P)) 1] ∧
        t = [(0, v), (4, gv (m.length + 1) P.length), (5, .slice (some ⟨m.length + 0, 0, none⟩) j.length j.length), (15, .int .i64 (j.length : Nat)), (16, .int .i64 (P.length : Nat)), (6, .int .i64 X), (18, v), (19, .int .i64 (j.length : Nat)), (20, .int .i64 (i : Nat)), (7, .int .i64 (i : Nat)), (8, .bool (b0 && (l.take q).all fun a => decide (a.toNat ∈ P))), (36, w), (37, .int .i64 (l.length : Nat)), (38, .int .i64 (q : Nat))]) ⟨_, [(0, v), (4, gv (m.length + 1) P.length), (5, .slice (some ⟨m.length + 0, 0, none⟩) j.length j.length), (15, .int .i64 (j.length : Nat)), (16, .int .i64 (P.length : Nat)), (6, .int .i64 X), (18, v), (19, .int .i64 (j.length : Nat)), (20, .int .i64 (i : Nat)), (7, .int .i64 (i : Nat)), (8, .bool b0), (36, w), (37, .int .i64 (l.length : Nat)), (38, .int .i64 ((0 : Nat) : Int))], _, (Or.inl ⟨rfl, (by repeat (first | exact trivial | (refine And.intro rfl ?_)))⟩), 0, rfl, Nat.zero_le _, rfl, by simp⟩ ?_
      rintro n' t L ⟨q, rfl, hq, rfl, rfl⟩
      rcases Nat.lt_or_ge q l.length with hlt2 | hge2
      · have hm := hmem (l.getD q 0) (by rw [List.getD_eq_getElem?_getD, List.getElem?_eq_getElem hlt2]; exact List.getElem_mem hlt2)
        have hrq := w3 q hlt2
        have ts := take_snoc l q 0 hlt2
        have al : ((l.take (q + 1)).all fun a => decide (a.toNat ∈ P)) = ((l.take q).all (fun a => decide (a.toNat ∈ P)) && decide ((l.getD q 0).toNat ∈ P)) := by rw [ts, List.all_append]; simp
        obtain ⟨z, hz⟩ := Int.eq_ofNat_of_zero_le hm.1
        have gz := plR_get (n := j.length) (i := z) P (by omega)
        rw [hz] at hrq al
        have hrz : Rd (m ++ [some { cells := bv (plR j.length P) }, gb (iv (nv P)) 1]) (m.length + 0) z (.bool (decide (z ∈ P))) := by
          rw [← gz]; exact Rd.new rfl (bv_get (by omega))
        have hzl : z < j.length := by omega
        have al2 : (b0 && (l.take (q + 1)).all fun a => decide (a.toNat ∈ P)) = ((b0 && (l.take q).all fun a => decide (a.toNat ∈ P)) && decide (z ∈ P)) := by rw [al, Int.toNat_natCast, Bool.and_assoc]
        generalize (b0 && (l.take q).all fun a => decide (a.toNat ∈ P)) = c at *
        cases c with
        | false =>
          (repeat (first | (with_reducible refine AWo.cons ?_) | ((with_reducible refine Step.id ?_); first | ((with_reducible apply Step.gdF); exact rfl; exact rfl; (focus (rfl))) | ((with_reducible apply Step.move); exact rfl; exact rfl) | ((with_reducible apply Step.assign); exact rfl; exact rfl) | ((with_reducible apply Step.load); exact rfl; (focus (decide +kernel)); exact rfl; (focus (exact Rd.old _ (by assumption)))) | ((with_reducible apply Step.ix1); exact rfl; (focus (assumption)); exact rfl; (focus (decide +kernel)); exact rfl; (focus (omega))) | ((with_reducible apply Step.add); exact rfl; exact rfl; (focus (omega)); exact rfl) | ((with_reducible apply Step.lss); exact rfl; exact rfl; exact rfl) | ((with_reducible apply Step.pickF); exact rfl; exact rfl; exact rfl; exact rfl; (focus (rfl)))) | (with_reducible refine AWo.nil ?_) | ((with_reducible apply AW.seq)) | ((with_reducible apply Then.n)) | ((with_reducible apply AW.regL)) | ((with_reducible apply AW.block)) | ((with_reducible apply InBlk.n)) | ((with_reducible apply AW.skip)) | ((with_reducible apply AW.condT); exact rfl; (focus ((simp only [decide_eq_true_eq, decide_eq_false_iff_not, Bool.not_eq_true', Bool.not_eq_false', Bool.not_true, Bool.not_false]; first | assumption | omega))))))
          exact ⟨_, [(0, v), (4, gv (m.length + 1) P.length), (5, .slice (some ⟨m.length + 0, 0, none⟩) j.length j.length), (15, .int .i64 (j.length : Nat)), (16, .int .i64 (P.length : Nat)), (6, .int .i64 X), (18, v), (19, .int .i64 (j.length : Nat)), (20, .int .i64 (i : Nat)), (7, .int .i64 (i : Nat)), (8, .bool false), (36, w), (37, .int .i64 (l.length : Nat)), (38, .int .i64 (q + 1 : Nat))], _, by omega, (Or.inl ⟨rfl, (by repeat (first | exact trivial | (refine And.intro rfl ?_)))⟩), q + 1, rfl, by omega, rfl, by rw [al2]; rfl⟩
        | true =>
          (repeat (first | (with_reducible refine AWo.cons ?_) | ((with_reducible refine Step.id ?_); first | ((with_reducible apply Step.gdT); exact rfl; exact rfl; (focus (rfl))) | ((with_reducible apply Step.move); exact rfl; exact rfl) | ((with_reducible apply Step.assign); exact rfl; exact rfl) | ((with_reducible apply Step.load); exact rfl; (focus (decide +kernel)); exact rfl; (focus (first | assumption | exact Rd.old _ (by assumption)))) | ((with_reducible apply Step.ix1z); exact rfl; (focus (exact Sl.mk (by omega))); exact rfl; (focus (decide +kernel)); exact rfl; (focus (omega))) | ((with_reducible apply Step.ix1); exact rfl; (focus (assumption)); exact rfl; (focus (decide +kernel)); exact rfl; (focus (omega))) | ((with_reducible apply Step.add); exact rfl; exact rfl; (focus (omega)); exact rfl) | ((with_reducible apply Step.lss); exact rfl; exact rfl; exact rfl) | ((with_reducible apply Step.pickT); exact rfl; exact rfl; exact rfl; exact rfl; (focus (rfl)))) | (with_reducible refine AWo.nil ?_) | ((with_reducible apply AW.seq)) | ((with_reducible apply Then.n)) | ((with_reducible apply AW.regL)) | ((with_reducible apply AW.block)) | ((with_reducible apply InBlk.n)) | ((with_reducible apply AW.skip)) | ((with_reducible apply AW.condT); exact rfl; (focus ((simp only [decide_eq_true_eq, decide_eq_false_iff_not, Bool.not_eq_true', Bool.not_eq_false', Bool.not_true, Bool.not_false]; first | assumption | omega))))))
          exact ⟨_, [(0, v), (4, gv (m.length + 1) P.length), (5, .slice (some ⟨m.length + 0, 0, none⟩) j.length j.length), (15, .int .i64 (j.length : Nat)), (16, .int .i64 (P.length : Nat)), (6, .int .i64 X), (18, v), (19, .int .i64 (j.length : Nat)), (20, .int .i64 (i : Nat)), (7, .int .i64 (i : Nat)), (8, .bool (decide (z ∈ P))), (36, w), (37, .int .i64 (l.length : Nat)), (38, .int .i64 (q + 1 : Nat))], _, by omega, (Or.inl ⟨rfl, (by repeat (first | exact trivial | (refine And.intro rfl ?_)))⟩), q + 1, rfl, by omega, rfl, by rw [al2]; rfl⟩
      · obtain rfl : q = l.length := by omega
        rw [List.take_length] at *
        have hfin : (b0 && l.all fun a => decide (a.toNat ∈ P)) = (decide (X < 0) && readyJ j P i) := by
          rw [rdef, ← hb0]
          cases decide (i ∉ P) <;> cases decide (X < 0) <;> simp
        rw [hfin]
        by_cases hX0 : X < 0
        · rw [if_pos hX0] at ix
          rw [decide_eq_true hX0, Bool.true_and]
          cases hrd : readyJ j P i with
          | true =>
            rw [hrd, if_pos rfl] at ix
            (repeat (first | (with_reducible refine AWo.cons ?_) | ((with_reducible refine Step.id ?_); first | ((with_reducible apply Step.move); exact rfl; exact rfl) | ((with_reducible apply Step.assign); exact rfl; exact rfl) | ((with_reducible apply Step.add); exact rfl; exact rfl; (focus (omega)); exact rfl) | ((with_reducible apply Step.lss); exact rfl; exact rfl; exact rfl)) | (with_reducible refine AWo.nil ?_) | ((with_reducible apply AW.seq)) | ((with_reducible apply Then.n)) | ((with_reducible apply AW.regL)) | ((with_reducible apply AW.exit)) | ((with_reducible apply InBlk.n)) | ((with_reducible apply InBlk.hit)) | ((with_reducible apply Then.e)) | ((with_reducible apply AW.condT); exact rfl; (focus (rfl))) | ((with_reducible apply AW.condF); exact rfl; (focus ((simp only [decide_eq_true_eq, decide_eq_false_iff_not, Bool.not_eq_true', Bool.not_eq_false', Bool.not_true, Bool.not_false]; first | assumption | omega))))))
            exact ⟨_, [(0, v), (4, gv (m.length + 1) P.length), (5, .slice (some ⟨m.length + 0, 0, none⟩) j.length j.length), (15, .int .i64 (j.length : Nat)), (16, .int .i64 (P.length : Nat)), (6, .int .i64 (i : Nat)), (18, v), (19, .int .i64 (j.length : Nat)), (20, .int .i64 (i + 1 : Nat))], _, by omega, (Or.inl ⟨rfl, (by repeat (first | exact trivial | (refine And.intro rfl ?_)))⟩), i + 1, rfl, by omega, rfl, by rw [ix]⟩
          | false =>
            rw [hrd, if_neg (by simp)] at ix
            have hX1 : X = -1 := by rw [← hX]; exact (idxF_neg (by rw [hX]; exact hX0)).1
            subst hX1
            (repeat (first | (with_reducible refine AWo.cons ?_) | ((with_reducible refine Step.id ?_); first | ((with_reducible apply Step.move); exact rfl; exact rfl) | ((with_reducible apply Step.add); exact rfl; exact rfl; (focus (omega)); exact rfl) | ((with_reducible apply Step.lss); exact rfl; exact rfl; exact rfl)) | (with_reducible refine AWo.nil ?_) | ((with_reducible apply AW.seq)) | ((with_reducible apply Then.n)) | ((with_reducible apply AW.regL)) | ((with_reducible apply AW.exit)) | ((with_reducible apply InBlk.n)) | ((with_reducible apply InBlk.hit)) | ((with_reducible apply Then.e)) | ((with_reducible apply AW.skip)) | ((with_reducible apply AW.condF); exact rfl; (focus (first | rfl | (simp only [decide_eq_true_eq, decide_eq_false_iff_not, Bool.not_eq_true', Bool.not_eq_false', Bool.not_true, Bool.not_false]; first | assumption | omega))))))
            exact ⟨_, [(0, v), (4, gv (m.length + 1) P.length), (5, .slice (some ⟨m.length + 0, 0, none⟩) j.length j.length), (15, .int .i64 (j.length : Nat)), (16, .int .i64 (P.length : Nat)), (6, .int .i64 (-1)), (18, v), (19, .int .i64 (j.length : Nat)), (20, .int .i64 (i + 1 : Nat))], _, by omega, (Or.inl ⟨rfl, (by repeat (first | exact trivial | (refine And.intro rfl ?_)))⟩), i + 1, rfl, by omega, rfl, by rw [ix]⟩
        · rw [if_neg hX0] at ix
          rw [decide_eq_false hX0, Bool.false_and]
          (repeat (first | (with_reducible refine AWo.cons ?_) | ((with_reducible refine Step.id ?_); first | ((with_reducible apply Step.move); exact rfl; exact rfl) | ((with_reducible apply Step.add); exact rfl; exact rfl; (focus (omega)); exact rfl) | ((with_reducible apply Step.lss); exact rfl; exact rfl; exact rfl)) | (with_reducible refine AWo.nil ?_) | ((with_reducible apply AW.seq)) | ((with_reducible apply Then.n)) | ((with_reducible apply AW.regL)) | ((with_reducible apply AW.exit)) | ((with_reducible apply InBlk.n)) | ((with_reducible apply InBlk.hit)) | ((with_reducible apply Then.e)) | ((with_reducible apply AW.skip)) | ((with_reducible apply AW.condF); exact rfl; (focus (first | rfl | (simp only [decide_eq_true_eq, decide_eq_false_iff_not, Bool.not_eq_true', Bool.not_eq_false', Bool.not_true, Bool.not_false]; first | assumption | omega))))))
          exact ⟨_, [(0, v), (4, gv (m.length + 1) P.length), (5, .slice (some ⟨m.length + 0, 0, none⟩) j.length j.length), (15, .int .i64 (j.length : Nat)), (16, .int .i64 (P.length : Nat)), (6, .int .i64 X), (18, v), (19, .int .i64 (j.length : Nat)), (20, .int .i64 (i + 1 : Nat))], _, by omega, (Or.inl ⟨rfl, (by repeat (first | exact trivial | (refine And.intro rfl ?_)))⟩), i + 1, rfl, by omega, rfl, by rw [ix]⟩
    · obtain rfl : i = j.length := by omega
      by_cases hX0 : idxF (readyJ j P) j.length < 0
      · exfalso
        have := sortF_stuck (idxF_neg hX0).2 hsort
        rw [this] at hn
        omega
      · obtain ⟨k, hk, hkl, hk1, hk0⟩ := idxF_pos (pr := readyJ j P) (n := j.length) (by omega)
        rw [hk] at *
        have st := sortF_some (j := j) (P := P) hkl hk0 hk1 (j.length - P.length - 1)
        rw [show j.length - P.length - 1 + 1 = j.length - P.length by omega, hsort] at st
        have hset := plR_set (n := j.length) (i := k) P
        have hln := nv_len P
        have hli := iv_len (nv P)
        have hnl : (iv (nv P)).length = P.length * 1 := by omega
        have hg0 : ∀ v ∈ iv (nv P) ++ [Value.int .i64 ((k : Nat) : Int)], g0 v = true := fun v hv => by
          rcases List.mem_append.1 hv with h | h
          · exact g0_iv _ v h
          · obtain rfl : v = Value.int .i64 ((k : Nat) : Int) := by simpa using h
            rfl
        (repeat (first | (with_reducible refine AWo.cons ?_) | ((with_reducible refine Step.id ?_); first | ((with_reducible apply Step.move); exact rfl; exact rfl) | ((with_reducible apply Step.ix1z); exact rfl; (focus (exact Sl.mk (by omega))); exact rfl; (focus (decide +kernel)); exact rfl; (focus (omega))) | ((with_reducible apply Step.lss); exact rfl; exact rfl; exact rfl) | ((with_reducible apply Step.store (k := 0)); exact rfl; exact rfl; exact rfl; exact rfl; (focus (decide +kernel)); exact rfl; exact rfl; (focus (first | omega | (simp [iv, bv]; done) | (simp [iv, bv]; omega))); (focus (first | (simp only [List.nil_append, List.cons_append, List.set_cons_zero, List.set_cons_succ, iv_set, bv_set, iv_rep, bv_rep]; done) | (simp only [List.nil_append, List.cons_append, List.set_cons_zero, List.set_cons_succ, iv_set, bv_set, iv_rep, bv_rep]; rfl) | rfl))) | ((with_reducible apply Step.buildS 2); exact rfl; exact rfl; exact (fun _ _ => bs23x); exact rfl; (focus (first | (simp only [List.nil_append, List.cons_append, List.set_cons_zero, List.set_cons_succ, iv_set, bv_set, iv_rep, bv_rep]; done) | (simp only [List.nil_append, List.cons_append, List.set_cons_zero, List.set_cons_succ, iv_set, bv_set, iv_rep, bv_rep]; rfl) | rfl)))) | (with_reducible refine AWo.nil ?_) | ((with_reducible apply AW.seq)) | ((with_reducible apply Then.n)) | ((with_reducible apply AW.regL)) | ((with_reducible apply AW.exit)) | ((with_reducible apply InBlk.hit)) | ((with_reducible apply Then.e)) | ((with_reducible apply AW.skip)) | ((with_reducible apply AW.condF); exact rfl; (focus (first | rfl | (simp only [decide_eq_true_eq, decide_eq_false_iff_not, Bool.not_eq_true', Bool.not_eq_false', Bool.not_true, Bool.not_false]; first | assumption | omega))))))
        ((with_reducible apply Step.appG (k := 3)); exact rfl; exact rfl; exact rfl; exact el23; exact un23; exact rfl; exact rfl; exact rfl; exact hnl; exact rfl; exact rfl; exact rfl; (focus (omega)); exact rfl; (focus (first | (simp only [List.nil_append, List.cons_append, List.set_cons_zero, List.set_cons_succ, iv_set, bv_set, iv_rep, bv_rep]; done) | (simp only [List.nil_append, List.cons_append, List.set_cons_zero, List.set_cons_succ, iv_set, bv_set, iv_rep, bv_rep]; rfl) | rfl)))
        (repeat (first | (with_reducible refine AWo.cons ?_) | ((with_reducible refine Step.id ?_); first | ((with_reducible apply Step.move); exact rfl; exact rfl) | ((with_reducible apply Step.assign); exact rfl; exact rfl) | ((with_reducible apply Step.add); exact rfl; exact rfl; (focus (omega)); exact rfl)) | (with_reducible refine AWo.nil ?_) | ((with_reducible apply Then.n)) | ((with_reducible apply AW.regL)) | ((with_reducible apply InBlk.n))))
        refine ⟨_, [(0, v), (4, .slice (some ⟨m.length + 1, 0, none⟩) (P.length + 1) (P.length + 1)), (5, .slice (some ⟨m.length + 0, 0, none⟩) j.length j.length), (15, .int .i64 (j.length : Nat)), (16, .int .i64 (P.length + 1 : Nat))], [some { cells := bv ((plR j.length P).set k true) }, some { cells := iv (nv P) ++ [.int .i64 ((k : Nat) : Int)], kind := .grow, size := 1 }], ?_, (Back.mvC 1 3 rfl rfl rfl rfl (by intro j b hj h; rcases j with _ | _ | _ | _ | _ | _ | _ | _ | j <;> first | exact absurd rfl hj | exact h | (simp at h; done)) (by repeat (first | exact CellsP.nil | (refine CellsP.cons ?_ ?_; (focus (first | exact cells_bv _ | exact cells_g0 (by assumption)))))) (by repeat (first | exact trivial | (refine And.intro ⟨_, rfl, by (first | exact .int _ _ | exact Ren.slice_mv (by first | (simp; done) | omega | (simp; omega)) | exact Ren.slice_ne (by first | (simp; done) | omega | (simp; omega)) (by omega) | exact Ren.of_sl_ne (by assumption) (by first | omega | (simp; omega)) (by first | omega | (simp; omega)))⟩ ?_)))), P ++ [k], rfl, ?_, ?_, ?_, ?_⟩
        · simp; omega
        · simp; omega
        · rw [List.length_append, List.length_singleton, show j.length - (P.length + 1) = j.length - P.length - 1 by omega]; exact st.symm
        · rw [hset, nv_snoc, gb_pos (by simp [iv])]
          simp [iv]
        · rw [gv_pos (by simp)]; simp
end Go.Proofs.Ytmomjannlnafcaa.Abs
namespace Go.Proofs.Ytmomjannlnafcaa.Abs
set_option linter.unusedSimpArgs false
set_option linter.unusedVariables false
open Go.RowKit
open Go.Proofs.Ytmomjannlnafcaa.Sim
open Go.Proofs
set_option maxHeartbeats 2000000 in
set_option maxRecDepth 100000 in
theorem RSorted_no {m : AM} {v : Value} {j : List Job} (hj : Jobs m v j) (hok : JOk j) {P0 : List Nat} (hP0 : sortL j = P0) (hn : P0.length ≠ j.length) : ACall Try.prog 96 #[v] m (Ret (.tuple #[.slice none 0 0, .bool false]) m) := by
  subst hP0
  have h40 := hok.len
  obtain ⟨a, o, h1, h2, h3⟩ := hj
  refine ACall.start Try.func96 rfl rfl ?_
  (repeat (first | (with_reducible refine AWo.cons ?_) | ((with_reducible refine Step.id ?_); first | ((with_reducible apply Step.move); exact rfl; exact rfl) | ((with_reducible apply Step.assign); exact rfl; exact rfl) | ((with_reducible apply Step.len); exact rfl; (focus (assumption)); (focus (decide +kernel)); exact rfl) | ((with_reducible apply Step.make1 0); exact rfl; exact rfl; exact rfl; exact el84; (focus (omega)); exact rfl; (focus (first | (simp only [List.nil_append, List.cons_append, List.set_cons_zero, List.set_cons_succ, iv_set, bv_set, iv_rep, bv_rep]; done) | (simp only [List.nil_append, List.cons_append, List.set_cons_zero, List.set_cons_succ, iv_set, bv_set, iv_rep, bv_rep]; rfl) | rfl)))) | (with_reducible refine AWo.nil ?_) | ((with_reducible apply AW.seq)) | ((with_reducible apply Then.n)) | ((with_reducible apply AW.regL)) | ((with_reducible apply AW.block))))
  refine AW.loopT (fun n' t L => ∃ P : List Nat, n' = j.length - P.length ∧ P.length ≤ j.length ∧ sortF j (j.length - P.length) P = sortL j ∧
    L = [some { cells := bv (plR j.length P) }, gb (iv (nv P)) 1] ∧
    t = [(0, v), (4, gv (m.length + 1) P.length), (5, .slice (some ⟨m.length + 0, 0, none⟩) j.length j.length), (15, .int .i64 (j.length : Nat)), (16, .int .i64 (P.length : Nat))]) ⟨_, _, [some { cells := bv (List.replicate j.length false) }] ++ [none], (Back.padC rfl (by repeat (first | exact trivial | (refine And.intro ⟨rfl, by (first | exact .int _ _ | exact Ren.of_gv (by first | (simp; done) | omega | (simp; omega)) | exact .slice _ _ _ _ (by first | (simp; done) | omega | (simp; omega)) | exact Ren.of_sl (by assumption) (by first | omega | (simp; omega)))⟩ ?_))) (by repeat (first | exact CellsP.nil | (refine CellsP.cons ?_ ?_; (focus (exact cells_bv _)))))), [], rfl, Nat.zero_le _, rfl, by rw [plR_zero]; rfl, rfl⟩ ?_
  rintro n' t L ⟨P, rfl, hP, hsort, rfl, rfl⟩
  have lP := plR_len j.length P
  by_cases hfull : P.length = j.length
  · rw [show j.length - P.length = 0 by omega] at hsort
    simp only [sortF] at hsort
    rw [← hsort] at hn
    exact absurd hfull hn
  · (repeat (first | (with_reducible refine AWo.cons ?_) | ((with_reducible refine Step.id ?_); first | ((with_reducible apply Step.move); exact rfl; exact rfl) | ((with_reducible apply Step.assign); exact rfl; exact rfl) | ((with_reducible apply Step.lss); exact rfl; exact rfl; exact rfl) | ((with_reducible apply Step.len); exact rfl; (focus (assumption)); (focus (decide +kernel)); exact rfl)) | (with_reducible refine AWo.nil ?_) | ((with_reducible apply AW.seq)) | ((with_reducible apply Then.n)) | ((with_reducible apply AW.regL)) | ((with_reducible apply AW.block)) | ((with_reducible apply AW.skip)) | ((with_reducible apply AW.condT); exact rfl; (focus ((simp only [decide_eq_true_eq, decide_eq_false_iff_not, Bool.not_eq_true', Bool.not_eq_false', Bool.not_true, Bool.not_false]; first | assumption | omega))))))
    refine AW.loopT (fun n' t L => ∃ i : Nat, n' = j.length - i ∧ i ≤ j.length ∧
      L = [some { cells := bv (plR j.length P) }, gb (iv (nv P)) 1] ∧
      t = [(0, v), (4, gv (m.length + 1) P.length), (5, .slice (some ⟨m.length + 0, 0, none⟩) j.length j.length), (15, .int .i64 (j.length : Nat)), (16, .int .i64 (P.length : Nat)), (6, .int .i64 (idxF (readyJ j P) i)), (18, v), (19, .int .i64 (j.length : Nat)), (20, .int .i64 (i : Nat))]) ⟨_, _, _, (Or.inl ⟨rfl, (by repeat (first | exact trivial | (refine And.intro rfl ?_)))⟩), 0, rfl, Nat.zero_le _, rfl, rfl⟩ ?_
    rintro n' t L ⟨i, rfl, hi, rfl, rfl⟩
    rcases Nat.lt_or_ge i j.length with hlt | hge
    · obtain ⟨w, hr, hw⟩ := h3 i hlt
      obtain ⟨wa, wo, w1, w2, w3⟩ := id hw
      have hal := hok.alen hlt
      have hmem := fun a ha => hok.mem hlt (a := a) ha
      have gP := plR_get P hlt
      have ix := idxF_succ (readyJ j P) i
      have rdef : readyJ j P i = (decide (i ∉ P) && (aft j i).all fun a => decide (a.toNat ∈ P)) := rfl
      simp only [aft] at *
      generalize j.getD i default = x at *
      obtain ⟨x1, x2, x3, l⟩ := x
      simp only [Job.cells] at *
      have hro : Rd (m ++ [some { cells := bv (plR j.length P) }, gb (iv (nv P)) 1]) (m.length + 0) i (.bool (decide (i ∈ P))) := by
        rw [← gP]; exact Rd.new rfl (bv_get (by omega))
      generalize hX : idxF (readyJ j P) i = X at *
      (repeat (first | (with_reducible refine AWo.cons ?_) | ((with_reducible refine Step.id ?_); first | ((with_reducible apply Step.move); exact rfl; exact rfl) | ((with_reducible apply Step.assign); exact rfl; exact rfl) | ((with_reducible apply Step.lss); exact rfl; exact rfl; exact rfl)) | (with_reducible refine AWo.nil ?_) | ((fail_if_success (with_reducible refine AW.atR (id := 9) ?_)); ((with_reducible apply AW.seq))) | ((with_reducible apply Then.n)) | ((with_reducible apply AW.regL)) | ((with_reducible apply AW.block)) | ((with_reducible apply AW.skip)) | ((with_reducible apply AW.condT); exact rfl; (focus ((simp only [decide_eq_true_eq, decide_eq_false_iff_not, Bool.not_eq_true', Bool.not_eq_false', Bool.not_true, Bool.not_false]; first | assumption | omega))))))
      refine AW.joinS [(0, v), (4, gv (m.length + 1) P.length), (5, .slice (some ⟨m.length + 0, 0, none⟩) j.length j.length), (15, .int .i64 (j.length : Nat)), (16, .int .i64 (P.length : Nat)), (6, .int .i64 X), (18, v), (19, .int .i64 (j.length : Nat)), (20, .int .i64 (i : Nat)), (7, .int .i64 (i : Nat)), (8, .bool (decide (i ∉ P) && decide (X < 0)))] (m ++ [some { cells := bv (plR j.length P) }, gb (iv (nv P)) 1]) ?_ ?_
      · by_cases hin : i ∈ P
        · rw [show (decide (i ∉ P) && decide (X < 0)) = false by simp [hin]]
          rw [decide_eq_true hin] at hro
          (repeat (first | (with_reducible refine AWo.cons ?_) | ((with_reducible refine Step.id ?_); first | ((with_reducible apply Step.gdF); exact rfl; exact rfl; (focus (rfl))) | ((with_reducible apply Step.move); exact rfl; exact rfl) | ((with_reducible apply Step.assign); exact rfl; exact rfl) | ((with_reducible apply Step.load); exact rfl; (focus (decide +kernel)); exact rfl; (focus (assumption))) | ((with_reducible apply Step.ix1z); exact rfl; (focus (exact Sl.mk (by omega))); exact rfl; (focus (decide +kernel)); exact rfl; (focus (omega))) | ((with_reducible apply Step.not); exact rfl; exact rfl) | ((with_reducible apply Step.pickF); exact rfl; exact rfl; exact rfl; exact rfl; (focus (rfl)))) | (with_reducible refine AWo.nil ?_) | ((with_reducible apply Then.n)) | ((with_reducible apply AW.regL))))
          exact ⟨rfl, (by repeat (first | exact trivial | (refine And.intro rfl ?_)))⟩
        · rw [show (decide (i ∉ P) && decide (X < 0)) = decide (X < 0) by simp [hin]]
          rw [decide_eq_false hin] at hro
          (repeat (first | (with_reducible refine AWo.cons ?_) | ((with_reducible refine Step.id ?_); first | ((with_reducible apply Step.gdT); exact rfl; exact rfl; (focus (rfl))) | ((with_reducible apply Step.move); exact rfl; exact rfl) | ((with_reducible apply Step.assign); exact rfl; exact rfl) | ((with_reducible apply Step.load); exact rfl; (focus (decide +kernel)); exact rfl; (focus (assumption))) | ((with_reducible apply Step.ix1z); exact rfl; (focus (exact Sl.mk (by omega))); exact rfl; (focus (decide +kernel)); exact rfl; (focus (omega))) | ((with_reducible apply Step.lss); exact rfl; exact rfl; exact rfl) | ((with_reducible apply Step.not); exact rfl; exact rfl) | ((with_reducible apply Step.pickT); exact rfl; exact rfl; exact rfl; exact rfl; (focus (rfl)))) | (with_reducible refine AWo.nil ?_) | ((with_reducible apply Then.n)) | ((with_reducible apply AW.regL))))
          exact ⟨rfl, (by repeat (first | exact trivial | (refine And.intro rfl ?_)))⟩
      generalize hb0 : (decide (i ∉ P) && decide (X < 0)) = b0
      (repeat (first | (with_reducible refine AWo.cons ?_) | ((with_reducible refine Step.id ?_); first | ((with_reducible apply Step.move); exact rfl; exact rfl) | ((with_reducible apply Step.load); exact rfl; (focus (decide +kernel)); exact rfl; (focus (exact Rd.old _ (hr.at_ 3 rfl)))) | ((with_reducible apply Step.ix (s := 4)); exact rfl; (focus (assumption)); exact rfl; (focus (decide +kernel)); exact rfl; (focus (omega))) | ((with_reducible apply Step.field (k := 3)); exact rfl; (focus (decide +kernel)); exact rfl) | ((with_reducible apply Step.len); exact rfl; (focus (assumption)); (focus (decide +kernel)); exact rfl)) | (with_reducible refine AWo.nil ?_) | ((with_reducible apply AW.seq)) | ((with_reducible apply Then.n)) | ((with_reducible apply AW.regL)) | ((with_reducible apply AW.block))))
      refine AW.loopT (fun n' t L => ∃ q : Nat, n' = l.length - q ∧ q ≤ l.length ∧
        L = [some { cells := bv (plR j.length P) }, gb (iv (nv P)) 1] ∧
        t = [(0, v), (4, gv (m.length + 1) P.length), (5, .slice (some ⟨m.length + 0, 0, none⟩) j.length j.length), (15, .int .i64 (j.length : Nat)), (16, .int .i64 (P.length : Nat)), (6, .int .i64 X), (18, v), (19, .int .i64 (j.length : Nat)), (20, .int .i64 (i : Nat)), (7, .int .i64 (i : Nat)), (8, .bool (b0 && (l.take q).all fun a => decide (a.toNat ∈ P))), (36, w), (37, .int .i64 (l.length : Nat)), (38, .int .i64 (q : Nat))]) ⟨_, [(0, v), (4, gv (m.length + 1) P.length), (5, .slice (some ⟨m.length + 0, 0, none⟩) j.length j.length), (15, .int .i64 (j.length : Nat)), (16, .int .i64 (P.length : Nat)), (6, .int .i64 X), (18, v), (19, .int .i64 (j.length : Nat)), (20, .int .i64 (i : Nat)), (7, .int .i64 (i : Nat)), (8, .bool b0), (36, w), (37, .int .i64 (l.length : Nat)), (38, .int .i64 ((0 : Nat) : Int))], _, (Or.inl ⟨rfl, (by repeat (first | exact trivial | (refine And.intro rfl ?_)))⟩), 0, rfl, Nat.zero_le _, rfl, by simp⟩ ?_
      rintro n' t L ⟨q, rfl, hq, rfl, rfl⟩
      rcases Nat.lt_or_ge q l.length with hlt2 | hge2
      · have hm := hmem (l.getD q 0) (by rw [List.getD_eq_getElem?_getD, List.getElem?_eq_getElem hlt2]; exact List.getElem_mem hlt2)
        have hrq := w3 q hlt2
        have ts := take_snoc l q 0 hlt2
        have al : ((l.take (q + 1)).all fun a => decide (a.toNat ∈ P)) = ((l.take q).all (fun a => decide (a.toNat ∈ P)) && decide ((l.getD q 0).toNat ∈ P)) := by rw [ts, List.all_append]; simp
        obtain ⟨z, hz⟩ := Int.eq_ofNat_of_zero_le hm.1
        have gz := plR_get (n := j.length) (i := z) P (by omega)
        rw [hz] at hrq al
        have hrz : Rd (m ++ [some { cells := bv (plR j.length P) }, gb (iv (nv P)) 1]) (m.length + 0) z (.bool (decide (z ∈ P))) := by
          rw [← gz]; exact Rd.new rfl (bv_get (by omega))
        have hzl : z < j.length := by omega
        have al2 : (b0 && (l.take (q + 1)).all fun a => decide (a.toNat ∈ P)) = ((b0 && (l.take q).all fun a => decide (a.toNat ∈ P)) && decide (z ∈ P)) := by rw [al, Int.toNat_natCast, Bool.and_assoc]
        generalize (b0 && (l.take q).all fun a => decide (a.toNat ∈ P)) = c at *
        cases c with
        | false =>
          (repeat (first | (with_reducible refine AWo.cons ?_) | ((with_reducible refine Step.id ?_); first | ((with_reducible apply Step.gdF); exact rfl; exact rfl; (focus (rfl))) | ((with_reducible apply Step.move); exact rfl; exact rfl) | ((with_reducible apply Step.assign); exact rfl; exact rfl) | ((with_reducible apply Step.load); exact rfl; (focus (decide +kernel)); exact rfl; (focus (exact Rd.old _ (by assumption)))) | ((with_reducible apply Step.ix1); exact rfl; (focus (assumption)); exact rfl; (focus (decide +kernel)); exact rfl; (focus (omega))) | ((with_reducible apply Step.add); exact rfl; exact rfl; (focus (omega)); exact rfl) | ((with_reducible apply Step.lss); exact rfl; exact rfl; exact rfl) | ((with_reducible apply Step.pickF); exact rfl; exact rfl; exact rfl; exact rfl; (focus (rfl)))) | (with_reducible refine AWo.nil ?_) | ((with_reducible apply AW.seq)) | ((with_reducible apply Then.n)) | ((with_reducible apply AW.regL)) | ((with_reducible apply AW.block)) | ((with_reducible apply InBlk.n)) | ((with_reducible apply AW.skip)) | ((with_reducible apply AW.condT); exact rfl; (focus ((simp only [decide_eq_true_eq, decide_eq_false_iff_not, Bool.not_eq_true', Bool.not_eq_false', Bool.not_true, Bool.not_false]; first | assumption | omega))))))
          exact ⟨_, [(0, v), (4, gv (m.length + 1) P.length), (5, .slice (some ⟨m.length + 0, 0, none⟩) j.length j.length), (15, .int .i64 (j.length : Nat)), (16, .int .i64 (P.length : Nat)), (6, .int .i64 X), (18, v), (19, .int .i64 (j.length : Nat)), (20, .int .i64 (i : Nat)), (7, .int .i64 (i : Nat)), (8, .bool false), (36, w), (37, .int .i64 (l.length : Nat)), (38, .int .i64 (q + 1 : Nat))], _, by omega, (Or.inl ⟨rfl, (by repeat (first | exact trivial | (refine And.intro rfl ?_)))⟩), q + 1, rfl, by omega, rfl, by rw [al2]; rfl⟩
        | true =>
          (repeat (first | (with_reducible refine AWo.cons ?_) | ((with_reducible refine Step.id ?_); first | ((with_reducible apply Step.gdT); exact rfl; exact rfl; (focus (rfl))) | ((with_reducible apply Step.move); exact rfl; exact rfl) | ((with_reducible apply Step.assign); exact rfl; exact rfl) | ((with_reducible apply Step.load); exact rfl; (focus (decide +kernel)); exact rfl; (focus (first | assumption | exact Rd.old _ (by assumption)))) | ((with_reducible apply Step.ix1z); exact rfl; (focus (exact Sl.mk (by omega))); exact rfl; (focus (decide +kernel)); exact rfl; (focus (omega))) | ((with_reducible apply Step.ix1); exact rfl; (focus (assumption)); exact rfl; (focus (decide +kernel)); exact rfl; (focus (omega))) | ((with_reducible apply Step.add); exact rfl; exact rfl; (focus (omega)); exact rfl) | ((with_reducible apply Step.lss); exact rfl; exact rfl; exact rfl) | ((with_reducible apply Step.pickT); exact rfl; exact rfl; exact rfl; exact rfl; (focus (rfl)))) | (with_reducible refine AWo.nil ?_) | ((with_reducible apply AW.seq)) | ((with_reducible apply Then.n)) | ((with_reducible apply AW.regL)) | ((with_reducible apply AW.block)) | ((with_reducible apply InBlk.n)) | ((with_reducible apply AW.skip)) | ((with_reducible apply AW.condT); exact rfl; (focus ((simp only [decide_eq_true_eq, decide_eq_false_iff_not, Bool.not_eq_true', Bool.not_eq_false', Bool.not_true, Bool.not_false]; first | assumption | omega))))))
          exact ⟨_, [(0, v), (4, gv (m.length + 1) P.length), (5, .slice (some ⟨m.length + 0, 0, none⟩) j.length j.length), (15, .int .i64 (j.length : Nat)), (16, .int .i64 (P.length : Nat)), (6, .int .i64 X), (18, v), (19, .int .i64 (j.length : Nat)), (20, .int .i64 (i : Nat)), (7, .int .i64 (i : Nat)), (8, .bool (decide (z ∈ P))), (36, w), (37, .int .i64 (l.length : Nat)), (38, .int .i64 (q + 1 : Nat))], _, by omega, (Or.inl ⟨rfl, (by repeat (first | exact trivial | (refine And.intro rfl ?_)))⟩), q + 1, rfl, by omega, rfl, by rw [al2]; rfl⟩
      · obtain rfl : q = l.length := by omega
        rw [List.take_length] at *
        have hfin : (b0 && l.all fun a => decide (a.toNat ∈ P)) = (decide (X < 0) && readyJ j P i) := by
          rw [rdef, ← hb0]
          cases decide (i ∉ P) <;> cases decide (X < 0) <;> simp
        rw [hfin]
        by_cases hX0 : X < 0
        · rw [if_pos hX0] at ix
          rw [decide_eq_true hX0, Bool.true_and]
          cases hrd : readyJ j P i with
          | true =>
            rw [hrd, if_pos rfl] at ix
            (repeat (first | (with_reducible refine AWo.cons ?_) | ((with_reducible refine Step.id ?_); first | ((with_reducible apply Step.move); exact rfl; exact rfl) | ((with_reducible apply Step.assign); exact rfl; exact rfl) | ((with_reducible apply Step.add); exact rfl; exact rfl; (focus (omega)); exact rfl) | ((with_reducible apply Step.lss); exact rfl; exact rfl; exact rfl)) | (with_reducible refine AWo.nil ?_) | ((with_reducible apply AW.seq)) | ((with_reducible apply Then.n)) | ((with_reducible apply AW.regL)) | ((with_reducible apply AW.exit)) | ((with_reducible apply InBlk.n)) | ((with_reducible apply InBlk.hit)) | ((with_reducible apply Then.e)) | ((with_reducible apply AW.condT); exact rfl; (focus (rfl))) | ((with_reducible apply AW.condF); exact rfl; (focus ((simp only [decide_eq_true_eq, decide_eq_false_iff_not, Bool.not_eq_true', Bool.not_eq_false', Bool.not_true, Bool.not_false]; first | assumption | omega))))))
            exact ⟨_, [(0, v), (4, gv (m.length + 1) P.length), (5, .slice (some ⟨m.length + 0, 0, none⟩) j.length j.length), (15, .int .i64 (j.length : Nat)), (16, .int .i64 (P.length : Nat)), (6, .int .i64 (i : Nat)), (18, v), (19, .int .i64 (j.length : Nat)), (20, .int .i64 (i + 1 : Nat))], _, by omega, (Or.inl ⟨rfl, (by repeat (first | exact trivial | (refine And.intro rfl ?_)))⟩), i + 1, rfl, by omega, rfl, by rw [ix]⟩
          | false =>
            rw [hrd, if_neg (by simp)] at ix
            have hX1 : X = -1 := by rw [← hX]; exact (idxF_neg (by rw [hX]; exact hX0)).1
            subst hX1
            (repeat (first | (with_reducible refine AWo.cons ?_) | ((with_reducible refine Step.id ?_); first | ((with_reducible apply Step.move); exact rfl; exact rfl) | ((with_reducible apply Step.add); exact rfl; exact rfl; (focus (omega)); exact rfl) | ((with_reducible apply Step.lss); exact rfl; exact rfl; exact rfl)) | (with_reducible refine AWo.nil ?_) | ((with_reducible apply AW.seq)) | ((with_reducible apply Then.n)) | ((with_reducible apply AW.regL)) | ((with_reducible apply AW.exit)) | ((with_reducible apply InBlk.n)) | ((with_reducible apply InBlk.hit)) | ((with_reducible apply Then.e)) | ((with_reducible apply AW.skip)) | ((with_reducible apply AW.condF); exact rfl; (focus (first | rfl | (simp only [decide_eq_true_eq, decide_eq_false_iff_not, Bool.not_eq_true', Bool.not_eq_false', Bool.not_true, Bool.not_false]; first | assumption | omega))))))
            exact ⟨_, [(0, v), (4, gv (m.length + 1) P.length), (5, .slice (some ⟨m.length + 0, 0, none⟩) j.length j.length), (15, .int .i64 (j.length : Nat)), (16, .int .i64 (P.length : Nat)), (6, .int .i64 (-1)), (18, v), (19, .int .i64 (j.length : Nat)), (20, .int .i64 (i + 1 : Nat))], _, by omega, (Or.inl ⟨rfl, (by repeat (first | exact trivial | (refine And.intro rfl ?_)))⟩), i + 1, rfl, by omega, rfl, by rw [ix]⟩
        · rw [if_neg hX0] at ix
          rw [decide_eq_false hX0, Bool.false_and]
          (repeat (first | (with_reducible refine AWo.cons ?_) | ((with_reducible refine Step.id ?_); first | ((with_reducible apply Step.move); exact rfl; exact rfl) | ((with_reducible apply Step.add); exact rfl; exact rfl; (focus (omega)); exact rfl) | ((with_reducible apply Step.lss); exact rfl; exact rfl; exact rfl)) | (with_reducible refine AWo.nil ?_) | ((with_reducible apply AW.seq)) | ((with_reducible apply Then.n)) | ((with_reducible apply AW.regL)) | ((with_reducible apply AW.exit)) | ((with_reducible apply InBlk.n)) | ((with_reducible apply InBlk.hit)) | ((with_reducible apply Then.e)) | ((with_reducible apply AW.skip)) | ((with_reducible apply AW.condF); exact rfl; (focus (first | rfl | (simp only [decide_eq_true_eq, decide_eq_false_iff_not, Bool.not_eq_true', Bool.not_eq_false', Bool.not_true, Bool.not_false]; first | assumption | omega))))))
          exact ⟨_, [(0, v), (4, gv (m.length + 1) P.length), (5, .slice (some ⟨m.length + 0, 0, none⟩) j.length j.length), (15, .int .i64 (j.length : Nat)), (16, .int .i64 (P.length : Nat)), (6, .int .i64 X), (18, v), (19, .int .i64 (j.length : Nat)), (20, .int .i64 (i + 1 : Nat))], _, by omega, (Or.inl ⟨rfl, (by repeat (first | exact trivial | (refine And.intro rfl ?_)))⟩), i + 1, rfl, by omega, rfl, by rw [ix]⟩
    · obtain rfl : i = j.length := by omega
      by_cases hX0 : idxF (readyJ j P) j.length < 0
      · (repeat (first | (with_reducible refine AWo.cons ?_) | ((with_reducible refine Step.id ?_); first | ((with_reducible apply Step.move); exact rfl; exact rfl) | ((with_reducible apply Step.assign); exact rfl; exact rfl) | ((with_reducible apply Step.lss); exact rfl; exact rfl; exact rfl)) | (with_reducible refine AWo.nil ?_) | ((with_reducible apply AW.seq)) | ((with_reducible apply Then.n)) | ((with_reducible apply AW.regL)) | ((with_reducible apply AW.exit)) | ((with_reducible apply InBlk.hit)) | ((with_reducible apply Then.e)) | ((with_reducible apply AW.condT); exact rfl; (focus ((simp only [decide_eq_true_eq, decide_eq_false_iff_not, Bool.not_eq_true', Bool.not_eq_false', Bool.not_true, Bool.not_false]; first | assumption | omega)))) | ((with_reducible apply AW.condF); exact rfl; (focus ((simp only [decide_eq_true_eq, decide_eq_false_iff_not, Bool.not_eq_true', Bool.not_eq_false', Bool.not_true, Bool.not_false]; first | assumption | omega))))))
        (refine AW.retD (l := [(2, _), (3, _)]) (by repeat (first | exact trivial | (refine And.intro ⟨rfl, by (first | exact .bool _ | exact Ren.of_g0 rfl)⟩ ?_))) ?_; (repeat (first | refine Then.r ?_ | refine InBlk.r ?_)))
        exact ⟨_, rfl, rfl, rfl⟩
      · obtain ⟨k, hk, hkl, hk1, hk0⟩ := idxF_pos (pr := readyJ j P) (n := j.length) (by omega)
        rw [hk] at *
        have st := sortF_some (j := j) (P := P) hkl hk0 hk1 (j.length - P.length - 1)
        rw [show j.length - P.length - 1 + 1 = j.length - P.length by omega, hsort] at st
        have hset := plR_set (n := j.length) (i := k) P
        have hln := nv_len P
        have hli := iv_len (nv P)
        have hnl : (iv (nv P)).length = P.length * 1 := by omega
        have hg0 : ∀ v ∈ iv (nv P) ++ [Value.int .i64 ((k : Nat) : Int)], g0 v = true := fun v hv => by
          rcases List.mem_append.1 hv with h | h
          · exact g0_iv _ v h
          · obtain rfl : v = Value.int .i64 ((k : Nat) : Int) := by simpa using h
            rfl
        (repeat (first | (with_reducible refine AWo.cons ?_) | ((with_reducible refine Step.id ?_); first | ((with_reducible apply Step.move); exact rfl; exact rfl) | ((with_reducible apply Step.ix1z); exact rfl; (focus (exact Sl.mk (by omega))); exact rfl; (focus (decide +kernel)); exact rfl; (focus (omega))) | ((with_reducible apply Step.lss); exact rfl; exact rfl; exact rfl) | ((with_reducible apply Step.store (k := 0)); exact rfl; exact rfl; exact rfl; exact rfl; (focus (decide +kernel)); exact rfl; exact rfl; (focus (first | omega | (simp [iv, bv]; done) | (simp [iv, bv]; omega))); (focus (first | (simp only [List.nil_append, List.cons_append, List.set_cons_zero, List.set_cons_succ, iv_set, bv_set, iv_rep, bv_rep]; done) | (simp only [List.nil_append, List.cons_append, List.set_cons_zero, List.set_cons_succ, iv_set, bv_set, iv_rep, bv_rep]; rfl) | rfl))) | ((with_reducible apply Step.buildS 2); exact rfl; exact rfl; exact (fun _ _ => bs23x); exact rfl; (focus (first | (simp only [List.nil_append, List.cons_append, List.set_cons_zero, List.set_cons_succ, iv_set, bv_set, iv_rep, bv_rep]; done) | (simp only [List.nil_append, List.cons_append, List.set_cons_zero, List.set_cons_succ, iv_set, bv_set, iv_rep, bv_rep]; rfl) | rfl)))) | (with_reducible refine AWo.nil ?_) | ((with_reducible apply AW.seq)) | ((with_reducible apply Then.n)) | ((with_reducible apply AW.regL)) | ((with_reducible apply AW.exit)) | ((with_reducible apply InBlk.hit)) | ((with_reducible apply Then.e)) | ((with_reducible apply AW.skip)) | ((with_reducible apply AW.condF); exact rfl; (focus (first | rfl | (simp only [decide_eq_true_eq, decide_eq_false_iff_not, Bool.not_eq_true', Bool.not_eq_false', Bool.not_true, Bool.not_false]; first | assumption | omega))))))
        ((with_reducible apply Step.appG (k := 3)); exact rfl; exact rfl; exact rfl; exact el23; exact un23; exact rfl; exact rfl; exact rfl; exact hnl; exact rfl; exact rfl; exact rfl; (focus (omega)); exact rfl; (focus (first | (simp only [List.nil_append, List.cons_append, List.set_cons_zero, List.set_cons_succ, iv_set, bv_set, iv_rep, bv_rep]; done) | (simp only [List.nil_append, List.cons_append, List.set_cons_zero, List.set_cons_succ, iv_set, bv_set, iv_rep, bv_rep]; rfl) | rfl)))
        (repeat (first | (with_reducible refine AWo.cons ?_) | ((with_reducible refine Step.id ?_); first | ((with_reducible apply Step.move); exact rfl; exact rfl) | ((with_reducible apply Step.assign); exact rfl; exact rfl) | ((with_reducible apply Step.add); exact rfl; exact rfl; (focus (omega)); exact rfl)) | (with_reducible refine AWo.nil ?_) | ((with_reducible apply Then.n)) | ((with_reducible apply AW.regL)) | ((with_reducible apply InBlk.n))))
        refine ⟨_, [(0, v), (4, .slice (some ⟨m.length + 1, 0, none⟩) (P.length + 1) (P.length + 1)), (5, .slice (some ⟨m.length + 0, 0, none⟩) j.length j.length), (15, .int .i64 (j.length : Nat)), (16, .int .i64 (P.length + 1 : Nat))], [some { cells := bv ((plR j.length P).set k true) }, some { cells := iv (nv P) ++ [.int .i64 ((k : Nat) : Int)], kind := .grow, size := 1 }], ?_, (Back.mvC 1 3 rfl rfl rfl rfl (by intro j b hj h; rcases j with _ | _ | _ | _ | _ | _ | _ | _ | j <;> first | exact absurd rfl hj | exact h | (simp at h; done)) (by repeat (first | exact CellsP.nil | (refine CellsP.cons ?_ ?_; (focus (first | exact cells_bv _ | exact cells_g0 (by assumption)))))) (by repeat (first | exact trivial | (refine And.intro ⟨_, rfl, by (first | exact .int _ _ | exact Ren.slice_mv (by first | (simp; done) | omega | (simp; omega)) | exact Ren.slice_ne (by first | (simp; done) | omega | (simp; omega)) (by omega) | exact Ren.of_sl_ne (by assumption) (by first | omega | (simp; omega)) (by first | omega | (simp; omega)))⟩ ?_)))), P ++ [k], rfl, ?_, ?_, ?_, ?_⟩
        · simp; omega
        · simp; omega
        · rw [List.length_append, List.length_singleton, show j.length - (P.length + 1) = j.length - P.length - 1 by omega]; exact st.symm
        · rw [hset, nv_snoc, gb_pos (by simp [iv])]
          simp [iv]
        · rw [gv_pos (by simp)]; simp
theorem after_len {j : List Job} (h : JOk j) : ∀ k, k < j.length → (j.getD k default).after.length ≤ 9223372036854775807 := fun k hk => by
  have := h.alen hk
  have := h.len
  simp only [aft] at *
  omega
/-- The Afters are no longer than slices can be. -/
def Short (j : List Job) : Prop := j.length ≤ 9223372036854775807 ∧ ∀ k, k < j.length → (j.getD k default).after.length ≤ 9223372036854775807
set_option maxRecDepth 100000 in
theorem checked_ok {m : AM} {v : Value} {j : List Job} (hj : Jobs m v j) (hok : jobsB j = true) (hn : (sortL j).length = j.length) : ACall Try.prog 78 #[v] m (NewT (fun N => .tuple #[gv N j.length, .int .i64 0]) (gb (iv (nv (sortL j))) 1) m) := by
  have hJ := JOk.of hok
  have h40 := hJ.len
  obtain ⟨a, o, h1, h2, h3⟩ := id hj
  have so := sort_ok' (m := m ++ []) (hj.old []) hJ rfl
  rw [hn] at so
  refine ACall.start Try.func78 rfl rfl ?_
  (repeat (first | (with_reducible refine AWo.cons ?_) | ((with_reducible refine Step.id ?_); first | ((with_reducible apply Step.move); exact rfl; exact rfl) | ((with_reducible apply Step.assign); exact rfl; exact rfl) | ((with_reducible apply Step.lss); exact rfl; exact rfl; exact rfl) | ((with_reducible apply Step.len); exact rfl; (focus (first | assumption | exact gv_sl _ _)); (focus (decide +kernel)); exact rfl) | ((with_reducible apply Step.not); exact rfl; exact rfl) | ((with_reducible apply Step.callR fit); exact rfl; exact Try.func88; exact rfl; exact rfl; exact (jobs_ok (hj.old []) (after_len hJ) (by omega) hok)) | ((with_reducible apply Step.callG fit (k := 0)); exact rfl; exact rfl; exact Try.func106; exact rfl; exact rfl; exact (so); (focus (first | (simp only [List.nil_append, List.cons_append, List.set_cons_zero, List.set_cons_succ, iv_set, bv_set, iv_rep, bv_rep]; done) | (simp only [List.nil_append, List.cons_append, List.set_cons_zero, List.set_cons_succ, iv_set, bv_set, iv_rep, bv_rep]; rfl) | rfl)))) | (with_reducible refine AWo.nil ?_) | ((with_reducible apply AW.seq)) | ((with_reducible apply Then.n)) | ((with_reducible apply AW.regL)) | ((with_reducible apply AW.skip)) | ((with_reducible apply AW.condF); exact rfl; (focus (first | rfl | (simp only [decide_eq_true_eq, decide_eq_false_iff_not, Bool.not_eq_true', Bool.not_eq_false', Bool.not_true, Bool.not_false]; first | assumption | omega))))))
  refine AW.retB (l := [(2, gv (m.length + 0) j.length), (3, .int .i64 0)]) (L1 := [gb (iv (nv (sortL j))) 1]) (Back.trimC rfl rfl (by repeat (first | exact CellsP.nil | (refine CellsP.gb ?_ ?_; (focus (exact cells_iv _))))) (by repeat (first | exact trivial | (refine And.intro ⟨rfl, by (first | exact .int _ _ | exact Ren.of_gv (by first | (simp; done) | omega | (simp; omega)))⟩ ?_)))) ?_
  exact ⟨_, rfl, rfl, rfl⟩
set_option maxRecDepth 100000 in
theorem checked_arg {m : AM} {v : Value} {j : List Job} (hj : Jobs m v j) (hs : Short j) (hok : jobsB j = false) : ACall Try.prog 78 #[v] m (Ret (.tuple #[.slice none 0 0, .int .i64 2]) m) := by
  refine ACall.start Try.func78 rfl rfl ?_
  (repeat (first | (with_reducible refine AWo.cons ?_) | ((with_reducible refine Step.id ?_); first | ((with_reducible apply Step.move); exact rfl; exact rfl) | ((with_reducible apply Step.assign); exact rfl; exact rfl) | ((with_reducible apply Step.not); exact rfl; exact rfl) | ((with_reducible apply Step.callR fit); exact rfl; exact Try.func88; exact rfl; exact rfl; exact (jobs_ok (hj.old []) hs.2 hs.1 hok))) | (with_reducible refine AWo.nil ?_) | ((with_reducible apply AW.seq)) | ((with_reducible apply Then.n)) | ((with_reducible apply AW.regL)) | ((with_reducible apply AW.condT); exact rfl; (focus (rfl)))))
  (refine AW.retD (l := [(2, _), (3, _)]) (by repeat (first | exact trivial | (refine And.intro ⟨rfl, by (first | exact .int _ _ | exact Ren.of_g0 rfl)⟩ ?_))) ?_; (repeat (first | refine Then.r ?_ | refine InBlk.r ?_)))
  exact ⟨_, rfl, rfl, rfl⟩
set_option maxRecDepth 100000 in
theorem checked_loop {m : AM} {v : Value} {j : List Job} (hj : Jobs m v j) (hok : jobsB j = true) (hn : (sortL j).length ≠ j.length) : ACall Try.prog 78 #[v] m (Ret (.tuple #[.slice none 0 0, .int .i64 10]) m) := by
  have hJ := JOk.of hok
  have h40 := hJ.len
  obtain ⟨a, o, h1, h2, h3⟩ := id hj
  have so := sort_ok' (m := m ++ []) (hj.old []) hJ rfl
  have hlt : (sortL j).length < j.length := by
    have := sortF_len j j.length []
    simp only [List.length_nil, Nat.add_zero] at this
    unfold sortL at *
    omega
  refine ACall.start Try.func78 rfl rfl ?_
  (repeat (first | (with_reducible refine AWo.cons ?_) | ((with_reducible refine Step.id ?_); first | ((with_reducible apply Step.move); exact rfl; exact rfl) | ((with_reducible apply Step.assign); exact rfl; exact rfl) | ((with_reducible apply Step.lss); exact rfl; exact rfl; exact rfl) | ((with_reducible apply Step.len); exact rfl; (focus (first | assumption | exact gv_sl _ _)); (focus (decide +kernel)); exact rfl) | ((with_reducible apply Step.not); exact rfl; exact rfl) | ((with_reducible apply Step.callR fit); exact rfl; exact Try.func88; exact rfl; exact rfl; exact (jobs_ok (hj.old []) (after_len hJ) (by omega) hok)) | ((with_reducible apply Step.callG fit (k := 0)); exact rfl; exact rfl; exact Try.func106; exact rfl; exact rfl; exact (so); (focus (first | (simp only [List.nil_append, List.cons_append, List.set_cons_zero, List.set_cons_succ, iv_set, bv_set, iv_rep, bv_rep]; done) | (simp only [List.nil_append, List.cons_append, List.set_cons_zero, List.set_cons_succ, iv_set, bv_set, iv_rep, bv_rep]; rfl) | rfl)))) | (with_reducible refine AWo.nil ?_) | ((with_reducible apply AW.seq)) | ((with_reducible apply Then.n)) | ((with_reducible apply AW.regL)) | ((with_reducible apply AW.skip)) | ((with_reducible apply AW.condT); exact rfl; (focus ((simp only [decide_eq_true_eq, decide_eq_false_iff_not, Bool.not_eq_true', Bool.not_eq_false', Bool.not_true, Bool.not_false]; first | assumption | omega)))) | ((with_reducible apply AW.condF); exact rfl; (focus (rfl)))))
  (refine AW.retD (l := [(2, _), (3, _)]) (by repeat (first | exact trivial | (refine And.intro ⟨rfl, by (first | exact .int _ _ | exact Ren.of_g0 rfl)⟩ ?_))) ?_; (repeat (first | refine Then.r ?_ | refine InBlk.r ?_)))
  exact ⟨_, rfl, rfl, rfl⟩
/-- The error of jobs. -/
def errJ (j : List Job) : Int := if jobsB j = true then if (sortL j).length = j.length then 0 else 10 else 2
set_option maxRecDepth 100000 in
theorem Rchecked_ok {m : AM} {v : Value} {j : List Job} (hj : Jobs m v j) (hs : Short j) {e : Int} (he : errJ j = e) : ACall Try.prog 86 #[v] m (Ret (.int .i64 e) m) := by
  subst he
  obtain ⟨a, o, h1, h2, h3⟩ := id hj
  refine ACall.start Try.func86 rfl rfl ?_
  cases hok : jobsB j with
  | false =>
    (repeat (first | (with_reducible refine AWo.cons ?_) | ((with_reducible refine Step.id ?_); first | ((with_reducible apply Step.move); exact rfl; exact rfl) | ((with_reducible apply Step.assign); exact rfl; exact rfl) | ((with_reducible apply Step.not); exact rfl; exact rfl) | ((with_reducible apply Step.callR fit); exact rfl; exact Try.func44; exact rfl; exact rfl; exact (RJobs_ok (hj.old []) hs.2 hs.1 hok))) | (with_reducible refine AWo.nil ?_) | ((with_reducible apply AW.seq)) | ((with_reducible apply Then.n)) | ((with_reducible apply AW.regL)) | ((with_reducible apply AW.condT); exact rfl; (focus (rfl)))))
    (refine AW.retD (l := [(2, _)]) (by repeat (first | exact trivial | (refine And.intro ⟨rfl, by (exact .int _ _)⟩ ?_))) ?_; (repeat (first | refine Then.r ?_ | refine InBlk.r ?_)))
    exact ⟨_, rfl, by simp [errJ, hok], rfl⟩
  | true =>
    by_cases hn : (sortL j).length = j.length
    · (repeat (first | (with_reducible refine AWo.cons ?_) | ((with_reducible refine Step.id ?_); first | ((with_reducible apply Step.move); exact rfl; exact rfl) | ((with_reducible apply Step.assign); exact rfl; exact rfl) | ((with_reducible apply Step.not); exact rfl; exact rfl) | ((with_reducible apply Step.extract); exact rfl; exact rfl; exact rfl) | ((with_reducible apply Step.callR fit); exact rfl; exact Try.func44; exact rfl; exact rfl; exact (RJobs_ok (hj.old []) hs.2 hs.1 hok)) | ((with_reducible apply Step.callT fit (k := 0)); exact rfl; exact rfl; exact Try.func96; exact rfl; exact rfl; exact (RSorted_ok (hj.old []) (JOk.of hok) rfl hn); (focus (first | (simp only [List.nil_append, List.cons_append, List.set_cons_zero, List.set_cons_succ, iv_set, bv_set, iv_rep, bv_rep]; done) | (simp only [List.nil_append, List.cons_append, List.set_cons_zero, List.set_cons_succ, iv_set, bv_set, iv_rep, bv_rep]; rfl) | rfl)))) | (with_reducible refine AWo.nil ?_) | ((with_reducible apply AW.seq)) | ((with_reducible apply Then.n)) | ((with_reducible apply AW.regL)) | ((with_reducible apply AW.skip)) | ((with_reducible apply AW.condF); exact rfl; (focus (rfl)))))
      (refine AW.retD (l := [(2, _)]) (by repeat (first | exact trivial | (refine And.intro ⟨rfl, by (exact .int _ _)⟩ ?_))) ?_; (repeat (first | refine Then.r ?_ | refine InBlk.r ?_)))
      exact ⟨_, rfl, by simp [errJ, hok, hn], rfl⟩
    · (repeat (first | (with_reducible refine AWo.cons ?_) | ((with_reducible refine Step.id ?_); first | ((with_reducible apply Step.move); exact rfl; exact rfl) | ((with_reducible apply Step.assign); exact rfl; exact rfl) | ((with_reducible apply Step.not); exact rfl; exact rfl) | ((with_reducible apply Step.extract); exact rfl; exact rfl; exact rfl) | ((with_reducible apply Step.callR fit); exact rfl; exact Try.func44; exact rfl; exact rfl; exact (RJobs_ok (hj.old []) hs.2 hs.1 hok)) | ((with_reducible apply Step.callR fit); exact rfl; exact Try.func96; exact rfl; exact rfl; exact (RSorted_no (hj.old []) (JOk.of hok) rfl hn))) | (with_reducible refine AWo.nil ?_) | ((with_reducible apply AW.seq)) | ((with_reducible apply Then.n)) | ((with_reducible apply AW.regL)) | ((with_reducible apply AW.skip)) | ((with_reducible apply AW.condT); exact rfl; (focus (rfl))) | ((with_reducible apply AW.condF); exact rfl; (focus (rfl)))))
      (refine AW.retD (l := [(2, _)]) (by repeat (first | exact trivial | (refine And.intro ⟨rfl, by (exact .int _ _)⟩ ?_))) ?_; (repeat (first | refine Then.r ?_ | refine InBlk.r ?_)))
      exact ⟨_, rfl, by simp [errJ, hok, hn], rfl⟩
end Go.Proofs.Ytmomjannlnafcaa.Abs
namespace Go.Proofs.Ytmomjannlnafcaa.Abs
set_option linter.unusedSimpArgs false
set_option linter.unusedVariables false
open Go.RowKit
open Go.Proofs.Ytmomjannlnafcaa.Sim
open Go.Proofs
set_option maxRecDepth 100000 in
theorem clone_nil {m : AM} : ACall Try.prog 77 #[.slice none 0 0] m (Ret (.slice none 0 0) m) := by
  refine ACall.start Try.func77 rfl rfl ?_
  (repeat (first | (with_reducible refine AWo.cons ?_) | ((with_reducible refine Step.id ?_); first | ((with_reducible apply Step.move); exact rfl; exact rfl) | ((with_reducible apply Step.assign); exact rfl; exact rfl) | ((with_reducible apply Step.nilNil); exact rfl; exact rfl; exact un23; exact rfl)) | (with_reducible refine AWo.nil ?_) | ((with_reducible apply AW.seq)) | ((with_reducible apply Then.n)) | ((with_reducible apply AW.regL)) | ((with_reducible apply AW.condT); exact rfl; (focus (rfl)))))
  (refine AW.retD (l := [(2, _)]) (by repeat (first | exact trivial | (refine And.intro ⟨rfl, by (exact Ren.of_g0 rfl)⟩ ?_))) ?_; (repeat (first | refine Then.r ?_ | refine InBlk.r ?_)))
  exact ⟨_, rfl, rfl, rfl⟩
set_option maxRecDepth 100000 in
theorem clone_empty {m : AM} {a o c : Nat} {q : Addr} (h1 : Sl (.slice (some q) 0 c) a o 0) : ACall Try.prog 77 #[.slice (some q) 0 c] m (New (some { cells := [] }) 0 m) := by
  refine ACall.start Try.func77 rfl rfl ?_
  (repeat (first | (with_reducible refine AWo.cons ?_) | ((with_reducible refine Step.id ?_); first | ((with_reducible apply Step.move); exact rfl; exact rfl) | ((with_reducible apply Step.assign); exact rfl; exact rfl) | ((with_reducible apply Step.eqNil); exact rfl; exact rfl; exact un23; exact rfl) | ((with_reducible apply Step.buildS 0); exact rfl; exact rfl; exact (fun _ _ => bs23); exact rfl; (focus (first | (simp only [List.nil_append, List.cons_append, List.set_cons_zero, List.set_cons_succ, iv_set, bv_set, iv_rep, bv_rep]; done) | (simp only [List.nil_append, List.cons_append, List.set_cons_zero, List.set_cons_succ, iv_set, bv_set, iv_rep, bv_rep]; rfl) | rfl)))) | (with_reducible refine AWo.nil ?_) | ((with_reducible apply AW.seq)) | ((with_reducible apply Then.n)) | ((with_reducible apply AW.regL)) | ((with_reducible apply AW.skip)) | ((with_reducible apply AW.condF); exact rfl; (focus (rfl)))))
  ((with_reducible apply Step.app0 (k := 1)); exact rfl; exact rfl; exact rfl; exact el23; exact un23; exact rfl; exact rfl; (focus (first | (simp only [List.nil_append, List.cons_append, List.set_cons_zero, List.set_cons_succ, iv_set, bv_set, iv_rep, bv_rep]; done) | (simp only [List.nil_append, List.cons_append, List.set_cons_zero, List.set_cons_succ, iv_set, bv_set, iv_rep, bv_rep]; rfl) | rfl)))
  (repeat (first | (with_reducible refine AWo.cons ?_) | ((with_reducible refine Step.id ?_); ((with_reducible apply Step.assign); exact rfl; exact rfl)) | (with_reducible refine AWo.nil ?_) | ((with_reducible apply Then.n))))
  refine AW.retB (l := [(2, _)]) (L1 := [some { cells := [] }]) (Back.trim rfl rfl (by repeat (first | exact CellsOk.nil | refine CellsOk.cons (by (intro v hv; simp at hv; done)) ?_)) (by repeat (first | exact trivial | (refine And.intro ⟨rfl, by (exact .slice _ _ _ _ (by first | (simp; done) | omega | (simp; omega)))⟩ ?_)))) ?_
  exact ⟨_, rfl, rfl, rfl⟩
set_option maxRecDepth 100000 in
theorem clone_pos {m : AM} {v : Value} {l : List Int} (hl : Ints m v l) (hpos : 0 < l.length) (hlen : l.length ≤ 1000000) : ACall Try.prog 77 #[v] m (New (some { cells := iv l, kind := .grow, size := 1 }) l.length m) := by
  obtain ⟨a, o, h1, h2, h3⟩ := hl
  refine ACall.start Try.func77 rfl rfl ?_
  rcases h1 with ⟨rfl, hn⟩ | ⟨c, hc, rfl⟩ | ⟨hn, _⟩
  · omega
  · have hr := ints_rdl (by omega) h3
    (repeat (first | (with_reducible refine AWo.cons ?_) | ((with_reducible refine Step.id ?_); first | ((with_reducible apply Step.move); exact rfl; exact rfl) | ((with_reducible apply Step.assign); exact rfl; exact rfl) | ((with_reducible apply Step.eqNil); exact rfl; exact rfl; exact un23; exact rfl) | ((with_reducible apply Step.buildS 0); exact rfl; exact rfl; exact (fun _ _ => bs23); exact rfl; (focus (first | (simp only [List.nil_append, List.cons_append, List.set_cons_zero, List.set_cons_succ, iv_set, bv_set, iv_rep, bv_rep]; done) | (simp only [List.nil_append, List.cons_append, List.set_cons_zero, List.set_cons_succ, iv_set, bv_set, iv_rep, bv_rep]; rfl) | rfl)))) | (with_reducible refine AWo.nil ?_) | ((with_reducible apply AW.seq)) | ((with_reducible apply Then.n)) | ((with_reducible apply AW.regL)) | ((with_reducible apply AW.skip)) | ((with_reducible apply AW.condF); exact rfl; (focus (rfl)))))
    ((with_reducible apply Step.appE (k := 1)); exact rfl; exact rfl; exact rfl; exact el23; exact un23; exact rfl; exact rfl; exact (hr.old _); (focus (simp [iv])); (focus (omega)); exact (iv_one _); (focus (omega)); exact rfl; (focus (first | (simp only [List.nil_append, List.cons_append, List.set_cons_zero, List.set_cons_succ, iv_set, bv_set, iv_rep, bv_rep]; done) | (simp only [List.nil_append, List.cons_append, List.set_cons_zero, List.set_cons_succ, iv_set, bv_set, iv_rep, bv_rep]; rfl) | rfl)))
    (repeat (first | (with_reducible refine AWo.cons ?_) | ((with_reducible refine Step.id ?_); ((with_reducible apply Step.assign); exact rfl; exact rfl)) | (with_reducible refine AWo.nil ?_) | ((with_reducible apply Then.n))))
    refine AW.retB (l := [(2, .slice (some ⟨m.length + 0, 0, none⟩) l.length l.length)]) (L1 := [some { cells := iv l, kind := .grow, size := 1 }]) (Back.mv 0 1 rfl rfl rfl rfl (by intro j b hj h; rcases j with _ | _ | _ | _ | _ | _ | j <;> simp_all) (by repeat (first | exact CellsOk.nil | refine CellsOk.cons (by exact g0_iv _) ?_)) (by repeat (first | exact trivial | (refine And.intro ⟨_, rfl, by (exact Ren.slice_mv (by first | (simp; done) | omega | (simp; omega)))⟩ ?_)))) ?_
    exact ⟨_, rfl, rfl, rfl⟩
  · omega
theorem bl87 {x y z : Int} {q : Option Addr} {n c : Nat} : abuild Try.prog 87 [(0, .int .i64 x), (1, .int .i64 y), (2, .int .i64 z), (3, .slice q n c)] = some (.agg #[.int .i64 x, .int .i64 y, .int .i64 z, .slice q n c]) := by kernel_rfl
theorem bs51 {m : AM} {k : Nat} {x y z : Int} {q : Option Addr} {n c : Nat} : abuildSlice Try.prog m k 51 1 [(0, .agg #[.int .i64 x, .int .i64 y, .int .i64 z, .slice q n c])] = some (.slice (some ⟨k, 0, none⟩) 1 1, m.set k (some { cells := [.int .i64 x, .int .i64 y, .int .i64 z, .slice q n c] })) := by kernel_rfl
theorem el51 : elemB Try.prog 51 = some (87, 4, 48, #[.int .i64 0, .int .i64 0, .int .i64 0, .slice none 0 0]) := by kernel_rfl
theorem sz3 : szB Try.prog 3 = some 1 := by kernel_rfl
theorem un51 : Try.prog.underlying 51 = some (.slice 87) := by kernel_rfl
/-- A job as the program gets it. -/
def cvJ (x : Job) : Job := { x with after := x.after.take 60 }
def convJ (j : List Job) : List Job := (j.take 42).map cvJ
/-- Cells that show jobs. -/
def JCells (M : AM) (c : List Value) (js : List Job) : Prop := c.length = js.length * 4 ∧ ∀ k, k < js.length → ∃ w, (∀ q v, ((js.getD k default).cells w)[q]? = some v → c[k * 4 + q]? = some v) ∧ Ints M w (js.getD k default).after
theorem JCells.nil (M : AM) : JCells M [] [] := ⟨rfl, fun k hk => by simp at hk⟩
theorem JCells.snoc {M : AM} {L : AM} {c : List Value} {js : List Job} {x : Job} {w : Value} (h : JCells M c js) (hw : Ints (M ++ L) w x.after) : JCells (M ++ L) (c ++ x.cells w) (js ++ [x]) := by
  obtain ⟨h1, h2⟩ := h
  refine ⟨by simp [Job.cells, h1]; omega, fun k hk => ?_⟩
  simp only [List.length_append, List.length_singleton] at hk
  rcases Nat.lt_succ_iff_lt_or_eq.1 hk with hk | hk
  · obtain ⟨w', k1, k2⟩ := h2 k hk
    have e : (js ++ [x]).getD k default = js.getD k default := by simp [List.getElem?_append_left hk]
    refine ⟨w', fun q v hq => ?_, by rw [e]; exact k2.old L⟩
    rw [e] at hq
    have hq4 : q < 4 := by have := (List.getElem?_eq_some_iff.1 hq).1; simpa [Job.cells] using this
    rw [List.getElem?_append_left (by omega)]
    exact k1 q v hq
  · subst hk
    have e : (js ++ [x]).getD js.length default = x := by simp
    rw [e]
    refine ⟨w, fun q v hq => ?_, hw⟩
    rw [List.getElem?_append_right (by omega), h1, Nat.add_sub_cancel_left]
    exact hq
theorem JCells.jobs {M : AM} {c : List Value} {js : List Job} (h : JCells M c js) : Jobs (M ++ [gb c 4]) (gv M.length js.length) js := by
  obtain ⟨h1, h2⟩ := h
  refine ⟨M.length, 0, gv_sl _ _, by simp, fun k hk => ?_⟩
  obtain ⟨w, k1, k2⟩ := h2 k hk
  refine ⟨w, ⟨_, by rw [show M.length = M.length + 0 by omega, get_app, List.getElem?_cons_zero, gb_pos (by omega)], fun q v hq => ?_⟩, k2.old _⟩
  rw [Nat.zero_add]
  exact k1 q v hq
theorem conv_snoc {j : List Job} {k : Nat} (h : k < j.length) : (j.take (k + 1)).map cvJ = (j.take k).map cvJ ++ [cvJ (j.getD k default)] := by
  rw [take_snoc j k default h, List.map_append]; rfl
set_option maxHeartbeats 4000000 in
set_option maxRecDepth 100000 in
theorem f34_ok {m : AM} {v : Value} {j : List Job} (hj : Jobs m v j) (hs : Short j) : ACall Try.prog 34 #[v] m (More (fun M v => Jobs M v (convJ j)) m) := by
  obtain ⟨a, o, h1, h2, h3⟩ := hj
  obtain ⟨s1, s2⟩ := hs
  refine ACall.start Try.func34 rfl rfl ?_
  (repeat (first | (with_reducible refine AWo.cons ?_) | ((with_reducible refine Step.id ?_); first | ((with_reducible apply Step.move); exact rfl; exact rfl) | ((with_reducible apply Step.assign); exact rfl; exact rfl) | ((with_reducible apply Step.len); exact rfl; (focus (assumption)); (focus (decide +kernel)); exact rfl)) | (with_reducible refine AWo.nil ?_) | ((with_reducible apply AW.seq)) | ((with_reducible apply Then.n)) | ((with_reducible apply AW.regL)) | ((with_reducible apply AW.block))))
  refine AW.pad [(3, .slice none 0 0), (6, v), (7, .int .i64 (j.length : Nat)), (8, .int .i64 ((0 : Nat) : Int))] (by repeat (first | exact trivial | (refine And.intro ⟨rfl, by (first | exact .int _ _ | exact Ren.of_g0 rfl | exact Ren.of_sl (by assumption) (by first | omega | (simp; omega)))⟩ ?_))) CellsP.nil ?_
  refine AW.loopW (fun n' t m' => ∃ (k : Nat) (M N : AM) (c : List Value), n' = j.length - k ∧ k ≤ j.length ∧ k ≤ 42 ∧ M = m ++ N ∧ JCells M c ((j.take k).map cvJ) ∧ m' = M ++ [gb c 4] ∧
    t = fr [(3, gv (M.length + 0) k), (6, v), (7, .int .i64 (j.length : Nat)), (8, .int .i64 (k : Nat))]) ⟨_, _, (by repeat (first | exact trivial | (refine And.intro rfl ?_))), 0, m, [], [], rfl, Nat.zero_le _, Nat.zero_le _, by simp, JCells.nil m, rfl, rfl⟩ ?_
  rintro n' t m' ⟨k, M, N, c, rfl, hk, hk2, hM, hc, rfl, rfl⟩
  have hlk : ((j.take k).map cvJ).length = k := by simp; omega
  have fin : (k = j.length ∨ k = 42) → Jobs (M ++ [gb c 4]) (gv (M.length + 0) k) (convJ j) := fun h => by
    have e : (j.take k).map cvJ = convJ j := by
      unfold convJ
      rcases h with h | h
      · rw [List.take_of_length_le (show j.length ≤ k by omega), List.take_of_length_le (show j.length ≤ 42 by omega)]
      · rw [h]
    have := hc.jobs
    rwa [hlk, e] at this
  rcases Nat.lt_or_ge k j.length with hlt | hge
  · obtain ⟨w, hr, hw⟩ := h3 k hlt
    have hal := s2 k hlt
    have hr' : RdL M a (o + k * 4) ((j.getD k default).cells w) := by rw [hM]; exact hr.old N
    have hw' : Ints M w (j.getD k default).after := by rw [hM]; exact hw.old N
    have ha' : a < M.length := by rw [hM]; simp; omega
    have cs := conv_snoc hlt
    have hcl := hc.1
    rw [hlk] at hcl
    have snoc := fun (L : AM) (u : Value) (hu : Ints (M ++ L) u (cvJ (j.getD k default)).after) => hc.snoc hu
    rw [← cs] at snoc
    obtain ⟨wa, wo, w1, w2, w3⟩ := id hw'
    have hone := w1.one
    simp only [cvJ, Job.cells] at *
    generalize j.getD k default = x at *
    obtain ⟨x1, x2, x3, l⟩ := x
    simp only at *
    have hw1 := job_one (x := x1) (y := x2) (z := x3) hone
    by_cases hk3 : (41 : Int) < (k : Int)
    · (repeat (first | (with_reducible refine AWo.cons ?_) | ((with_reducible refine Step.id ?_); first | ((with_reducible apply Step.move); exact rfl; exact rfl) | ((with_reducible apply Step.assign); exact rfl; exact rfl) | ((with_reducible apply Step.loadL (n := 4)); exact rfl; (focus (decide +kernel)); (focus (decide +kernel)); exact rfl; (focus (exact RdL.old _ (by assumption))); exact rfl; exact rfl) | ((with_reducible apply Step.ix (s := 4)); exact rfl; (focus (assumption)); exact rfl; (focus (decide +kernel)); exact rfl; (focus (omega))) | ((with_reducible apply Step.lss); exact rfl; exact rfl; exact rfl) | ((with_reducible apply Step.gtr); exact rfl; exact rfl; exact rfl) | ((with_reducible apply Step.alloc 1); exact rfl; exact ze60; exact rfl; (focus (first | (simp only [List.nil_append, List.cons_append, List.set_cons_zero, List.set_cons_succ, iv_set, bv_set, iv_rep, bv_rep]; done) | (simp only [List.nil_append, List.cons_append, List.set_cons_zero, List.set_cons_succ, iv_set, bv_set, iv_rep, bv_rep]; rfl) | rfl))) | ((with_reducible apply Step.storeA (k := 1) (n := 4)); exact rfl; exact rfl; exact rfl; exact rfl; (focus (decide +kernel)); exact rfl; (focus (first | assumption | exact hw1)); exact rfl; (focus (first | (simp only [List.nil_append, List.cons_append, List.set_cons_zero, List.set_cons_succ, iv_set, bv_set, iv_rep, bv_rep]; done) | (simp only [List.nil_append, List.cons_append, List.set_cons_zero, List.set_cons_succ, iv_set, bv_set, iv_rep, bv_rep]; rfl) | rfl)))) | (with_reducible refine AWo.nil ?_) | ((with_reducible apply AW.seq)) | ((with_reducible apply Then.n)) | ((with_reducible apply AW.regL)) | ((with_reducible apply AW.block)) | ((with_reducible apply AW.exit)) | ((with_reducible apply InBlk.hit)) | ((with_reducible apply InBlk.miss); exact rfl) | ((with_reducible apply Then.e)) | ((with_reducible apply AW.skip)) | ((with_reducible apply AW.condT); exact rfl; (focus ((simp only [decide_eq_true_eq, decide_eq_false_iff_not, Bool.not_eq_true', Bool.not_eq_false', Bool.not_true, Bool.not_false]; first | assumption | omega))))))
      (refine AW.ret ?_; (repeat (first | refine Then.r ?_ | refine InBlk.r ?_)))
      exact ⟨_, rfl, N ++ [gb c 4, some { cells := [.int .i64 x1, .int .i64 x2, .int .i64 x3, w] }], by rw [hM, List.append_assoc]; rfl, by
        have := (fin (.inr (by omega))).old [some { cells := [.int .i64 x1, .int .i64 x2, .int .i64 x3, w] }]
        rwa [List.append_assoc] at this⟩
    · (repeat (first | (with_reducible refine AWo.cons ?_) | ((with_reducible refine Step.id ?_); first | ((with_reducible apply Step.move); exact rfl; exact rfl) | ((with_reducible apply Step.assign); exact rfl; exact rfl) | ((with_reducible apply Step.loadL (n := 4)); exact rfl; (focus (decide +kernel)); (focus (decide +kernel)); exact rfl; (focus (exact RdL.old _ (by assumption))); exact rfl; exact rfl) | ((with_reducible apply Step.ix (s := 4)); exact rfl; (focus (assumption)); exact rfl; (focus (decide +kernel)); exact rfl; (focus (omega))) | ((with_reducible apply Step.lss); exact rfl; exact rfl; exact rfl) | ((with_reducible apply Step.gtr); exact rfl; exact rfl; exact rfl) | ((with_reducible apply Step.alloc 1); exact rfl; exact ze60; exact rfl; (focus (first | (simp only [List.nil_append, List.cons_append, List.set_cons_zero, List.set_cons_succ, iv_set, bv_set, iv_rep, bv_rep]; done) | (simp only [List.nil_append, List.cons_append, List.set_cons_zero, List.set_cons_succ, iv_set, bv_set, iv_rep, bv_rep]; rfl) | rfl))) | ((with_reducible apply Step.storeA (k := 1) (n := 4)); exact rfl; exact rfl; exact rfl; exact rfl; (focus (decide +kernel)); exact rfl; (focus (first | assumption | exact hw1)); exact rfl; (focus (first | (simp only [List.nil_append, List.cons_append, List.set_cons_zero, List.set_cons_succ, iv_set, bv_set, iv_rep, bv_rep]; done) | (simp only [List.nil_append, List.cons_append, List.set_cons_zero, List.set_cons_succ, iv_set, bv_set, iv_rep, bv_rep]; rfl) | rfl)))) | (with_reducible refine AWo.nil ?_) | ((with_reducible apply AW.seq)) | ((with_reducible apply Then.n)) | ((fail_if_success (with_reducible refine AW.atL (id := 6) ?_)); ((with_reducible apply AW.regL))) | ((with_reducible apply AW.block)) | ((with_reducible apply AW.skip)) | ((with_reducible apply AW.condT); exact rfl; (focus ((simp only [decide_eq_true_eq, decide_eq_false_iff_not, Bool.not_eq_true', Bool.not_eq_false', Bool.not_true, Bool.not_false]; first | assumption | omega)))) | ((with_reducible apply AW.condF); exact rfl; (focus ((simp only [decide_eq_true_eq, decide_eq_false_iff_not, Bool.not_eq_true', Bool.not_eq_false', Bool.not_true, Bool.not_false]; first | assumption | omega))))))
      have e60 : min ((l.length : Nat) : Int) 60 = ((min l.length 60 : Nat) : Int) := by omega
      have hmn : min l.length 60 ≤ l.length := Nat.min_le_left _ _
      rcases w1 with ⟨rfl, hn⟩ | ⟨cp, hcp, rfl⟩ | ⟨hn, so, sk, rfl⟩
      · obtain rfl : l = [] := List.eq_nil_of_length_eq_zero hn
        have e0 : min ((0 : Nat) : Int) 60 = ((0 : Nat) : Int) := rfl
        refine AW.via [(3, .slice (some ⟨M.length + 3, 0, none⟩) (k + 1) (k + 1)), (6, v), (7, .int .i64 (j.length : Nat)), (8, .int .i64 (k : Nat))] (M ++ [none, some { cells := [.int .i64 x1, .int .i64 x2, .int .i64 x3, .slice none 0 0] }, some { cells := [.int .i64 x1, .int .i64 x2, .int .i64 x3, .slice none 0 0] }, some { cells := c ++ [.int .i64 x1, .int .i64 x2, .int .i64 x3, .slice none 0 0], kind := .grow, size := 4 }]) ?_ ?_
        · (repeat' (first | ((with_reducible refine Step.id ?_); first | ((with_reducible apply Step.move); exact rfl; exact rfl) | ((with_reducible apply Step.load); exact rfl; (focus (decide +kernel)); exact rfl; (focus (exact Rd.new rfl rfl))) | ((with_reducible apply Step.field0); exact rfl; (focus (decide +kernel)); exact rfl) | ((with_reducible apply Step.field (k := 1)); exact rfl; (focus (decide +kernel)); exact rfl) | ((with_reducible apply Step.field (k := 2)); exact rfl; (focus (decide +kernel)); exact rfl) | ((with_reducible apply Step.field (k := 3)); exact rfl; (focus (decide +kernel)); exact rfl) | ((with_reducible apply Step.slToNil); exact rfl; exact rfl; (focus (assumption)); exact un23; exact sz3; exact rfl) | ((with_reducible apply Step.len); exact rfl; (focus (exact Sl.nil 0 0)); (focus (decide +kernel)); exact rfl) | ((with_reducible apply Step.min); exact rfl; exact rfl; exact rfl) | ((with_reducible apply Step.callR fit); exact rfl; exact Try.func77; exact rfl; exact rfl; exact (clone_nil)) | ((with_reducible apply Step.buildS 2); exact rfl; exact rfl; exact (fun _ _ => bs51); exact rfl; (focus (first | (simp only [List.nil_append, List.cons_append, List.set_cons_zero, List.set_cons_succ, iv_set, bv_set, iv_rep, bv_rep]; done) | (simp only [List.nil_append, List.cons_append, List.set_cons_zero, List.set_cons_succ, iv_set, bv_set, iv_rep, bv_rep]; rfl) | rfl))) | ((with_reducible apply Step.build); exact rfl; exact bl87; exact rfl)) | ((with_reducible apply AW.drawT fit (T := (.step 0 (.step 1 (.step 3 (.step 5 (.step 7 (.step 8 (.step 9 (.step 10 (.step 11 (.step 12 (.step 13 (.both (.step 2 (.both (.step 4 (.both (.step 6 (.step 14 (.step 15 (.step 16 (.step 17 (.step 18 .done)))))) (.step 14 (.step 6 (.step 15 (.step 16 (.step 17 (.step 18 .done)))))))) (.both (.step 6 (.both (.step 4 (.step 14 (.step 15 (.step 16 (.step 17 (.step 18 .done)))))) (.step 14 (.step 4 (.step 15 (.step 16 (.step 17 (.step 18 .done)))))))) (.step 14 (.step 4 (.step 6 (.step 15 (.step 16 (.step 17 (.step 18 .done)))))))))) (.both (.step 4 (.both (.step 2 (.both (.step 6 (.step 14 (.step 15 (.step 16 (.step 17 (.step 18 .done)))))) (.step 14 (.step 6 (.step 15 (.step 16 (.step 17 (.step 18 .done)))))))) (.both (.step 6 (.both (.step 2 (.step 14 (.step 15 (.step 16 (.step 17 (.step 18 .done)))))) (.step 14 (.step 2 (.step 15 (.step 16 (.step 17 (.step 18 .done)))))))) (.step 14 (.step 2 (.step 6 (.step 15 (.step 16 (.step 17 (.step 18 .done)))))))))) (.both (.step 6 (.both (.step 2 (.both (.step 4 (.step 14 (.step 15 (.step 16 (.step 17 (.step 18 .done)))))) (.step 14 (.step 4 (.step 15 (.step 16 (.step 17 (.step 18 .done)))))))) (.both (.step 4 (.both (.step 2 (.step 14 (.step 15 (.step 16 (.step 17 (.step 18 .done)))))) (.step 14 (.step 2 (.step 15 (.step 16 (.step 17 (.step 18 .done)))))))) (.step 14 (.step 2 (.step 4 (.step 15 (.step 16 (.step 17 (.step 18 .done)))))))))) (.step 14 (.step 2 (.step 4 (.step 6 (.step 15 (.step 16 (.step 17 (.step 18 .done)))))))))))))))))))))))); (focus (decide +kernel))) | ((with_reducible apply AWt.step); exact rfl) | refine AWt.both ?_ ?_))
          all_goals ((with_reducible apply Step.appG (k := 3)); exact rfl; exact rfl; exact rfl; exact el51; exact un51; exact rfl; exact rfl; exact rfl; exact hcl; exact rfl; exact rfl; exact rfl; (focus (omega)); exact rfl; (focus (first | (simp only [List.nil_append, List.cons_append, List.set_cons_zero, List.set_cons_succ, iv_set, bv_set, iv_rep, bv_rep]; done) | (simp only [List.nil_append, List.cons_append, List.set_cons_zero, List.set_cons_succ, iv_set, bv_set, iv_rep, bv_rep]; rfl) | rfl)))
          all_goals (repeat' (first | ((with_reducible refine Step.id ?_); ((with_reducible apply Step.assign); exact rfl; exact rfl)) | ((with_reducible apply AWt.step); exact rfl) | ((with_reducible apply AWt.done))))
          all_goals exact ⟨rfl, rfl, (by repeat (first | exact trivial | (refine And.intro rfl ?_)))⟩
        intro t' ht'
        refine InBlk.n ?_
        refine Then.n ?_
        refine AW.weak ht' ?_
        (repeat (first | (with_reducible refine AWo.cons ?_) | ((with_reducible refine Step.id ?_); first | ((with_reducible apply Step.move); exact rfl; exact rfl) | ((with_reducible apply Step.add); exact rfl; exact rfl; (focus (omega)); exact rfl)) | (with_reducible refine AWo.nil ?_) | ((with_reducible apply Then.n)) | ((with_reducible apply AW.regL))))
        refine ⟨_, [(3, .slice (some ⟨M.length + 3, 0, none⟩) (k + 1) (k + 1)), (6, v), (7, .int .i64 (j.length : Nat)), (8, .int .i64 (k + 1 : Nat))], ?_, (by repeat (first | exact trivial | (refine And.intro rfl ?_))), k + 1, M ++ [none, some { cells := [.int .i64 x1, .int .i64 x2, .int .i64 x3, .slice none 0 0] }, some { cells := [.int .i64 x1, .int .i64 x2, .int .i64 x3, .slice none 0 0] }], N ++ [none, some { cells := [.int .i64 x1, .int .i64 x2, .int .i64 x3, .slice none 0 0] }, some { cells := [.int .i64 x1, .int .i64 x2, .int .i64 x3, .slice none 0 0] }], c ++ [.int .i64 x1, .int .i64 x2, .int .i64 x3, .slice none 0 0], rfl, hlt, by omega, by rw [hM, List.append_assoc], snoc _ _ (ints_nil (by simp)), ?_, ?_⟩
        · omega
        · rw [gb_pos (by simp), List.append_assoc]; rfl
        · rw [gv_pos (by omega)]; simp
      · have hl1 : ∀ h, h ≤ cp → Sl (.slice (some ⟨wa, wo, none⟩) h cp) wa wo h := fun h hh => Sl.mk hh
        by_cases hl0 : l.length = 0
        · obtain rfl : l = [] := List.eq_nil_of_length_eq_zero hl0
          have e0 : min ((0 : Nat) : Int) 60 = ((0 : Nat) : Int) := rfl
          have hsl : Sl (.slice (some ⟨wa, wo, none⟩) 0 cp) wa wo 0 := Sl.mk hcp
          simp only [List.length_nil] at *
          refine AW.via [(3, .slice (some ⟨M.length + 4, 0, none⟩) (k + 1) (k + 1)), (6, v), (7, .int .i64 (j.length : Nat)), (8, .int .i64 (k : Nat))] (M ++ [none, some { cells := [.int .i64 x1, .int .i64 x2, .int .i64 x3, .slice (some ⟨wa, wo, none⟩) 0 cp] }, some { cells := [] }, some { cells := [.int .i64 x1, .int .i64 x2, .int .i64 x3, .slice (some ⟨M.length + 2, 0, none⟩) 0 0] }, some { cells := c ++ [.int .i64 x1, .int .i64 x2, .int .i64 x3, .slice (some ⟨M.length + 2, 0, none⟩) 0 0], kind := .grow, size := 4 }]) ?_ ?_
          · (repeat' (first | ((with_reducible refine Step.id ?_); first | ((with_reducible apply Step.move); exact rfl; exact rfl) | ((with_reducible apply Step.load); exact rfl; (focus (decide +kernel)); exact rfl; (focus (exact Rd.new rfl rfl))) | ((with_reducible apply Step.field0); exact rfl; (focus (decide +kernel)); exact rfl) | ((with_reducible apply Step.field (k := 1)); exact rfl; (focus (decide +kernel)); exact rfl) | ((with_reducible apply Step.field (k := 2)); exact rfl; (focus (decide +kernel)); exact rfl) | ((with_reducible apply Step.field (k := 3)); exact rfl; (focus (decide +kernel)); exact rfl) | ((with_reducible apply Step.slTo); exact rfl; exact rfl; (focus (assumption)); (focus (omega)); exact un23; exact sz3; exact rfl) | ((with_reducible apply Step.len); exact rfl; (focus (assumption)); (focus (decide +kernel)); exact rfl) | ((with_reducible apply Step.min); exact rfl; exact rfl; exact rfl) | ((with_reducible apply Step.callN fit (k := 2)); exact rfl; exact rfl; exact Try.func77; exact rfl; exact rfl; exact (clone_empty hsl); (focus (first | (simp only [List.nil_append, List.cons_append, List.set_cons_zero, List.set_cons_succ, iv_set, bv_set, iv_rep, bv_rep]; done) | (simp only [List.nil_append, List.cons_append, List.set_cons_zero, List.set_cons_succ, iv_set, bv_set, iv_rep, bv_rep]; rfl) | rfl))) | ((with_reducible apply Step.buildS 3); exact rfl; exact rfl; exact (fun _ _ => bs51); exact rfl; (focus (first | (simp only [List.nil_append, List.cons_append, List.set_cons_zero, List.set_cons_succ, iv_set, bv_set, iv_rep, bv_rep]; done) | (simp only [List.nil_append, List.cons_append, List.set_cons_zero, List.set_cons_succ, iv_set, bv_set, iv_rep, bv_rep]; rfl) | rfl))) | ((with_reducible apply Step.build); exact rfl; exact bl87; exact rfl)) | ((with_reducible apply AW.drawT fit (T := (.step 0 (.step 1 (.step 3 (.step 5 (.step 7 (.step 8 (.step 9 (.step 10 (.step 11 (.step 12 (.step 13 (.both (.step 2 (.both (.step 4 (.both (.step 6 (.step 14 (.step 15 (.step 16 (.step 17 (.step 18 .done)))))) (.step 14 (.step 6 (.step 15 (.step 16 (.step 17 (.step 18 .done)))))))) (.both (.step 6 (.both (.step 4 (.step 14 (.step 15 (.step 16 (.step 17 (.step 18 .done)))))) (.step 14 (.step 4 (.step 15 (.step 16 (.step 17 (.step 18 .done)))))))) (.step 14 (.step 4 (.step 6 (.step 15 (.step 16 (.step 17 (.step 18 .done)))))))))) (.both (.step 4 (.both (.step 2 (.both (.step 6 (.step 14 (.step 15 (.step 16 (.step 17 (.step 18 .done)))))) (.step 14 (.step 6 (.step 15 (.step 16 (.step 17 (.step 18 .done)))))))) (.both (.step 6 (.both (.step 2 (.step 14 (.step 15 (.step 16 (.step 17 (.step 18 .done)))))) (.step 14 (.step 2 (.step 15 (.step 16 (.step 17 (.step 18 .done)))))))) (.step 14 (.step 2 (.step 6 (.step 15 (.step 16 (.step 17 (.step 18 .done)))))))))) (.both (.step 6 (.both (.step 2 (.both (.step 4 (.step 14 (.step 15 (.step 16 (.step 17 (.step 18 .done)))))) (.step 14 (.step 4 (.step 15 (.step 16 (.step 17 (.step 18 .done)))))))) (.both (.step 4 (.both (.step 2 (.step 14 (.step 15 (.step 16 (.step 17 (.step 18 .done)))))) (.step 14 (.step 2 (.step 15 (.step 16 (.step 17 (.step 18 .done)))))))) (.step 14 (.step 2 (.step 4 (.step 15 (.step 16 (.step 17 (.step 18 .done)))))))))) (.step 14 (.step 2 (.step 4 (.step 6 (.step 15 (.step 16 (.step 17 (.step 18 .done)))))))))))))))))))))))); (focus (decide +kernel))) | ((with_reducible apply AWt.step); exact rfl) | refine AWt.both ?_ ?_))
            all_goals ((with_reducible apply Step.appG (k := 4)); exact rfl; exact rfl; exact rfl; exact el51; exact un51; exact rfl; exact rfl; exact rfl; exact hcl; exact rfl; exact rfl; exact rfl; (focus (omega)); exact rfl; (focus (first | (simp only [List.nil_append, List.cons_append, List.set_cons_zero, List.set_cons_succ, iv_set, bv_set, iv_rep, bv_rep]; done) | (simp only [List.nil_append, List.cons_append, List.set_cons_zero, List.set_cons_succ, iv_set, bv_set, iv_rep, bv_rep]; rfl) | rfl)))
            all_goals (repeat' (first | ((with_reducible refine Step.id ?_); ((with_reducible apply Step.assign); exact rfl; exact rfl)) | ((with_reducible apply AWt.step); exact rfl) | ((with_reducible apply AWt.done))))
            all_goals exact ⟨rfl, rfl, (by repeat (first | exact trivial | (refine And.intro rfl ?_)))⟩
          intro t' ht'
          refine InBlk.n ?_
          refine Then.n ?_
          refine AW.weak ht' ?_
          (repeat (first | (with_reducible refine AWo.cons ?_) | ((with_reducible refine Step.id ?_); first | ((with_reducible apply Step.move); exact rfl; exact rfl) | ((with_reducible apply Step.add); exact rfl; exact rfl; (focus (omega)); exact rfl)) | (with_reducible refine AWo.nil ?_) | ((with_reducible apply Then.n)) | ((with_reducible apply AW.regL))))
          refine ⟨_, [(3, .slice (some ⟨M.length + 4, 0, none⟩) (k + 1) (k + 1)), (6, v), (7, .int .i64 (j.length : Nat)), (8, .int .i64 (k + 1 : Nat))], ?_, (by repeat (first | exact trivial | (refine And.intro rfl ?_))), k + 1, M ++ [none, some { cells := [.int .i64 x1, .int .i64 x2, .int .i64 x3, .slice (some ⟨wa, wo, none⟩) 0 cp] }, some { cells := [] }, some { cells := [.int .i64 x1, .int .i64 x2, .int .i64 x3, .slice (some ⟨M.length + 2, 0, none⟩) 0 0] }], N ++ [none, some { cells := [.int .i64 x1, .int .i64 x2, .int .i64 x3, .slice (some ⟨wa, wo, none⟩) 0 cp] }, some { cells := [] }, some { cells := [.int .i64 x1, .int .i64 x2, .int .i64 x3, .slice (some ⟨M.length + 2, 0, none⟩) 0 0] }], c ++ [.int .i64 x1, .int .i64 x2, .int .i64 x3, .slice (some ⟨M.length + 2, 0, none⟩) 0 0], rfl, hlt, by omega, by rw [hM, List.append_assoc], snoc _ _ (ints_new (k := 2) rfl rfl 0 rfl), ?_, ?_⟩
          · omega
          · rw [gb_pos (by simp), List.append_assoc]; rfl
          · rw [gv_pos (by omega)]; simp
        · have hsl : Sl (.slice (some ⟨wa, wo, none⟩) l.length cp) wa wo l.length := Sl.mk hcp
          have hcm : min l.length 60 ≤ cp := by omega
          have lt60 : (l.take 60).length = min l.length 60 := by rw [List.length_take, Nat.min_comm]
          have hin : ∀ L, Ints (M ++ L) (.slice (some ⟨wa, wo, none⟩) (min l.length 60) cp) (l.take 60) := fun L => by
            refine ⟨wa, wo, by rw [lt60]; exact Sl.mk hcm, by simp; omega, fun q hq => ?_⟩
            have := (w3 q (by omega)).old L
            rw [lt60] at hq
            rw [List.getD_eq_getElem?_getD, List.getElem?_take, if_pos (by omega), ← List.getD_eq_getElem?_getD]
            exact this
          have cl := fun L => clone_pos (hin L) (by omega) (by omega)
          rw [lt60] at cl
          refine AW.via [(3, .slice (some ⟨M.length + 4, 0, none⟩) (k + 1) (k + 1)), (6, v), (7, .int .i64 (j.length : Nat)), (8, .int .i64 (k : Nat))] (M ++ [none, some { cells := [.int .i64 x1, .int .i64 x2, .int .i64 x3, .slice (some ⟨wa, wo, none⟩) l.length cp] }, some { cells := iv (l.take 60), kind := .grow, size := 1 }, some { cells := [.int .i64 x1, .int .i64 x2, .int .i64 x3, .slice (some ⟨M.length + 2, 0, none⟩) (min l.length 60) (min l.length 60)] }, some { cells := c ++ [.int .i64 x1, .int .i64 x2, .int .i64 x3, .slice (some ⟨M.length + 2, 0, none⟩) (min l.length 60) (min l.length 60)], kind := .grow, size := 4 }]) ?_ ?_
          · (repeat' (first | ((with_reducible refine Step.id ?_); first | ((with_reducible apply Step.move); exact rfl; exact rfl) | ((with_reducible apply Step.load); exact rfl; (focus (decide +kernel)); exact rfl; (focus (exact Rd.new rfl rfl))) | ((with_reducible apply Step.field0); exact rfl; (focus (decide +kernel)); exact rfl) | ((with_reducible apply Step.field (k := 1)); exact rfl; (focus (decide +kernel)); exact rfl) | ((with_reducible apply Step.field (k := 2)); exact rfl; (focus (decide +kernel)); exact rfl) | ((with_reducible apply Step.field (k := 3)); exact rfl; (focus (decide +kernel)); exact rfl) | ((with_reducible apply Step.slTo); exact rfl; exact rfl; (focus (assumption)); (focus (omega)); exact un23; exact sz3; exact rfl) | ((with_reducible apply Step.len); exact rfl; (focus (assumption)); (focus (decide +kernel)); exact rfl) | ((with_reducible apply Step.min); exact rfl; exact rfl; exact rfl) | ((with_reducible apply Step.callN fit (k := 2)); exact rfl; exact rfl; exact Try.func77; exact rfl; exact rfl; exact (cl _); (focus (first | (simp only [List.nil_append, List.cons_append, List.set_cons_zero, List.set_cons_succ, iv_set, bv_set, iv_rep, bv_rep]; done) | (simp only [List.nil_append, List.cons_append, List.set_cons_zero, List.set_cons_succ, iv_set, bv_set, iv_rep, bv_rep]; rfl) | rfl))) | ((with_reducible apply Step.buildS 3); exact rfl; exact rfl; exact (fun _ _ => bs51); exact rfl; (focus (first | (simp only [List.nil_append, List.cons_append, List.set_cons_zero, List.set_cons_succ, iv_set, bv_set, iv_rep, bv_rep]; done) | (simp only [List.nil_append, List.cons_append, List.set_cons_zero, List.set_cons_succ, iv_set, bv_set, iv_rep, bv_rep]; rfl) | rfl))) | ((with_reducible apply Step.build); exact rfl; exact bl87; exact rfl)) | ((with_reducible apply AW.drawT fit (T := (.step 0 (.step 1 (.step 3 (.step 5 (.step 7 (.step 8 (.step 9 (.step 10 (.step 11 (.step 12 (.step 13 (.both (.step 2 (.both (.step 4 (.both (.step 6 (.step 14 (.step 15 (.step 16 (.step 17 (.step 18 .done)))))) (.step 14 (.step 6 (.step 15 (.step 16 (.step 17 (.step 18 .done)))))))) (.both (.step 6 (.both (.step 4 (.step 14 (.step 15 (.step 16 (.step 17 (.step 18 .done)))))) (.step 14 (.step 4 (.step 15 (.step 16 (.step 17 (.step 18 .done)))))))) (.step 14 (.step 4 (.step 6 (.step 15 (.step 16 (.step 17 (.step 18 .done)))))))))) (.both (.step 4 (.both (.step 2 (.both (.step 6 (.step 14 (.step 15 (.step 16 (.step 17 (.step 18 .done)))))) (.step 14 (.step 6 (.step 15 (.step 16 (.step 17 (.step 18 .done)))))))) (.both (.step 6 (.both (.step 2 (.step 14 (.step 15 (.step 16 (.step 17 (.step 18 .done)))))) (.step 14 (.step 2 (.step 15 (.step 16 (.step 17 (.step 18 .done)))))))) (.step 14 (.step 2 (.step 6 (.step 15 (.step 16 (.step 17 (.step 18 .done)))))))))) (.both (.step 6 (.both (.step 2 (.both (.step 4 (.step 14 (.step 15 (.step 16 (.step 17 (.step 18 .done)))))) (.step 14 (.step 4 (.step 15 (.step 16 (.step 17 (.step 18 .done)))))))) (.both (.step 4 (.both (.step 2 (.step 14 (.step 15 (.step 16 (.step 17 (.step 18 .done)))))) (.step 14 (.step 2 (.step 15 (.step 16 (.step 17 (.step 18 .done)))))))) (.step 14 (.step 2 (.step 4 (.step 15 (.step 16 (.step 17 (.step 18 .done)))))))))) (.step 14 (.step 2 (.step 4 (.step 6 (.step 15 (.step 16 (.step 17 (.step 18 .done)))))))))))))))))))))))); (focus (decide +kernel))) | ((with_reducible apply AWt.step); exact rfl) | refine AWt.both ?_ ?_))
            all_goals ((with_reducible apply Step.appG (k := 4)); exact rfl; exact rfl; exact rfl; exact el51; exact un51; exact rfl; exact rfl; exact rfl; exact hcl; exact rfl; exact rfl; exact rfl; (focus (omega)); exact rfl; (focus (first | (simp only [List.nil_append, List.cons_append, List.set_cons_zero, List.set_cons_succ, iv_set, bv_set, iv_rep, bv_rep]; done) | (simp only [List.nil_append, List.cons_append, List.set_cons_zero, List.set_cons_succ, iv_set, bv_set, iv_rep, bv_rep]; rfl) | rfl)))
            all_goals (repeat' (first | ((with_reducible refine Step.id ?_); ((with_reducible apply Step.assign); exact rfl; exact rfl)) | ((with_reducible apply AWt.step); exact rfl) | ((with_reducible apply AWt.done))))
            all_goals exact ⟨rfl, rfl, (by repeat (first | exact trivial | (refine And.intro rfl ?_)))⟩
          intro t' ht'
          refine InBlk.n ?_
          refine Then.n ?_
          refine AW.weak ht' ?_
          (repeat (first | (with_reducible refine AWo.cons ?_) | ((with_reducible refine Step.id ?_); first | ((with_reducible apply Step.move); exact rfl; exact rfl) | ((with_reducible apply Step.add); exact rfl; exact rfl; (focus (omega)); exact rfl)) | (with_reducible refine AWo.nil ?_) | ((with_reducible apply Then.n)) | ((with_reducible apply AW.regL))))
          refine ⟨_, [(3, .slice (some ⟨M.length + 4, 0, none⟩) (k + 1) (k + 1)), (6, v), (7, .int .i64 (j.length : Nat)), (8, .int .i64 (k + 1 : Nat))], ?_, (by repeat (first | exact trivial | (refine And.intro rfl ?_))), k + 1, M ++ [none, some { cells := [.int .i64 x1, .int .i64 x2, .int .i64 x3, .slice (some ⟨wa, wo, none⟩) l.length cp] }, some { cells := iv (l.take 60), kind := .grow, size := 1 }, some { cells := [.int .i64 x1, .int .i64 x2, .int .i64 x3, .slice (some ⟨M.length + 2, 0, none⟩) (min l.length 60) (min l.length 60)] }], N ++ [none, some { cells := [.int .i64 x1, .int .i64 x2, .int .i64 x3, .slice (some ⟨wa, wo, none⟩) l.length cp] }, some { cells := iv (l.take 60), kind := .grow, size := 1 }, some { cells := [.int .i64 x1, .int .i64 x2, .int .i64 x3, .slice (some ⟨M.length + 2, 0, none⟩) (min l.length 60) (min l.length 60)] }], c ++ [.int .i64 x1, .int .i64 x2, .int .i64 x3, .slice (some ⟨M.length + 2, 0, none⟩) (min l.length 60) (min l.length 60)], rfl, hlt, by omega, by rw [hM, List.append_assoc], snoc _ _ (ints_new (k := 2) rfl rfl _ lt60.symm), ?_, ?_⟩
          · omega
          · rw [gb_pos (by simp), List.append_assoc]; rfl
          · rw [gv_pos (by omega)]; simp
      · skip
        obtain rfl : l = [] := List.eq_nil_of_length_eq_zero hn
        have e0 : min ((0 : Nat) : Int) 60 = ((0 : Nat) : Int) := rfl
        have hsl : Sl (.slice (some ⟨wa, so, some sk⟩) 0 0) wa wo 0 := .inr (.inr ⟨rfl, so, sk, rfl⟩)
        simp only [List.length_nil] at *
        refine AW.via [(3, .slice (some ⟨M.length + 4, 0, none⟩) (k + 1) (k + 1)), (6, v), (7, .int .i64 (j.length : Nat)), (8, .int .i64 (k : Nat))] (M ++ [none, some { cells := [.int .i64 x1, .int .i64 x2, .int .i64 x3, .slice (some ⟨wa, so, some sk⟩) 0 0] }, some { cells := [] }, some { cells := [.int .i64 x1, .int .i64 x2, .int .i64 x3, .slice (some ⟨M.length + 2, 0, none⟩) 0 0] }, some { cells := c ++ [.int .i64 x1, .int .i64 x2, .int .i64 x3, .slice (some ⟨M.length + 2, 0, none⟩) 0 0], kind := .grow, size := 4 }]) ?_ ?_
        · (repeat' (first | ((with_reducible refine Step.id ?_); first | ((with_reducible apply Step.move); exact rfl; exact rfl) | ((with_reducible apply Step.load); exact rfl; (focus (decide +kernel)); exact rfl; (focus (exact Rd.new rfl rfl))) | ((with_reducible apply Step.field0); exact rfl; (focus (decide +kernel)); exact rfl) | ((with_reducible apply Step.field (k := 1)); exact rfl; (focus (decide +kernel)); exact rfl) | ((with_reducible apply Step.field (k := 2)); exact rfl; (focus (decide +kernel)); exact rfl) | ((with_reducible apply Step.field (k := 3)); exact rfl; (focus (decide +kernel)); exact rfl) | ((with_reducible apply Step.slToSpot); exact rfl; exact rfl; (focus (assumption)); exact un23; exact sz3; exact rfl) | ((with_reducible apply Step.len); exact rfl; (focus (assumption)); (focus (decide +kernel)); exact rfl) | ((with_reducible apply Step.min); exact rfl; exact rfl; exact rfl) | ((with_reducible apply Step.callN fit (k := 2)); exact rfl; exact rfl; exact Try.func77; exact rfl; exact rfl; exact (clone_empty hsl); (focus (first | (simp only [List.nil_append, List.cons_append, List.set_cons_zero, List.set_cons_succ, iv_set, bv_set, iv_rep, bv_rep]; done) | (simp only [List.nil_append, List.cons_append, List.set_cons_zero, List.set_cons_succ, iv_set, bv_set, iv_rep, bv_rep]; rfl) | rfl))) | ((with_reducible apply Step.buildS 3); exact rfl; exact rfl; exact (fun _ _ => bs51); exact rfl; (focus (first | (simp only [List.nil_append, List.cons_append, List.set_cons_zero, List.set_cons_succ, iv_set, bv_set, iv_rep, bv_rep]; done) | (simp only [List.nil_append, List.cons_append, List.set_cons_zero, List.set_cons_succ, iv_set, bv_set, iv_rep, bv_rep]; rfl) | rfl))) | ((with_reducible apply Step.build); exact rfl; exact bl87; exact rfl)) | ((with_reducible apply AW.drawT fit (T := (.step 0 (.step 1 (.step 3 (.step 5 (.step 7 (.step 8 (.step 9 (.step 10 (.step 11 (.step 12 (.step 13 (.both (.step 2 (.both (.step 4 (.both (.step 6 (.step 14 (.step 15 (.step 16 (.step 17 (.step 18 .done)))))) (.step 14 (.step 6 (.step 15 (.step 16 (.step 17 (.step 18 .done)))))))) (.both (.step 6 (.both (.step 4 (.step 14 (.step 15 (.step 16 (.step 17 (.step 18 .done)))))) (.step 14 (.step 4 (.step 15 (.step 16 (.step 17 (.step 18 .done)))))))) (.step 14 (.step 4 (.step 6 (.step 15 (.step 16 (.step 17 (.step 18 .done)))))))))) (.both (.step 4 (.both (.step 2 (.both (.step 6 (.step 14 (.step 15 (.step 16 (.step 17 (.step 18 .done)))))) (.step 14 (.step 6 (.step 15 (.step 16 (.step 17 (.step 18 .done)))))))) (.both (.step 6 (.both (.step 2 (.step 14 (.step 15 (.step 16 (.step 17 (.step 18 .done)))))) (.step 14 (.step 2 (.step 15 (.step 16 (.step 17 (.step 18 .done)))))))) (.step 14 (.step 2 (.step 6 (.step 15 (.step 16 (.step 17 (.step 18 .done)))))))))) (.both (.step 6 (.both (.step 2 (.both (.step 4 (.step 14 (.step 15 (.step 16 (.step 17 (.step 18 .done)))))) (.step 14 (.step 4 (.step 15 (.step 16 (.step 17 (.step 18 .done)))))))) (.both (.step 4 (.both (.step 2 (.step 14 (.step 15 (.step 16 (.step 17 (.step 18 .done)))))) (.step 14 (.step 2 (.step 15 (.step 16 (.step 17 (.step 18 .done)))))))) (.step 14 (.step 2 (.step 4 (.step 15 (.step 16 (.step 17 (.step 18 .done)))))))))) (.step 14 (.step 2 (.step 4 (.step 6 (.step 15 (.step 16 (.step 17 (.step 18 .done)))))))))))))))))))))))); (focus (decide +kernel))) | ((with_reducible apply AWt.step); exact rfl) | refine AWt.both ?_ ?_))
          all_goals ((with_reducible apply Step.appG (k := 4)); exact rfl; exact rfl; exact rfl; exact el51; exact un51; exact rfl; exact rfl; exact rfl; exact hcl; exact rfl; exact rfl; exact rfl; (focus (omega)); exact rfl; (focus (first | (simp only [List.nil_append, List.cons_append, List.set_cons_zero, List.set_cons_succ, iv_set, bv_set, iv_rep, bv_rep]; done) | (simp only [List.nil_append, List.cons_append, List.set_cons_zero, List.set_cons_succ, iv_set, bv_set, iv_rep, bv_rep]; rfl) | rfl)))
          all_goals (repeat' (first | ((with_reducible refine Step.id ?_); ((with_reducible apply Step.assign); exact rfl; exact rfl)) | ((with_reducible apply AWt.step); exact rfl) | ((with_reducible apply AWt.done))))
          all_goals exact ⟨rfl, rfl, (by repeat (first | exact trivial | (refine And.intro rfl ?_)))⟩
        intro t' ht'
        refine InBlk.n ?_
        refine Then.n ?_
        refine AW.weak ht' ?_
        (repeat (first | (with_reducible refine AWo.cons ?_) | ((with_reducible refine Step.id ?_); first | ((with_reducible apply Step.move); exact rfl; exact rfl) | ((with_reducible apply Step.add); exact rfl; exact rfl; (focus (omega)); exact rfl)) | (with_reducible refine AWo.nil ?_) | ((with_reducible apply Then.n)) | ((with_reducible apply AW.regL))))
        refine ⟨_, [(3, .slice (some ⟨M.length + 4, 0, none⟩) (k + 1) (k + 1)), (6, v), (7, .int .i64 (j.length : Nat)), (8, .int .i64 (k + 1 : Nat))], ?_, (by repeat (first | exact trivial | (refine And.intro rfl ?_))), k + 1, M ++ [none, some { cells := [.int .i64 x1, .int .i64 x2, .int .i64 x3, .slice (some ⟨wa, so, some sk⟩) 0 0] }, some { cells := [] }, some { cells := [.int .i64 x1, .int .i64 x2, .int .i64 x3, .slice (some ⟨M.length + 2, 0, none⟩) 0 0] }], N ++ [none, some { cells := [.int .i64 x1, .int .i64 x2, .int .i64 x3, .slice (some ⟨wa, so, some sk⟩) 0 0] }, some { cells := [] }, some { cells := [.int .i64 x1, .int .i64 x2, .int .i64 x3, .slice (some ⟨M.length + 2, 0, none⟩) 0 0] }], c ++ [.int .i64 x1, .int .i64 x2, .int .i64 x3, .slice (some ⟨M.length + 2, 0, none⟩) 0 0], rfl, hlt, by omega, by rw [hM, List.append_assoc], snoc _ _ (ints_new (k := 2) rfl rfl 0 rfl), ?_, ?_⟩
        · omega
        · rw [gb_pos (by simp), List.append_assoc]; rfl
        · rw [gv_pos (by omega)]; simp
  · (repeat (first | (with_reducible refine AWo.cons ?_) | ((with_reducible refine Step.id ?_); first | ((with_reducible apply Step.move); exact rfl; exact rfl) | ((with_reducible apply Step.assign); exact rfl; exact rfl) | ((with_reducible apply Step.lss); exact rfl; exact rfl; exact rfl)) | (with_reducible refine AWo.nil ?_) | ((with_reducible apply AW.seq)) | ((with_reducible apply Then.n)) | ((with_reducible apply AW.regL)) | ((with_reducible apply AW.exit)) | ((with_reducible apply InBlk.hit)) | ((with_reducible apply Then.e)) | ((with_reducible apply AW.condF); exact rfl; (focus ((simp only [decide_eq_true_eq, decide_eq_false_iff_not, Bool.not_eq_true', Bool.not_eq_false', Bool.not_true, Bool.not_false]; first | assumption | omega))))))
    (refine AW.ret ?_; (repeat (first | refine Then.r ?_ | refine InBlk.r ?_)))
    exact ⟨_, rfl, N ++ [gb c 4], by rw [hM, List.append_assoc], fin (.inl (by omega))⟩
end Go.Proofs.Ytmomjannlnafcaa.Abs
namespace Go.Proofs.Ytmomjannlnafcaa.Abs
set_option linter.unusedSimpArgs false
set_option linter.unusedVariables false
open Go.RowKit
open Go.Proofs.Ytmomjannlnafcaa.Sim
theorem nodup_le {α : Type} [DecidableEq α] : ∀ (l r : List α), l.Nodup → (∀ x ∈ l, x ∈ r) → l.length ≤ r.length
  | [], r, _, _ => by simp
  | a :: l, r, h, hs => by
    have h1 := List.nodup_cons.1 h
    have ha : a ∈ r := hs a (by simp)
    have := nodup_le l (r.erase a) h1.2 fun x hx => by
      have hne : x ≠ a := fun e => h1.1 (e ▸ hx)
      exact (List.mem_erase_of_ne hne).2 (hs x (by simp [hx]))
    rw [List.length_erase_of_mem ha] at this
    have := List.length_pos_of_mem ha
    simp; omega
theorem mem_upI {n : Nat} {x : Int} : x ∈ upI n ↔ 0 ≤ x ∧ x < n := by
  simp only [upI, List.mem_map, List.mem_range]
  constructor
  · rintro ⟨k, hk, rfl⟩; omega
  · rintro ⟨h1, h2⟩; exact ⟨x.toNat, by omega, by omega⟩
theorem upI_nodup (n : Nat) : (upI n).Nodup := by
  unfold upI
  have := List.nodup_range (n := n)
  exact List.Pairwise.map _ (fun a b h e => h (by omega)) this
theorem upI_sorted (n : Nat) : (upI n).Pairwise (fun x y => decide (x ≤ y) = true) := by
  unfold upI
  exact List.Pairwise.map _ (fun a b h => by simp; omega) (List.pairwise_lt_range (n := n))
/-- A slice is an order of n if and only if it has n elements, each below n, each once. -/
theorem orderB_iff {l : List Int} {n : Nat} : orderB l n = true ↔ l.length = n ∧ (∀ x ∈ l, 0 ≤ x ∧ x < n) ∧ l.Nodup := by
  simp only [orderB, Bool.and_eq_true, decide_eq_true_eq]
  constructor
  · rintro ⟨h1, h2⟩
    have hp : (srt l).Perm l := List.mergeSort_perm l _
    rw [h2] at hp
    exact ⟨h1, fun x hx => mem_upI.1 (hp.mem_iff.2 hx), hp.nodup_iff.1 (upI_nodup n)⟩
  · rintro ⟨h1, h2, h3⟩
    refine ⟨h1, ?_⟩
    have hsub : ∀ x ∈ l, x ∈ upI n := fun x hx => mem_upI.2 (h2 x hx)
    have hsup : ∀ x ∈ upI n, x ∈ l := fun x hx => Classical.byContradiction fun hn => by
      have := nodup_le l ((upI n).erase x) h3 fun y hy => (List.mem_erase_of_ne (fun (e : y = x) => hn (e ▸ hy))).2 (hsub y hy)
      rw [List.length_erase_of_mem hx, upI_len] at this
      have := List.length_pos_of_mem hx
      rw [upI_len] at this
      omega
    have hperm : l.Perm (upI n) := by
      rw [List.perm_iff_count]
      intro a
      rw [h3.count, (upI_nodup n).count]
      by_cases ha : a ∈ l
      · rw [if_pos ha, if_pos (hsub a ha)]
      · rw [if_neg ha, if_neg (fun h => ha (hsup a h))]
    have hps : (srt l).Perm (upI n) := (List.mergeSort_perm l _).trans hperm
    refine hps.eq_of_pairwise (le := fun x y => decide (x ≤ y) = true) (fun a b _ _ h1 h2 => by simp at h1 h2; omega) ?_ (upI_sorted n)
    exact List.pairwise_mergeSort (fun a b c h1 h2 => by simp at h1 h2 ⊢; omega) (fun a b => by simp; omega) l
end Go.Proofs.Ytmomjannlnafcaa.Abs
namespace Go.Proofs.Ytmomjannlnafcaa.Abs
set_option linter.unusedSimpArgs false
set_option linter.unusedVariables false
open Go.RowKit
open Go.Proofs.Ytmomjannlnafcaa.Sim
open Go.ChangeShapes Go.WideShapes Go.Deep
/-- An argument with the cells that it shows. -/
abbrev AR := Value × List Value
def mkP : AR → Option Sim.Place
  | (.slice (some a) n cap, _) => some ⟨a.block, a.off, cap - n⟩
  | _ => none
section
variable {H : Type} {enc : TypeId × Value → H} {P : Program} {w : World} {base : Nat} {spare : Nat → Bool} {held : Bool}
theorem ok_slice {r : Reach} {b0 : Nat} {T e : TypeId} {a : Option Addr} {n c : Nat} (ht : P.underlying T = some (.slice e)) (h : Value.okWide P w r b0 T (.slice a n c)) : (a = none ∧ n = 0 ∧ c = 0) ∨ ∃ b o, a = some ⟨b, o, none⟩ ∧ n ≤ c ∧ b < w.heap.size := by
  simp only [Value.okWide, ht, Cell.okWide, Cell.ok] at h
  cases a with
  | none =>
    cases n <;> cases c <;> simp_all
  | some x =>
    obtain ⟨h1, _, h3⟩ := h
    obtain ⟨_, hs, row, cells, hsh, _⟩ := h3
    obtain ⟨b, o, s⟩ := x
    simp only at hs
    subst hs
    refine .inr ⟨b, o, rfl, h1, ?_⟩
    simp only [World.shape?] at hsh
    rcases Nat.lt_or_ge b w.heap.size with hlt | hge
    · exact hlt
    · rw [Array.getElem?_eq_none hge] at hsh; cases hsh
theorem open_slice_fields {t e : TypeId} {fs : Array Field} {fuel : Nat} {cs : List Value} {x : DataW H × List MemPlace} (ht : P.underlying t = some (.slice e)) (he : P.underlying e = some (.struct fs))
    (hone : oneCellFields P fs = true) (hC : P.cellsOf e = fs.size) (h : DataW.trod enc P w base spare held fuel t cs = some x) :
    (cs = [.slice none 0 0] ∧ x = (.nil, [])) ∨
    ∃ (a : Addr) (len cap m : Nat) (D : Nat → DataW H) (Pl : Nat → List MemPlace), cs = [.slice (some a) len cap] ∧ base ≤ a.block ∧ len ≤ cap ∧ cap ≤ maxLen ∧ m = (if spare a.block then cap else len) ∧
      x = (.slice ((List.range len).map D) ((List.range (m - len)).map fun j => D (len + j)), MemPlace.row a (m * fs.size) ++ (List.range m).flatMap Pl) ∧
      ∀ i, i < m → ∃ (ys : List (DataW H × List MemPlace)) (n : Nat), D i = .agg (ys.map (·.1)) ∧ Pl i = ys.flatMap (·.2) ∧ ys.length = fs.size ∧
        ∀ (j : Nat) (f : Field), fs[j]? = some f → ∃ (v : Value) (y : DataW H × List MemPlace), w.cell? (a.add (i * fs.size + j)) = some v ∧ ys[j]? = some y ∧ DataW.trod enc P w base spare held n f.type [v] = some y := by
  rcases open_slice ht h with h0 | ⟨a, len, cap, m, n, D, Pl, hcs, hb, hl, hm, hmm, hx, hi⟩
  · exact .inl h0
  · refine .inr ⟨a, len, cap, m, D, Pl, hcs, hb, hl, hm, hmm, by rw [hC] at hx; exact hx, fun i him => ?_⟩
    obtain ⟨cs', hc, ht'⟩ := hi i him
    rw [hC] at hc
    obtain ⟨ys, n', hn', hy, hlen, hyl, hf⟩ := DataW.trod_struct he ht'
    obtain ⟨_, hcl, hat⟩ := World.cells?_some hc
    simp only [Prod.mk.injEq] at hy
    refine ⟨ys, n', hy.1, hy.2, hyl, fun j f hj => ?_⟩
    obtain ⟨ho, hk⟩ := hone_of hone j f hj
    have hjl : j < fs.size := (Array.getElem?_eq_some_iff.1 hj).1
    have hcell := hat j hjl
    have hv : cs'[j]? = some (cs'[j]'(by omega)) := List.getElem?_eq_getElem (by omega)
    have h1 := hf j f hj
    rw [ho, hk] at h1
    have hone' : (cs'.drop j).take 1 = [cs'[j]'(by omega)] := by
      rw [List.drop_eq_getElem_cons (by omega)]
      rfl
    rw [hone'] at h1
    have hys : ys[j]? = some (ys[j]'(by omega)) := List.getElem?_eq_getElem (by omega)
    refine ⟨_, _, ?_, hys, h1.trans hys⟩
    rw [← Go.Deep.add_add, hcell, hv]
end
end Go.Proofs.Ytmomjannlnafcaa.Abs
namespace Go.Proofs.Ytmomjannlnafcaa.Abs
set_option linter.unusedSimpArgs false
set_option linter.unusedVariables false
open Go.RowKit
open Go.Proofs.Ytmomjannlnafcaa.Sim
open Go.Proofs
theorem awake_ok {m : AM} : ACall Try.prog 24 #[] m (Ret (.bool true) m) :=
  (ACall.of_calls (by kernel_rfl) (by kernel_rfl) fun w => closed_call fit (n := 400) (by kernel_rfl) (by kernel_rfl) (by kernel_rfl) w).mono fun _ _ ⟨a, b⟩ => ⟨a.symm, b.symm⟩
end Go.Proofs.Ytmomjannlnafcaa.Abs
namespace Go.Proofs.Ytmomjannlnafcaa.Abs
set_option linter.unusedSimpArgs false
set_option linter.unusedVariables false
open Go.RowKit
open Go.Proofs.Ytmomjannlnafcaa.Sim
open Go.Proofs
/-- Place q of an order is right: all of its job's After come before it. -/
def alOk (j : List Job) (P : List Nat) (q : Nat) : Bool := (aft j (P.getD q 0)).all fun a => decide (a.toNat ∈ P.take q)
end Go.Proofs.Ytmomjannlnafcaa.Abs
namespace Go.Proofs.Ytmomjannlnafcaa.Abs
set_option linter.unusedSimpArgs false
set_option linter.unusedVariables false
structure Topo (j : List Job) (P : List Nat) : Prop where
  nd : P.Nodup
  lt : ∀ x ∈ P, x < j.length
  al : ∀ q, q < P.length → alOk j P q = true
theorem take_left' {P Q : List Nat} {q : Nat} (h : q ≤ P.length) : (P ++ Q).take q = P.take q := by
  rw [List.take_append_of_le_length h]
theorem sortF_topo {j : List Job} : ∀ (f : Nat) (P : List Nat), Topo j P → Topo j (sortF j f P)
  | 0, P, h => h
  | f + 1, P, h => by
    rw [sortF]
    split
    · exact h
    · rename_i i hi
      obtain ⟨h1, h2, _⟩ := List.find?_range_eq_some.1 hi
      simp only [readyJ, Bool.and_eq_true, decide_eq_true_eq] at h1
      refine sortF_topo f _ ⟨?_, ?_, fun q hq => ?_⟩
      · rw [List.nodup_append]
        exact ⟨h.nd, by simp, fun a ha b hb => by simp at hb; subst hb; exact fun e => h1.1 (e ▸ ha)⟩
      · intro x hx
        rcases List.mem_append.1 hx with hx | hx
        · exact h.lt x hx
        · simp at hx; subst hx; simpa using h2
      · simp only [List.length_append, List.length_singleton] at hq
        rcases Nat.lt_succ_iff_lt_or_eq.1 hq with hq | hq
        · have := h.al q hq
          unfold alOk at this ⊢
          rw [take_left' (by omega)]
          have e : (P ++ [i]).getD q 0 = P.getD q 0 := by simp [List.getElem?_append_left hq]
          rwa [e]
        · subst hq
          unfold alOk
          rw [take_left' (Nat.le_refl _), List.take_length]
          have e : (P ++ [i]).getD P.length 0 = i := by simp
          rw [e]; exact h1.2
theorem sortL_topo (j : List Job) : Topo j (sortL j) := sortF_topo _ _ ⟨by simp, by simp, fun q hq => by simp at hq⟩
theorem Topo.order {j : List Job} {P : List Nat} (h : Topo j P) (hn : P.length = j.length) : orderB (nv P) j.length = true := by
  rw [orderB_iff]
  refine ⟨by rw [nv_len, hn], fun x hx => ?_, ?_⟩
  · obtain ⟨y, hy, rfl⟩ := List.mem_map.1 hx
    have := h.lt y hy
    omega
  · unfold nv
    exact List.Pairwise.map _ (fun a b hab e => hab (by omega)) h.nd
theorem Topo.all {j : List Job} {P : List Nat} (h : Topo j P) (hn : P.length = j.length) {i : Nat} (hi : i < j.length) : i ∈ P := by
  have ho := h.order hn
  simp only [orderB, Bool.and_eq_true, decide_eq_true_eq] at ho
  have : (i : Int) ∈ srt (nv P) := by rw [ho.2]; unfold upI; exact List.mem_map.2 ⟨i, by simpa using hi, rfl⟩
  unfold srt at this
  rw [List.mem_mergeSort] at this
  obtain ⟨y, hy, e⟩ := List.mem_map.1 this
  have : y = i := by omega
  exact this ▸ hy
/-- Of jobs of an order the last one is in no After of another one of them. -/
theorem cand_of {j : List Job} {P : List Nat} (h : Topo j P) (hn : P.length = j.length) {set : List Int} (hs : InJ j set) (hne : set ≠ []) : ∃ x ∈ set, blkJ j set x = false ∧ ∃ q, q < P.length ∧ (P.getD q 0 : Int) = x ∧ ∀ y ∈ set, ∃ r, r ≤ q ∧ (P.getD r 0 : Int) = y := by
  have idx : ∀ y ∈ set, ∃ r, r < P.length ∧ (P.getD r 0 : Int) = y := fun y hy => by
    have := hs y hy
    obtain ⟨r, hr, e⟩ := List.getElem_of_mem (h.all hn (i := y.toNat) (by omega))
    refine ⟨r, hr, ?_⟩
    rw [List.getD_eq_getElem?_getD, List.getElem?_eq_getElem hr, Option.getD_some, e]; omega
  -- the greatest place of one of the set
  have key : ∀ f, (∃ q, q < P.length ∧ P.length - q ≤ f ∧ (P.getD q 0 : Int) ∈ set) → ∃ q, q < P.length ∧ (P.getD q 0 : Int) ∈ set ∧ ∀ r, q < r → r < P.length → (P.getD r 0 : Int) ∉ set := by
    intro f
    induction f with
    | zero => rintro ⟨q, h1, h2, _⟩; omega
    | succ f ih =>
      rintro ⟨q, h1, h2, h3⟩
      by_cases hh : ∃ r, q < r ∧ r < P.length ∧ (P.getD r 0 : Int) ∈ set
      · obtain ⟨r, r1, r2, r3⟩ := hh
        exact ih ⟨r, r2, by omega, r3⟩
      · exact ⟨q, h1, h3, fun r r1 r2 r3 => hh ⟨r, r1, r2, r3⟩⟩
  obtain ⟨y0, hy0⟩ := List.exists_mem_of_ne_nil set hne
  obtain ⟨r0, h0, e0⟩ := idx y0 hy0
  obtain ⟨q, hq, hqs, hmax⟩ := key P.length ⟨r0, h0, by omega, by rw [e0]; exact hy0⟩
  have hall : ∀ y ∈ set, ∃ r, r ≤ q ∧ (P.getD r 0 : Int) = y := fun y hy => by
    obtain ⟨r, hr, e⟩ := idx y hy
    refine ⟨r, ?_, e⟩
    rcases Nat.lt_or_ge q r with hlt | hge
    · exact absurd (by rw [e]; exact hy) (hmax r hlt hr)
    · exact hge
  refine ⟨_, hqs, ?_, q, hq, rfl, hall⟩
  unfold blkJ
  rw [List.any_eq_false]
  intro k hk
  rw [decide_eq_true_eq]
  intro hmem
  obtain ⟨r, hr, e⟩ := hall k hk
  have hal := h.al r (by omega)
  unfold alOk at hal
  rw [List.all_eq_true] at hal
  have hk' : jb j k = j.getD (P.getD r 0) default := by rw [← e]; simp [jb]
  rw [hk'] at hmem
  have := hal _ hmem
  rw [decide_eq_true_eq, Int.toNat_natCast] at this
  obtain ⟨i, hi, ei⟩ := List.getElem_of_mem this
  simp only [List.length_take] at hi
  rw [List.getElem_take] at ei
  have e2 : P.getD q 0 = P[q] := by simp [hq]
  rw [e2] at ei
  have := (List.getElem_inj h.nd).1 ei
  omega
theorem snocRec {α : Type} {motive : List α → Prop} (l : List α) (nil : motive []) (snoc : ∀ l x, motive l → motive (l ++ [x])) : motive l := by
  have : ∀ n (l : List α), l.length = n → motive l := by
    intro n
    induction n with
    | zero => intro l hl; rw [List.eq_nil_of_length_eq_zero hl]; exact nil
    | succ n ih =>
      intro l hl
      rcases List.eq_nil_or_concat l with rfl | ⟨l', x, rfl⟩
      · simp at hl
      · rw [List.concat_eq_append] at *
        exact snoc l' x (ih l' (by simpa using hl))
  exact this l.length l rfl
structure LastOk (j : List Job) (set : List Int) (t : Int) (l : List Int) (st : Int × Int) : Prop where
  no : st.1 < 0 → st = (-1, 0) ∧ ∀ x ∈ l, blkJ j set x = true
  yes : 0 ≤ st.1 → st.1 ∈ l ∧ blkJ j set st.1 = false ∧ st.2 = penJ (jb j st.1) t ∧ ∀ x ∈ l, blkJ j set x = false → st.2 ≤ penJ (jb j x) t
theorem lastOk_fold {j : List Job} {set : List Int} {t : Int} : ∀ (l : List Int), (∀ x ∈ l, 0 ≤ x) → LastOk j set t l (l.foldl (lastS j set t) (-1, 0)) := by
  intro l
  induction l using snocRec with
  | nil => exact fun _ => ⟨fun _ => ⟨rfl, by simp⟩, fun h => by simp at h⟩
  | snoc l x ih =>
    intro hpos
    have ih := ih fun y hy => hpos y (by simp [hy])
    have hx := hpos x (by simp)
    rw [foldl_snoc]
    generalize l.foldl (lastS j set t) (-1, 0) = st at *
    unfold lastS
    cases hb : blkJ j set x with
    | true =>
      rw [if_pos rfl]
      refine ⟨fun h => ⟨(ih.no h).1, fun y hy => ?_⟩, fun h => ?_⟩
      · rcases List.mem_append.1 hy with hy | hy
        · exact (ih.no h).2 y hy
        · simp at hy; subst hy; exact hb
      · obtain ⟨h1, h2, h3, h4⟩ := ih.yes h
        refine ⟨by simp [h1], h2, h3, fun y hy hy2 => ?_⟩
        rcases List.mem_append.1 hy with hy | hy
        · exact h4 y hy hy2
        · simp at hy; subst hy; rw [hb] at hy2; cases hy2
    | false =>
      rw [if_neg (by simp)]
      by_cases hc : st.1 < 0 ∨ penJ (jb j x) t ≤ st.2
      · rw [if_pos hc]
        refine ⟨fun h => by simp only at h; omega, fun _ => ⟨by simp, hb, rfl, fun y hy hy2 => ?_⟩⟩
        rcases List.mem_append.1 hy with hy | hy
        · rcases hc with hc | hc
          · rw [(ih.no hc).2 y hy] at hy2; cases hy2
          · by_cases hs : st.1 < 0
            · rw [(ih.no hs).2 y hy] at hy2; cases hy2
            · have := (ih.yes (by omega)).2.2.2 y hy hy2
              simp only; omega
        · simp at hy; subst hy; exact Int.le_refl _
      · rw [if_neg hc]
        refine ⟨fun h => absurd (.inl h) hc, fun h => ?_⟩
        obtain ⟨h1, h2, h3, h4⟩ := ih.yes h
        refine ⟨by simp [h1], h2, h3, fun y hy hy2 => ?_⟩
        rcases List.mem_append.1 hy with hy | hy
        · exact h4 y hy hy2
        · simp at hy; subst hy; omega
/-- Of a set that is not empty one job comes last. -/
theorem lastF_ok {j : List Job} {P : List Nat} (h : Topo j P) (hn : P.length = j.length) {set : List Int} (hs : InJ j set) (hne : set ≠ []) : (lastF j set).1 ∈ set ∧ blkJ j set (lastF j set).1 = false ∧ (lastF j set).2 = penJ (jb j (lastF j set).1) (sumJ j set) ∧ ∀ x ∈ set, blkJ j set x = false → (lastF j set).2 ≤ penJ (jb j x) (sumJ j set) := by
  have hl := lastOk_fold (j := j) (set := set) (t := sumJ j set) set fun x hx => (hs x hx).1
  have : 0 ≤ (lastF j set).1 := by
    by_cases hneg : (lastF j set).1 < 0
    · obtain ⟨x, hx, hb, _⟩ := cand_of h hn hs hne
      rw [(hl.no hneg).2 x hx] at hb; cases hb
    · omega
  exact hl.yes this
end Go.Proofs.Ytmomjannlnafcaa.Abs
namespace Go.Proofs.Ytmomjannlnafcaa.Abs
set_option linter.unusedSimpArgs false
set_option linter.unusedVariables false
structure LS where
  left : List Int
  order : List Int
  prf : List Int
  worst : Int
def lawStep (j : List Job) (s : LS) : LS :=
  ⟨s.left.filter (fun x => !decide (x = (lastF j s.left).1)), s.order ++ [(lastF j s.left).1], if s.worst < (lastF j s.left).2 ∨ s.prf = [] then s.left else s.prf, max s.worst (lastF j s.left).2⟩
def lawN (j : List Job) : Nat → LS
  | 0 => ⟨upI j.length, [], [], 0⟩
  | k + 1 => lawStep j (lawN j k)
/-- The job that step k puts behind the rest, and its penalty. -/
def pk (j : List Job) (k : Nat) : Int × Int := lastF j (lawN j k).left
theorem filter_one {l : List Int} {i : Int} (hn : l.Nodup) (hi : i ∈ l) : (l.filter fun x => !decide (x = i)).length + 1 = l.length := by
  induction l with
  | nil => simp at hi
  | cons x l ih =>
    obtain ⟨n1, n2⟩ := List.nodup_cons.1 hn
    by_cases e : x = i
    · subst e
      have : (l.filter fun y => !decide (y = x)) = l := by
        rw [List.filter_eq_self]
        intro y hy
        have : y ≠ x := fun h => n1 (h ▸ hy)
        simp [this]
      simp [this]
    · have hi' : i ∈ l := by
        rcases List.mem_cons.1 hi with h | h
        · exact absurd h.symm e
        · exact h
      have := ih n2 hi'
      simp [e] at *
      omega
theorem sumJ_list (j : List Job) (set : List Int) : sumJ j set = (set.map fun x => (jb j x).time).sum := by
  unfold sumJ
  have : ∀ n, n ≤ set.length → sm (fun k => (jb j (set.getD k 0)).time) n = ((set.take n).map fun x => (jb j x).time).sum := by
    intro n
    induction n with
    | zero => intro _; simp [sm]
    | succ n ih =>
      intro hn
      rw [take_snoc set n 0 hn, List.map_append, List.sum_append, ← ih (by omega)]
      simp [sm]
  rw [this _ (Nat.le_refl _), List.take_length]
theorem sum_filter {j : List Job} {l : List Int} {i : Int} (hn : l.Nodup) (hi : i ∈ l) : sumJ j (l.filter fun x => !decide (x = i)) = sumJ j l - (jb j i).time := by
  rw [sumJ_list, sumJ_list]
  induction l with
  | nil => simp at hi
  | cons x l ih =>
    obtain ⟨n1, n2⟩ := List.nodup_cons.1 hn
    by_cases e : x = i
    · subst e
      have : (l.filter fun y => !decide (y = x)) = l := by
        rw [List.filter_eq_self]
        intro y hy
        have : y ≠ x := fun h => n1 (h ▸ hy)
        simp [this]
      simp [this]
      omega
    · have hi' : i ∈ l := by
        rcases List.mem_cons.1 hi with h | h
        · exact absurd h.symm e
        · exact h
      have := ih n2 hi'
      simp [e] at *
      omega
theorem filter_more {n : Nat} {left order : List Int} (i : Int) (h : left = (upI n).filter fun x => decide (x ∉ order)) : (left.filter fun x => !decide (x = i)) = (upI n).filter fun x => decide (x ∉ order ++ [i]) := by
  rw [h, List.filter_filter]
  refine List.filter_congr fun x _ => ?_
  simp only [List.mem_append, List.mem_singleton]
  by_cases e1 : x = i <;> by_cases e2 : x ∈ order <;> simp [e1, e2]
structure LawInv (j : List Job) (k : Nat) (s : LS) : Prop where
  olen : s.order.length = k
  ond : s.order.Nodup
  oin : ∀ x ∈ s.order, 0 ≤ x ∧ x < j.length
  left : s.left = (upI j.length).filter fun x => decide (x ∉ s.order)
  llen : s.left.length + k = j.length
theorem LawInv.inj {j : List Job} {k : Nat} {s : LS} (h : LawInv j k s) : InJ j s.left := fun x hx => by
  rw [h.left, List.mem_filter] at hx
  exact mem_upI.1 hx.1
theorem LawInv.nd {j : List Job} {k : Nat} {s : LS} (h : LawInv j k s) : s.left.Nodup := by
  rw [h.left]; exact (upI_nodup _).filter _
theorem LawInv.ne {j : List Job} {k : Nat} {s : LS} (h : LawInv j k s) (hk : k < j.length) : s.left ≠ [] := fun e => by
  have := h.llen
  rw [e] at this; simp at this; omega
section
variable {j : List Job} {P : List Nat}
theorem lawN_inv (hT : Topo j P) (hn : P.length = j.length) : ∀ k, k ≤ j.length → LawInv j k (lawN j k)
  | 0, _ => ⟨rfl, by simp [lawN], by simp [lawN], by simp only [lawN]; exact (List.filter_eq_self.2 (by simp)).symm, by simp [lawN, upI_len]⟩
  | k + 1, hk => by
    have h := lawN_inv hT hn k (by omega)
    obtain ⟨q1, _⟩ := lastF_ok hT hn h.inj (h.ne hk)
    have q2 := h.inj _ q1
    have q3 : (lastF j (lawN j k).left).1 ∉ (lawN j k).order := by
      have := q1
      rw [h.left, List.mem_filter] at this
      rw [← h.left] at this
      simpa using this.2
    refine ⟨?_, ?_, ?_, ?_, ?_⟩
    · simp [lawN, lawStep, h.olen]
    · simp only [lawN, lawStep]
      rw [List.nodup_append]
      exact ⟨h.ond, by simp, fun a ha b hb => by simp at hb; subst hb; exact fun e => q3 (e ▸ ha)⟩
    · simp only [lawN, lawStep]
      intro x hx
      rcases List.mem_append.1 hx with hx | hx
      · exact h.oin x hx
      · simp at hx; subst hx; exact q2
    · simp only [lawN, lawStep]
      exact filter_more _ h.left
    · have := filter_one h.nd q1
      have := h.llen
      simp only [lawN, lawStep]
      omega
theorem pk_ok (hT : Topo j P) (hn : P.length = j.length) {k : Nat} (hk : k < j.length) : (pk j k).1 ∈ (lawN j k).left ∧ blkJ j (lawN j k).left (pk j k).1 = false ∧ (pk j k).2 = penJ (jb j (pk j k).1) (sumJ j (lawN j k).left) ∧ ∀ x ∈ (lawN j k).left, blkJ j (lawN j k).left x = false → (pk j k).2 ≤ penJ (jb j x) (sumJ j (lawN j k).left) :=
  lastF_ok hT hn (lawN_inv hT hn k (by omega)).inj ((lawN_inv hT hn k (by omega)).ne hk)
theorem lawN_order_get (hT : Topo j P) (hn : P.length = j.length) : ∀ k, k ≤ j.length → ∀ i, i < k → (lawN j k).order.getD i 0 = (pk j i).1
  | 0, _, i, hi => by omega
  | k + 1, hk, i, hi => by
    have h := lawN_inv hT hn k (by omega)
    simp only [lawN, lawStep]
    rcases Nat.lt_succ_iff_lt_or_eq.1 hi with h' | h'
    · rw [List.getD_eq_getElem?_getD, List.getElem?_append_left (by rw [h.olen]; exact h'), ← List.getD_eq_getElem?_getD]
      exact lawN_order_get hT hn k (by omega) i h'
    · subst h'
      rw [List.getD_eq_getElem?_getD, List.getElem?_append_right (by rw [h.olen]; exact Nat.le_refl _), h.olen]
      simp [pk]
/-- What proves the greatest penalty. -/
theorem lawN_prf (hT : Topo j P) (hn : P.length = j.length) (hJ : JOk j) : ∀ k, k ≤ j.length → (k = 0 ∧ (lawN j k).prf = [] ∧ (lawN j k).worst = 0) ∨ (0 < k ∧ ∃ s, s < k ∧ (lawN j k).prf = (lawN j s).left ∧ (lawN j k).worst = (pk j s).2)
  | 0, _ => .inl ⟨rfl, rfl, rfl⟩
  | k + 1, hk => by
    right
    refine ⟨by omega, ?_⟩
    have ih := lawN_prf hT hn hJ k (by omega)
    have h := lawN_inv hT hn k (by omega)
    have hp := pk_ok hT hn (k := k) hk
    have hm := h.inj _ hp.1
    have hnum := hJ.num (pk j k).1.toNat (by omega)
    have hp0 : 0 ≤ (pk j k).2 := by
      rw [hp.2.2.1]
      unfold penJ
      exact Int.mul_nonneg hnum.2.2.2.2.1 (by omega)
    simp only [lawN, lawStep]
    by_cases hc : (lawN j k).worst < (lastF j (lawN j k).left).2 ∨ (lawN j k).prf = []
    · rw [if_pos hc]
      refine ⟨k, by omega, rfl, ?_⟩
      show max (lawN j k).worst (pk j k).2 = (pk j k).2
      rcases hc with hc | hc
      · have : (lawN j k).worst < (pk j k).2 := hc
        omega
      · rcases ih with ⟨_, _, hw⟩ | ⟨h0, s, hs, h1, _⟩
        · omega
        · exfalso
          rw [h1] at hc
          exact (lawN_inv hT hn s (by omega)).ne (by omega) hc
    · rw [if_neg hc]
      rcases ih with ⟨_, hw, _⟩ | ⟨_, s, hs, h1, h2⟩
      · exact absurd (.inr hw) hc
      · refine ⟨s, by omega, h1, ?_⟩
        have : ¬ (lawN j k).worst < (pk j k).2 := fun h => hc (.inl h)
        show max (lawN j k).worst (pk j k).2 = _
        omega
end
/-- Lawler's order, its greatest penalty, and what proves it. -/
def lawO (j : List Job) : List Int := (lawN j j.length).order.reverse
def lawW (j : List Job) : Int := (lawN j j.length).worst
def lawP (j : List Job) : List Int := (lawN j j.length).prf
end Go.Proofs.Ytmomjannlnafcaa.Abs
namespace Go.Proofs.Ytmomjannlnafcaa.Abs
set_option linter.unusedSimpArgs false
set_option linter.unusedVariables false
open Go.RowKit
open Go.Proofs.Ytmomjannlnafcaa.Sim
open Go.Proofs
/-- A row of which i places at each end are exchanged. -/
def rvT (A : List Int) (i : Nat) : List Int := tab (fun k => if k < i ∨ A.length ≤ k + i then A.getD (A.length - 1 - k) 0 else A.getD k 0) A.length
theorem rvT_len (A : List Int) (i : Nat) : (rvT A i).length = A.length := tab_len _ _
theorem ext_getDI {l k : List Int} (hl : l.length = k.length) (h : ∀ i, i < l.length → l.getD i 0 = k.getD i 0) : l = k :=
  List.ext_getElem hl fun i h1 h2 => by
    have := h i h1
    simpa [h1, h2] using this
theorem rvT_zero (A : List Int) : rvT A 0 = A := by
  refine ext_getDI (by rw [rvT_len]) fun k h1 => ?_
  rw [rvT_len] at h1
  unfold rvT
  rw [tab_get _ h1, if_neg (by omega)]
theorem rvT_end {A : List Int} {i : Nat} (h : A.length ≤ 2 * i + 1) : rvT A i = A.reverse := by
  refine ext_getDI (by rw [rvT_len, List.length_reverse]) fun k h1 => ?_
  rw [rvT_len] at h1
  unfold rvT
  rw [tab_get _ h1]
  have e : A.reverse.getD k 0 = A.getD (A.length - 1 - k) 0 := by
    rw [List.getD_eq_getElem?_getD, List.getD_eq_getElem?_getD, List.getElem?_reverse h1]
  rw [e]
  by_cases hc : k < i ∨ A.length ≤ k + i
  · rw [if_pos hc]
  · rw [if_neg hc, show A.length - 1 - k = k by omega]
theorem rvT_step {A : List Int} {i q : Nat} (hq : i + q + 1 = A.length) (hlt : i < q) : ((rvT A i).set i (A.getD q 0)).set q (A.getD i 0) = rvT A (i + 1) := by
  unfold rvT
  rw [tab_set, tab_set]
  refine tab_congr fun k hk => ?_
  by_cases e1 : k = q
  · subst e1
    rw [if_pos rfl, if_pos (by omega), show A.length - 1 - k = i by omega]
  · rw [if_neg e1]
    by_cases e2 : k = i
    · subst e2
      rw [if_pos rfl, if_pos (by omega), show A.length - 1 - k = q by omega]
    · rw [if_neg e2]
      by_cases hc : k < i ∨ A.length ≤ k + i
      · rw [if_pos hc, if_pos (by omega)]
      · rw [if_neg hc, if_neg (by omega)]
theorem rvT_get {A : List Int} {i k : Nat} (h1 : i ≤ k) (h2 : k + i < A.length) : (rvT A i).getD k 0 = A.getD k 0 := by
  unfold rvT
  rw [tab_get _ (by omega), if_neg (by omega)]
section
variable {m : AM} {r s : Nat} {kd : Kind}
set_option maxRecDepth 100000 in
theorem reverse_ok {A : List Int} {n c : Nat} (hr : r < m.length) (hkd : kd.solid = true) (hA : A.length = n) (hnc : n ≤ c) (hc : c ≤ 1000000) :
    ACall Try.prog 110 #[.slice (some ⟨r, 0, none⟩) n c] (St m r kd s A) (Ret (.tuple #[]) (St m r kd s A.reverse)) := by
  subst hA
  have hsl : Sl (.slice (some ⟨r, 0, none⟩) A.length c) r 0 A.length := Sl.mk hnc
  refine ACall.intro Try.func110 rfl (Nat.le_of_ble_eq_true rfl) ?_
  (repeat (first | (with_reducible refine AWo.cons ?_) | ((with_reducible refine Step.id ?_); first | ((with_reducible apply Step.move); exact rfl; exact rfl) | ((with_reducible apply Step.assign); exact rfl; exact rfl) | ((with_reducible apply Step.sub); exact rfl; exact rfl; (focus (omega)); exact rfl) | ((with_reducible apply Step.len); exact rfl; (focus (assumption)); (focus (decide +kernel)); exact rfl)) | (with_reducible refine AWo.nil ?_) | ((with_reducible apply AW.seq)) | ((with_reducible apply Then.n)) | ((with_reducible apply AW.regL)) | ((with_reducible apply AW.block))))
  refine AW.loopW (fun u t M => ∃ (i : Nat) (y : Int), u = A.length - i ∧ i ≤ A.length ∧ y = (A.length : Int) - 1 - i ∧ t = fr [(0, .slice (some ⟨r, 0, none⟩) A.length c), (2, .int .i64 ((i : Nat) : Int)), (3, .int .i64 y)] ∧ M = St m r kd s (rvT A i))
    ⟨_, _, (by repeat (first | exact trivial | (refine And.intro rfl ?_))), 0, _, rfl, Nat.zero_le _, by simp, rfl, by rw [rvT_zero]⟩ ?_
  rintro u t M ⟨i, y, rfl, hi, hy, rfl, rfl⟩
  by_cases hc' : (i : Int) < y
  · obtain ⟨q, rfl⟩ : ∃ q : Nat, y = (q : Int) := ⟨y.toNat, by omega⟩
    have g1 := rvT_get (A := A) (i := i) (k := q) (by omega) (by omega)
    have g2 := rvT_get (A := A) (i := i) (k := i) (by omega) (by omega)
    have st := rvT_step (A := A) (i := i) (q := q) (by omega) (by omega)
    have hl := rvT_len A i
    have r1 : Rd (St m r kd s (rvT A i)) r q (.int .i64 (A.getD q 0)) := by rw [← g1]; exact St.rd hr (by omega)
    have r2 : Rd (St m r kd s (rvT A i)) r i (.int .i64 (A.getD i 0)) := by rw [← g2]; exact St.rd hr (by omega)
    generalize hrow : rvT A i = row at *
    have hl2 : (row.set i (A.getD q 0)).length = A.length := by rw [List.length_set, hl]
    (repeat (first | (with_reducible refine AWo.cons ?_) | ((with_reducible refine Step.id ?_); first | ((with_reducible apply Step.move); exact rfl; exact rfl) | ((with_reducible apply Step.assign); exact rfl; exact rfl) | ((with_reducible apply Step.load); exact rfl; (focus (decide +kernel)); exact rfl; (focus (assumption))) | ((with_reducible apply Step.ix1z); exact rfl; (focus (assumption)); exact rfl; (focus (decide +kernel)); exact rfl; (focus (omega))) | ((with_reducible apply Step.add); exact rfl; exact rfl; (focus (omega)); exact rfl) | ((with_reducible apply Step.sub); exact rfl; exact rfl; (focus (omega)); exact rfl) | ((with_reducible apply Step.lss); exact rfl; exact rfl; exact rfl) | ((with_reducible apply Step.storeR); exact rfl; exact rfl; (focus (decide +kernel)); exact hr; exact hkd; (focus (first | omega | (simp [swp, ms_len]; omega))); exact rfl)) | (with_reducible refine AWo.nil ?_) | ((with_reducible apply AW.seq)) | ((with_reducible apply Then.n)) | ((with_reducible apply AW.regL)) | ((with_reducible apply AW.block)) | ((with_reducible apply AW.drawL fit); (focus (decide +kernel))) | ((with_reducible apply InBlk.n)) | ((with_reducible apply AW.skip)) | ((with_reducible apply AW.condT); exact rfl; (focus ((simp only [decide_eq_true_eq, decide_eq_false_iff_not, Bool.not_eq_true', Bool.not_eq_false', Bool.not_true, Bool.not_false]; first | assumption | omega))))))
    exact ⟨_, [(0, .slice (some ⟨r, 0, none⟩) A.length c), (2, .int .i64 ((i + 1 : Nat) : Int)), (3, .int .i64 ((q : Int) - 1))], by omega, (by repeat (first | exact trivial | (refine And.intro rfl ?_))), i + 1, (q : Int) - 1, rfl, by omega, by omega, rfl, by rw [st]⟩
  · (repeat (first | (with_reducible refine AWo.cons ?_) | ((with_reducible refine Step.id ?_); first | ((with_reducible apply Step.move); exact rfl; exact rfl) | ((with_reducible apply Step.lss); exact rfl; exact rfl; exact rfl)) | (with_reducible refine AWo.nil ?_) | ((with_reducible apply AW.seq)) | ((with_reducible apply Then.n)) | ((with_reducible apply AW.regL)) | ((with_reducible apply AW.exit)) | ((with_reducible apply InBlk.hit)) | ((with_reducible apply Then.e)) | ((with_reducible apply AW.condF); exact rfl; (focus ((simp only [decide_eq_true_eq, decide_eq_false_iff_not, Bool.not_eq_true', Bool.not_eq_false', Bool.not_true, Bool.not_false]; first | assumption | omega))))))
    exact ⟨_, rfl, rfl, by rw [rvT_end (by omega)]⟩
end
set_option maxRecDepth 100000 in
theorem reverse_nil {m : AM} : ACall Try.prog 110 #[.slice none 0 0] m (Ret (.tuple #[]) m) := by
  refine ACall.start Try.func110 rfl rfl ?_
  (repeat (first | (with_reducible refine AWo.cons ?_) | ((with_reducible refine Step.id ?_); first | ((with_reducible apply Step.move); exact rfl; exact rfl) | ((with_reducible apply Step.assign); exact rfl; exact rfl) | ((with_reducible apply Step.sub); exact rfl; exact rfl; (focus (omega)); exact rfl) | ((with_reducible apply Step.len); exact rfl; (focus (exact Sl.nil 0 0)); (focus (decide +kernel)); exact rfl)) | (with_reducible refine AWo.nil ?_) | ((with_reducible apply AW.seq)) | ((with_reducible apply Then.n)) | ((with_reducible apply AW.regL)) | ((with_reducible apply AW.block))))
  refine AW.loopT (fun n t L => L = [] ∧ t = [(2, .int .i64 0), (3, .int .i64 (-1))]) ⟨0, _, _, (Or.inl ⟨rfl, (by repeat (first | exact trivial | (refine And.intro rfl ?_)))⟩), rfl, rfl⟩ ?_
  rintro n t L ⟨rfl, rfl⟩
  (repeat (first | (with_reducible refine AWo.cons ?_) | ((with_reducible refine Step.id ?_); first | ((with_reducible apply Step.move); exact rfl; exact rfl) | ((with_reducible apply Step.lss); exact rfl; exact rfl; exact rfl)) | (with_reducible refine AWo.nil ?_) | ((with_reducible apply AW.seq)) | ((with_reducible apply Then.n)) | ((with_reducible apply AW.regL)) | ((with_reducible apply AW.exit)) | ((with_reducible apply InBlk.hit)) | ((with_reducible apply Then.e)) | ((with_reducible apply AW.condF); exact rfl; (focus (rfl)))))
  exact ⟨_, rfl, rfl, by simp⟩
set_option maxRecDepth 100000 in
theorem f109_ok {m : AM} {p : Nat} (x i : Int) (hp : Rd m p 0 (.int .i64 i)) : ACall Try.prog 109 #[.int .i64 x, .pointer (some ⟨p, 0, none⟩)] m (Ret (.bool (decide (x = i))) m) := by
  refine ACall.start Try.func109 rfl rfl ?_
  rw [← List.append_nil m] at hp
  (repeat (first | (with_reducible refine AWo.cons ?_) | ((with_reducible refine Step.id ?_); first | ((with_reducible apply Step.move); exact rfl; exact rfl) | ((with_reducible apply Step.assign); exact rfl; exact rfl) | ((with_reducible apply Step.load); exact rfl; (focus (decide +kernel)); exact rfl; (focus (assumption))) | ((with_reducible apply Step.eql); exact rfl; exact rfl; exact rfl)) | (with_reducible refine AWo.nil ?_) | ((with_reducible apply AW.seq)) | ((with_reducible apply Then.n)) | ((with_reducible apply AW.regL))))
  (refine AW.retD (l := [(3, _)]) (by repeat (first | exact trivial | (refine And.intro ⟨rfl, by (exact .bool _)⟩ ?_))) ?_; (repeat (first | refine Then.r ?_ | refine InBlk.r ?_)))
  exact ⟨_, rfl, rfl, rfl⟩
/-- The deletion of one job from what is left, in a memory of which the first block is the row. -/
theorem del_one {M L : AM} {c p : Nat} {A Z : List Int} (i : Int) (h0 : L[0]? = some (some { cells := iv (A ++ Z) })) (hp : L[p]? = some (some { cells := [.int .i64 i] })) (hp0 : p ≠ 0) (hnc : A.length ≤ c) (hc : c ≤ 1000000) :
    ACall Try.prog 82 #[.slice (some ⟨M.length + 0, 0, none⟩) A.length c, .func (.func 109) #[] #[.pointer (some ⟨M.length + p, 0, none⟩)]] (M ++ L) (Ret (.slice (some ⟨M.length + 0, 0, none⟩) (A.filter fun x => !decide (x = i)).length c) (M ++ L.set 0 (some { cells := iv ((A.filter fun x => !decide (x = i)) ++ List.replicate (A.length - (A.filter fun x => !decide (x = i)).length) 0 ++ Z) }))) := by
  have hlt : M.length + 0 < (M ++ L).length := by have := (List.getElem?_eq_some_iff.1 h0).1; simp; omega
  have hd := delete_ok (m := M ++ L) (r := M.length + 0) (s := 1) (kd := .own) (A := A) (Z := Z) (c := c) (g := 109) (cap := #[.pointer (some ⟨M.length + p, 0, none⟩)]) (fun x => decide (x = i)) hlt rfl Try.func109 rfl rfl hnc hc
    (fun row x _ => f109_ok x i (St.rd_ne (Rd.new hp rfl) (by omega)))
  rw [St.self (by rw [get_app]; exact h0)] at hd
  have hset : St (M ++ L) (M.length + 0) .own 1 ((A.filter fun x => !decide (x = i)) ++ List.replicate (A.length - (A.filter fun x => !decide (x = i)).length) 0 ++ Z) = M ++ L.set 0 (some { cells := iv ((A.filter fun x => !decide (x = i)) ++ List.replicate (A.length - (A.filter fun x => !decide (x = i)).length) 0 ++ Z) }) := by
    unfold St; rw [set_app]
  rw [hset] at hd
  exact hd
set_option maxHeartbeats 4000000 in
set_option maxRecDepth 100000 in
theorem lawler_ok {m : AM} {v : Value} {j : List Job} (hj : Jobs m v j) (hJ : JOk j) (hn : (sortL j).length = j.length) :
    ACall Try.prog 85 #[v] m (NewL (fun N => .tuple #[gv N j.length, .int .i64 (lawW j), gv (N + 1) (lawP j).length]) [gb (iv (lawO j)) 1, gb (iv (lawP j)) 1] m) := by
  have hT := sortL_topo j
  have h40 := hJ.len
  obtain ⟨a, o, h1, h2, h3⟩ := id hj
  refine ACall.start Try.func85 rfl rfl ?_
  (repeat (first | (with_reducible refine AWo.cons ?_) | ((with_reducible refine Step.id ?_); first | ((with_reducible apply Step.move); exact rfl; exact rfl) | ((with_reducible apply Step.assign); exact rfl; exact rfl) | ((with_reducible apply Step.len); exact rfl; (focus (assumption)); (focus (decide +kernel)); exact rfl) | ((with_reducible apply Step.callN fit (k := 0)); exact rfl; exact rfl; exact Try.func83; exact rfl; exact rfl; exact (upTo_ok _ (by omega)); (focus (first | (simp only [List.nil_append, List.cons_append, List.set_cons_zero, List.set_cons_succ, iv_set, bv_set, iv_rep, bv_rep]; done) | (simp only [List.nil_append, List.cons_append, List.set_cons_zero, List.set_cons_succ, iv_set, bv_set, iv_rep, bv_rep]; rfl) | rfl)))) | (with_reducible refine AWo.nil ?_) | ((with_reducible apply AW.seq)) | ((with_reducible apply Then.n)) | ((with_reducible apply AW.regL)) | ((with_reducible apply AW.block))))
  refine AW.pad [(0, v), (2, .slice none 0 0), (3, .int .i64 0), (4, .slice none 0 0), (5, .slice (some ⟨m.length + 0, 0, none⟩) j.length j.length)] (by repeat (first | exact trivial | (refine And.intro ⟨rfl, by (first | exact .int _ _ | exact Ren.of_g0 rfl | exact .slice _ _ _ _ (by first | (simp; done) | omega | (simp; omega)) | exact Ren.of_sl (by assumption) (by first | omega | (simp; omega)))⟩ ?_))) (CellsP.cons (cells_iv _) CellsP.nil) ?_
  refine AW.loopT (fun n' t L => ∃ k : Nat, n' = j.length - k ∧ k ≤ j.length ∧ L = [some { cells := iv ((lawN j k).left ++ List.replicate k 0) }, gb (iv (lawN j k).order) 1, gb (iv (lawN j k).prf) 1] ∧
    t = [(0, v), (2, gv (m.length + 1) k), (3, .int .i64 (lawN j k).worst), (4, gv (m.length + 2) (lawN j k).prf.length), (5, .slice (some ⟨m.length + 0, 0, none⟩) (j.length - k) j.length)])
    ⟨_, [(0, v), (2, .slice none 0 0), (3, .int .i64 0), (4, .slice none 0 0), (5, .slice (some ⟨m.length + 0, 0, none⟩) j.length j.length)], [some { cells := iv (upI j.length) }, none] ++ [none], (Back.padC rfl (by repeat (first | exact trivial | (refine And.intro ⟨rfl, by (first | exact .int _ _ | exact Ren.of_g0 rfl | exact .slice _ _ _ _ (by first | (simp; done) | omega | (simp; omega)) | exact Ren.of_sl (by assumption) (by first | omega | (simp; omega)))⟩ ?_))) (by repeat (first | exact CellsP.nil | refine CellsP.none ?_ | (refine CellsP.cons ?_ ?_; (focus (exact cells_iv _)))))), 0, rfl, Nat.zero_le _, by simp [lawN]; rfl, by simp [lawN, gv]⟩ ?_
  rintro n' t L ⟨k, rfl, hk, rfl, rfl⟩
  have inv := lawN_inv hT hn k hk
  have ll := inv.llen
  have ol := inv.olen
  rcases Nat.lt_or_ge k j.length with hlt | hge
  · obtain ⟨p1, p2, p3, p4⟩ := pk_ok hT hn hlt
    have hin := inv.inj _ p1
    have inv2 := lawN_inv hT hn (k + 1) hlt
    have ll2 := inv2.llen
    have eL : (lawN j (k + 1)).left = (lawN j k).left.filter fun x => !decide (x = (pk j k).1) := rfl
    have eO : (lawN j (k + 1)).order = (lawN j k).order ++ [(pk j k).1] := rfl
    have eP : (lawN j (k + 1)).prf = if (lawN j k).worst < (pk j k).2 ∨ (lawN j k).prf = [] then (lawN j k).left else (lawN j k).prf := rfl
    have eW : (lawN j (k + 1)).worst = max (lawN j k).worst (pk j k).2 := rfl
    have hp0 : 0 ≤ (pk j k).2 := by
      have hnum := hJ.num (pk j k).1.toNat (by omega)
      rw [p3]
      exact Int.mul_nonneg hnum.2.2.2.2.1 (by omega)
    have hpk : lastF j (lawN j k).left = pk j k := rfl
    have injL := inv.inj
    clear p2 p3 p4 inv inv2
    generalize hs2 : lawN j (k + 1) = s2 at *
    generalize pk j k = q at *
    generalize lawN j k = s1 at *
    obtain ⟨left, order, prf, worst⟩ := s1
    obtain ⟨left2, order2, prf2, worst2⟩ := s2
    obtain ⟨i, p⟩ := q
    simp only at *
    have hlk : j.length - k = left.length := by omega
    have hol : (iv order).length = k * 1 := by rw [iv_len]; omega
    have hLast := fun (L : AM) (h : L[0]? = some (some { cells := iv (left ++ List.replicate k 0) })) => last_ok (m := m ++ L) (u := .slice (some ⟨m.length + 0, 0, none⟩) (j.length - k) j.length) (hj.old L) (ints_pre (k := 0) (A := left) (Z := List.replicate k 0) h rfl hlk (by omega)) hJ injL (by omega) hpk
    rw [hlk] at hLast ⊢
    have hfl : (left.filter fun x => !decide (x = i)).length = left.length - 1 := by rw [← eL]; omega
    have hz : (left.filter fun x => !decide (x = i)) ++ List.replicate (left.length - (left.filter fun x => !decide (x = i)).length) 0 ++ List.replicate k 0 = left2 ++ List.replicate (k + 1) 0 := by
      rw [← eL, List.append_assoc, List.replicate_append_replicate]
      congr 2; omega
    have hne : left ≠ [] := fun e => by rw [e] at hlk; simp at hlk; omega
    have hg0 : ∀ v ∈ iv order ++ [Value.int .i64 i], g0 v = true := fun v hv => by
      rcases List.mem_append.1 hv with h | h
      · exact g0_iv _ v h
      · obtain rfl : v = Value.int .i64 i := by simpa using h
        rfl
    by_cases hc : worst < p ∨ prf = []
    · rw [if_pos hc] at eP
      have cl := clone_pos (m := m ++ [some { cells := iv (left ++ List.replicate k 0) }, gb (iv order) 1, gb (iv prf) 1, some { cells := [.int .i64 i] }]) (v := .slice (some ⟨m.length + 0, 0, none⟩) left.length j.length) (ints_pre (k := 0) (A := left) (Z := List.replicate k 0) rfl rfl rfl (by omega)) (by omega) (by omega)
      have dl := del_one (M := m) (L := [some { cells := iv (left ++ List.replicate k 0) }, none, gb (iv prf) 1, some { cells := [.int .i64 i] }, some { cells := iv left, kind := .grow, size := 1 }, some { cells := [.int .i64 i] }, some { cells := iv order ++ [.int .i64 i], kind := .grow, size := 1 }]) (c := j.length) (p := 3) (A := left) (Z := List.replicate k 0) i rfl rfl (by omega) (by omega) (by omega)
      rw [hz, hfl] at dl
      by_cases hw : worst < p
      · (repeat (first | (with_reducible refine AWo.cons ?_) | ((with_reducible refine Step.id ?_); first | ((with_reducible apply Step.gdF); exact rfl; exact rfl; (focus ((simp only [decide_eq_true_eq, decide_eq_false_iff_not, Bool.not_eq_true', Bool.not_eq_false', Bool.not_true, Bool.not_false]; first | assumption | omega)))) | ((with_reducible apply Step.move); exact rfl; exact rfl) | ((with_reducible apply Step.assign); exact rfl; exact rfl) | ((with_reducible apply Step.load); exact rfl; (focus (decide +kernel)); exact rfl; (focus (exact Rd.new rfl rfl))) | ((with_reducible apply Step.gtr); exact rfl; exact rfl; exact rfl) | ((with_reducible apply Step.len); exact rfl; (focus (exact Sl.mk (by omega))); (focus (decide +kernel)); exact rfl) | ((with_reducible apply Step.max); exact rfl; exact rfl; exact rfl) | ((with_reducible apply Step.extract); exact rfl; exact rfl; exact rfl) | ((with_reducible apply Step.pickT); exact rfl; exact rfl; exact rfl; exact rfl; (focus ((simp only [decide_eq_true_eq, decide_eq_false_iff_not, Bool.not_eq_true', Bool.not_eq_false', Bool.not_true, Bool.not_false]; first | assumption | omega)))) | ((with_reducible apply Step.callR fit); exact rfl; exact Try.func89; exact rfl; exact rfl; exact (hLast _ rfl)) | ((with_reducible apply Step.callN fit (k := 4)); exact rfl; exact rfl; exact Try.func77; exact rfl; exact rfl; exact (cl); (focus (first | (simp only [List.nil_append, List.cons_append, List.set_cons_zero, List.set_cons_succ, iv_set, bv_set, iv_rep, bv_rep]; done) | (simp only [List.nil_append, List.cons_append, List.set_cons_zero, List.set_cons_succ, iv_set, bv_set, iv_rep, bv_rep]; rfl) | rfl))) | ((with_reducible apply Step.alloc 3); exact rfl; exact ze3; exact rfl; (focus (first | (simp only [List.nil_append, List.cons_append, List.set_cons_zero, List.set_cons_succ, iv_set, bv_set, iv_rep, bv_rep]; done) | (simp only [List.nil_append, List.cons_append, List.set_cons_zero, List.set_cons_succ, iv_set, bv_set, iv_rep, bv_rep]; rfl) | rfl))) | ((with_reducible apply Step.store (k := 3)); exact rfl; exact rfl; exact rfl; exact rfl; (focus (decide +kernel)); exact rfl; exact rfl; (focus (first | omega | (simp [iv, bv]; done) | (simp [iv, bv]; omega))); (focus (first | (simp only [List.nil_append, List.cons_append, List.set_cons_zero, List.set_cons_succ, iv_set, bv_set, iv_rep, bv_rep]; done) | (simp only [List.nil_append, List.cons_append, List.set_cons_zero, List.set_cons_succ, iv_set, bv_set, iv_rep, bv_rep]; rfl) | rfl))) | ((with_reducible apply Step.buildS 5); exact rfl; exact rfl; exact (fun _ _ => bs23x); exact rfl; (focus (first | (simp only [List.nil_append, List.cons_append, List.set_cons_zero, List.set_cons_succ, iv_set, bv_set, iv_rep, bv_rep]; done) | (simp only [List.nil_append, List.cons_append, List.set_cons_zero, List.set_cons_succ, iv_set, bv_set, iv_rep, bv_rep]; rfl) | rfl)))) | (with_reducible refine AWo.nil ?_) | ((with_reducible apply AW.seq)) | ((with_reducible apply Then.n)) | ((with_reducible apply AW.regL)) | ((with_reducible apply AW.block)) | ((with_reducible apply AW.skip)) | ((with_reducible apply AW.condT); exact rfl; (focus (first | rfl | (simp only [decide_eq_true_eq, decide_eq_false_iff_not, Bool.not_eq_true', Bool.not_eq_false', Bool.not_true, Bool.not_false]; first | assumption | omega))))))
        ((with_reducible apply Step.appG (k := 6)); exact rfl; exact rfl; exact rfl; exact el23; exact un23; exact rfl; exact rfl; exact rfl; exact hol; exact rfl; exact rfl; exact rfl; (focus (omega)); exact rfl; (focus (first | (simp only [List.nil_append, List.cons_append, List.set_cons_zero, List.set_cons_succ, iv_set, bv_set, iv_rep, bv_rep]; done) | (simp only [List.nil_append, List.cons_append, List.set_cons_zero, List.set_cons_succ, iv_set, bv_set, iv_rep, bv_rep]; rfl) | rfl)))
        (repeat (first | (with_reducible refine AWo.cons ?_) | ((with_reducible refine Step.id ?_); first | ((with_reducible apply Step.move); exact rfl; exact rfl) | ((with_reducible apply Step.assign); exact rfl; exact rfl) | ((with_reducible apply Step.fn); exact rfl; exact rfl; exact rfl) | ((with_reducible apply Step.callM fit); exact rfl; exact Try.func82; exact rfl; exact rfl; exact (dl))) | (with_reducible refine AWo.nil ?_) | ((with_reducible apply Then.n)) | ((with_reducible apply AW.regL)) | ((with_reducible apply InBlk.n))))
        refine ⟨_, [(0, v), (2, .slice (some ⟨m.length + 1, 0, none⟩) (k + 1) (k + 1)), (3, .int .i64 (max worst p)), (4, .slice (some ⟨m.length + 2, 0, none⟩) left.length left.length), (5, .slice (some ⟨m.length + 0, 0, none⟩) (left.length - 1) j.length)], [some { cells := iv (left2 ++ List.replicate (k + 1) 0) }, some { cells := iv order ++ [.int .i64 i], kind := .grow, size := 1 }, some { cells := iv left, kind := .grow, size := 1 }], ?_, (Or.inr (by refine Gc.perm [0,6,4] rfl (by decide) ?_ (CellsOk.ren ?_) ?_; (focus (intro p hp; rcases p with _ | _ | _ | p <;> first | rfl | exact absurd hp (lenB (n := 3) rfl))); (focus (repeat (first | exact CellsOk.nil | refine CellsOk.cons (by first | assumption | exact g0_iv _) ?_))); (focus ((repeat (first | exact trivial | (refine And.intro ⟨_, rfl, ?_⟩ ?_; (focus (first | exact .int _ _ | (refine Ren.slice_sg ?_; (focus (first | (simp; done) | omega | (simp; omega)))) | (refine Ren.of_sl_sg (by assumption) ?_ ?_; (focus (first | (simp; done) | omega | (simp; omega))); (focus (simp; done)))))))); done)))), k + 1, rfl, hlt, ?_, ?_⟩
        · omega
        · rw [hs2]; simp only; rw [eO, eP, gb_pos (c := iv left) (by rw [iv_len]; omega), gb_pos (by simp [iv])]; simp [iv]
        · rw [hs2]; simp only; rw [eW, eP, gv_pos (by omega), gv_pos (by omega), show j.length - (k + 1) = left.length - 1 by omega]
      · have hpn : prf = [] := hc.resolve_left hw
        subst hpn
        (repeat (first | (with_reducible refine AWo.cons ?_) | ((with_reducible refine Step.id ?_); first | ((with_reducible apply Step.gdT); exact rfl; exact rfl; (focus ((simp only [decide_eq_true_eq, decide_eq_false_iff_not, Bool.not_eq_true', Bool.not_eq_false', Bool.not_true, Bool.not_false]; first | assumption | omega)))) | ((with_reducible apply Step.move); exact rfl; exact rfl) | ((with_reducible apply Step.assign); exact rfl; exact rfl) | ((with_reducible apply Step.load); exact rfl; (focus (decide +kernel)); exact rfl; (focus (exact Rd.new rfl rfl))) | ((with_reducible apply Step.gtr); exact rfl; exact rfl; exact rfl) | ((with_reducible apply Step.nilNil); exact rfl; exact rfl; exact un23; exact rfl) | ((with_reducible apply Step.len); exact rfl; (focus (exact Sl.mk (by omega))); (focus (decide +kernel)); exact rfl) | ((with_reducible apply Step.max); exact rfl; exact rfl; exact rfl) | ((with_reducible apply Step.extract); exact rfl; exact rfl; exact rfl) | ((with_reducible apply Step.pickF); exact rfl; exact rfl; exact rfl; exact rfl; (focus ((simp only [decide_eq_true_eq, decide_eq_false_iff_not, Bool.not_eq_true', Bool.not_eq_false', Bool.not_true, Bool.not_false]; first | assumption | omega)))) | ((with_reducible apply Step.callR fit); exact rfl; exact Try.func89; exact rfl; exact rfl; exact (hLast _ rfl)) | ((with_reducible apply Step.callN fit (k := 4)); exact rfl; exact rfl; exact Try.func77; exact rfl; exact rfl; exact (cl); (focus (first | (simp only [List.nil_append, List.cons_append, List.set_cons_zero, List.set_cons_succ, iv_set, bv_set, iv_rep, bv_rep]; done) | (simp only [List.nil_append, List.cons_append, List.set_cons_zero, List.set_cons_succ, iv_set, bv_set, iv_rep, bv_rep]; rfl) | rfl))) | ((with_reducible apply Step.alloc 3); exact rfl; exact ze3; exact rfl; (focus (first | (simp only [List.nil_append, List.cons_append, List.set_cons_zero, List.set_cons_succ, iv_set, bv_set, iv_rep, bv_rep]; done) | (simp only [List.nil_append, List.cons_append, List.set_cons_zero, List.set_cons_succ, iv_set, bv_set, iv_rep, bv_rep]; rfl) | rfl))) | ((with_reducible apply Step.store (k := 3)); exact rfl; exact rfl; exact rfl; exact rfl; (focus (decide +kernel)); exact rfl; exact rfl; (focus (first | omega | (simp [iv, bv]; done) | (simp [iv, bv]; omega))); (focus (first | (simp only [List.nil_append, List.cons_append, List.set_cons_zero, List.set_cons_succ, iv_set, bv_set, iv_rep, bv_rep]; done) | (simp only [List.nil_append, List.cons_append, List.set_cons_zero, List.set_cons_succ, iv_set, bv_set, iv_rep, bv_rep]; rfl) | rfl))) | ((with_reducible apply Step.buildS 5); exact rfl; exact rfl; exact (fun _ _ => bs23x); exact rfl; (focus (first | (simp only [List.nil_append, List.cons_append, List.set_cons_zero, List.set_cons_succ, iv_set, bv_set, iv_rep, bv_rep]; done) | (simp only [List.nil_append, List.cons_append, List.set_cons_zero, List.set_cons_succ, iv_set, bv_set, iv_rep, bv_rep]; rfl) | rfl)))) | (with_reducible refine AWo.nil ?_) | ((with_reducible apply AW.seq)) | ((with_reducible apply Then.n)) | ((with_reducible apply AW.regL)) | ((with_reducible apply AW.block)) | ((with_reducible apply AW.skip)) | ((with_reducible apply AW.condT); exact rfl; (focus (first | rfl | (simp only [decide_eq_true_eq, decide_eq_false_iff_not, Bool.not_eq_true', Bool.not_eq_false', Bool.not_true, Bool.not_false]; first | assumption | omega))))))
        ((with_reducible apply Step.appG (k := 6)); exact rfl; exact rfl; exact rfl; exact el23; exact un23; exact rfl; exact rfl; exact rfl; exact hol; exact rfl; exact rfl; exact rfl; (focus (omega)); exact rfl; (focus (first | (simp only [List.nil_append, List.cons_append, List.set_cons_zero, List.set_cons_succ, iv_set, bv_set, iv_rep, bv_rep]; done) | (simp only [List.nil_append, List.cons_append, List.set_cons_zero, List.set_cons_succ, iv_set, bv_set, iv_rep, bv_rep]; rfl) | rfl)))
        (repeat (first | (with_reducible refine AWo.cons ?_) | ((with_reducible refine Step.id ?_); first | ((with_reducible apply Step.move); exact rfl; exact rfl) | ((with_reducible apply Step.assign); exact rfl; exact rfl) | ((with_reducible apply Step.fn); exact rfl; exact rfl; exact rfl) | ((with_reducible apply Step.callM fit); exact rfl; exact Try.func82; exact rfl; exact rfl; exact (dl))) | (with_reducible refine AWo.nil ?_) | ((with_reducible apply Then.n)) | ((with_reducible apply AW.regL)) | ((with_reducible apply InBlk.n))))
        refine ⟨_, [(0, v), (2, .slice (some ⟨m.length + 1, 0, none⟩) (k + 1) (k + 1)), (3, .int .i64 (max worst p)), (4, .slice (some ⟨m.length + 2, 0, none⟩) left.length left.length), (5, .slice (some ⟨m.length + 0, 0, none⟩) (left.length - 1) j.length)], [some { cells := iv (left2 ++ List.replicate (k + 1) 0) }, some { cells := iv order ++ [.int .i64 i], kind := .grow, size := 1 }, some { cells := iv left, kind := .grow, size := 1 }], ?_, (Or.inr (by refine Gc.perm [0,6,4] rfl (by decide) ?_ (CellsOk.ren ?_) ?_; (focus (intro p hp; rcases p with _ | _ | _ | p <;> first | rfl | exact absurd hp (lenB (n := 3) rfl))); (focus (repeat (first | exact CellsOk.nil | refine CellsOk.cons (by first | assumption | exact g0_iv _) ?_))); (focus ((repeat (first | exact trivial | (refine And.intro ⟨_, rfl, ?_⟩ ?_; (focus (first | exact .int _ _ | (refine Ren.slice_sg ?_; (focus (first | (simp; done) | omega | (simp; omega)))) | (refine Ren.of_sl_sg (by assumption) ?_ ?_; (focus (first | (simp; done) | omega | (simp; omega))); (focus (simp; done)))))))); done)))), k + 1, rfl, hlt, ?_, ?_⟩
        · omega
        · rw [hs2]; simp only; rw [eO, eP, gb_pos (c := iv left) (by rw [iv_len]; omega), gb_pos (by simp [iv])]; simp [iv]
        · rw [hs2]; simp only; rw [eW, eP, gv_pos (by omega), gv_pos (by omega), show j.length - (k + 1) = left.length - 1 by omega]
    · rw [if_neg hc] at eP
      have hw : ¬ worst < p := fun h => hc (.inl h)
      obtain ⟨y, ys, rfl⟩ : ∃ y ys, prf = y :: ys := by cases prf with | nil => exact absurd (.inr rfl) hc | cons y ys => exact ⟨y, ys, rfl⟩
      have dl := del_one (M := m) (L := [some { cells := iv (left ++ List.replicate k 0) }, none, gb (iv (y :: ys)) 1, some { cells := [.int .i64 i] }, some { cells := [.int .i64 i] }, some { cells := iv order ++ [.int .i64 i], kind := .grow, size := 1 }]) (c := j.length) (p := 3) (A := left) (Z := List.replicate k 0) i rfl rfl (by omega) (by omega) (by omega)
      rw [hz, hfl] at dl
      rw [gv_pos (n := (y :: ys).length) (by simp)]
      (repeat (first | (with_reducible refine AWo.cons ?_) | ((with_reducible refine Step.id ?_); first | ((with_reducible apply Step.gdT); exact rfl; exact rfl; (focus ((simp only [decide_eq_true_eq, decide_eq_false_iff_not, Bool.not_eq_true', Bool.not_eq_false', Bool.not_true, Bool.not_false]; first | assumption | omega)))) | ((with_reducible apply Step.move); exact rfl; exact rfl) | ((with_reducible apply Step.assign); exact rfl; exact rfl) | ((with_reducible apply Step.load); exact rfl; (focus (decide +kernel)); exact rfl; (focus (exact Rd.new rfl rfl))) | ((with_reducible apply Step.gtr); exact rfl; exact rfl; exact rfl) | ((with_reducible apply Step.eqNil); exact rfl; exact rfl; exact un23; exact rfl) | ((with_reducible apply Step.len); exact rfl; (focus (exact Sl.mk (by omega))); (focus (decide +kernel)); exact rfl) | ((with_reducible apply Step.extract); exact rfl; exact rfl; exact rfl) | ((with_reducible apply Step.pickF); exact rfl; exact rfl; exact rfl; exact rfl; (focus ((simp only [decide_eq_true_eq, decide_eq_false_iff_not, Bool.not_eq_true', Bool.not_eq_false', Bool.not_true, Bool.not_false]; first | assumption | omega)))) | ((with_reducible apply Step.callR fit); exact rfl; exact Try.func89; exact rfl; exact rfl; exact (hLast _ rfl)) | ((with_reducible apply Step.alloc 3); exact rfl; exact ze3; exact rfl; (focus (first | (simp only [List.nil_append, List.cons_append, List.set_cons_zero, List.set_cons_succ, iv_set, bv_set, iv_rep, bv_rep]; done) | (simp only [List.nil_append, List.cons_append, List.set_cons_zero, List.set_cons_succ, iv_set, bv_set, iv_rep, bv_rep]; rfl) | rfl))) | ((with_reducible apply Step.store (k := 3)); exact rfl; exact rfl; exact rfl; exact rfl; (focus (decide +kernel)); exact rfl; exact rfl; (focus (first | omega | (simp [iv, bv]; done) | (simp [iv, bv]; omega))); (focus (first | (simp only [List.nil_append, List.cons_append, List.set_cons_zero, List.set_cons_succ, iv_set, bv_set, iv_rep, bv_rep]; done) | (simp only [List.nil_append, List.cons_append, List.set_cons_zero, List.set_cons_succ, iv_set, bv_set, iv_rep, bv_rep]; rfl) | rfl))) | ((with_reducible apply Step.buildS 4); exact rfl; exact rfl; exact (fun _ _ => bs23x); exact rfl; (focus (first | (simp only [List.nil_append, List.cons_append, List.set_cons_zero, List.set_cons_succ, iv_set, bv_set, iv_rep, bv_rep]; done) | (simp only [List.nil_append, List.cons_append, List.set_cons_zero, List.set_cons_succ, iv_set, bv_set, iv_rep, bv_rep]; rfl) | rfl)))) | (with_reducible refine AWo.nil ?_) | ((with_reducible apply AW.seq)) | ((with_reducible apply Then.n)) | ((with_reducible apply AW.regL)) | ((with_reducible apply AW.block)) | ((with_reducible apply AW.skip)) | ((with_reducible apply AW.condT); exact rfl; (focus ((simp only [decide_eq_true_eq, decide_eq_false_iff_not, Bool.not_eq_true', Bool.not_eq_false', Bool.not_true, Bool.not_false]; first | assumption | omega)))) | ((with_reducible apply AW.condF); exact rfl; (focus (rfl)))))
      ((with_reducible apply Step.appG (k := 5)); exact rfl; exact rfl; exact rfl; exact el23; exact un23; exact rfl; exact rfl; exact rfl; exact hol; exact rfl; exact rfl; exact rfl; (focus (omega)); exact rfl; (focus (first | (simp only [List.nil_append, List.cons_append, List.set_cons_zero, List.set_cons_succ, iv_set, bv_set, iv_rep, bv_rep]; done) | (simp only [List.nil_append, List.cons_append, List.set_cons_zero, List.set_cons_succ, iv_set, bv_set, iv_rep, bv_rep]; rfl) | rfl)))
      (repeat (first | (with_reducible refine AWo.cons ?_) | ((with_reducible refine Step.id ?_); first | ((with_reducible apply Step.move); exact rfl; exact rfl) | ((with_reducible apply Step.assign); exact rfl; exact rfl) | ((with_reducible apply Step.fn); exact rfl; exact rfl; exact rfl) | ((with_reducible apply Step.callM fit); exact rfl; exact Try.func82; exact rfl; exact rfl; exact (dl))) | (with_reducible refine AWo.nil ?_) | ((with_reducible apply Then.n)) | ((with_reducible apply AW.regL)) | ((with_reducible apply InBlk.n))))
      refine ⟨_, [(0, v), (2, .slice (some ⟨m.length + 1, 0, none⟩) (k + 1) (k + 1)), (3, .int .i64 worst), (4, .slice (some ⟨m.length + 2, 0, none⟩) (y :: ys).length (y :: ys).length), (5, .slice (some ⟨m.length + 0, 0, none⟩) (left.length - 1) j.length)], [some { cells := iv (left2 ++ List.replicate (k + 1) 0) }, some { cells := iv order ++ [.int .i64 i], kind := .grow, size := 1 }, gb (iv (y :: ys)) 1], ?_, (Or.inr (by refine Gc.perm [0,5,2] rfl (by decide) ?_ (CellsOk.ren ?_) ?_; (focus (intro p hp; rcases p with _ | _ | _ | p <;> first | rfl | exact absurd hp (lenB (n := 3) rfl))); (focus (repeat (first | exact CellsOk.nil | refine CellsOk.cons (by first | assumption | exact g0_iv _) ?_ | refine CellsOk.gb (by exact g0_iv _) ?_))); (focus ((repeat (first | exact trivial | (refine And.intro ⟨_, rfl, ?_⟩ ?_; (focus (first | exact .int _ _ | (refine Ren.slice_sg ?_; (focus (first | (simp; done) | omega | (simp; omega)))) | (refine Ren.of_sl_sg (by assumption) ?_ ?_; (focus (first | (simp; done) | omega | (simp; omega))); (focus (simp; done)))))))); done)))), k + 1, rfl, hlt, ?_, ?_⟩
      · omega
      · rw [hs2]; simp only; rw [eO, eP, gb_pos (c := iv (order ++ [i])) (by simp [iv])]; simp [iv]
      · rw [hs2]; simp only; rw [eW, eP, gv_pos (by omega), gv_pos (by simp), show j.length - (k + 1) = left.length - 1 by omega, show max worst p = worst by omega]
  · obtain rfl : k = j.length := by omega
    have hW : (lawN j j.length).worst = lawW j := rfl
    have hP : (lawN j j.length).prf = lawP j := rfl
    have hO : (lawN j j.length).order.reverse = lawO j := rfl
    rw [hW, hP]
    generalize (lawN j j.length).left ++ List.replicate j.length 0 = lrow at *
    generalize (lawN j j.length).order = order at *
    by_cases hz : j.length = 0
    · have e1 : order = [] := List.eq_nil_of_length_eq_zero (by omega)
      rw [e1] at hO
      rw [hz, ← hO, e1]
      (repeat (first | (with_reducible refine AWo.cons ?_) | ((with_reducible refine Step.id ?_); first | ((with_reducible apply Step.move); exact rfl; exact rfl) | ((with_reducible apply Step.assign); exact rfl; exact rfl) | ((with_reducible apply Step.gtr); exact rfl; exact rfl; exact rfl) | ((with_reducible apply Step.len); exact rfl; (focus (exact Sl.mk (by omega))); (focus (decide +kernel)); exact rfl) | ((with_reducible apply Step.callR fit); exact rfl; exact Try.func110; exact rfl; exact rfl; exact (reverse_nil))) | (with_reducible refine AWo.nil ?_) | ((with_reducible apply AW.seq)) | ((with_reducible apply Then.n)) | ((with_reducible apply AW.regL)) | ((with_reducible apply AW.exit)) | ((with_reducible apply InBlk.hit)) | ((with_reducible apply Then.e)) | ((with_reducible apply AW.condF); exact rfl; (focus (rfl)))))
      refine AW.retB (l := [(2, gv (m.length + 0) 0), (3, .int .i64 (lawW j)), (4, gv (m.length + 1) (lawP j).length)]) (L1 := [none, gb (iv (lawP j)) 1]) (Or.inr (by refine Gc.perm [1,2] rfl (by decide) ?_ (CellsOk.ren ?_) ?_; (focus (intro p hp; rcases p with _ | _ | p <;> first | rfl | exact absurd hp (lenB (n := 2) rfl))); (focus (repeat (first | exact CellsOk.nil | refine CellsOk.none ?_ | refine CellsOk.gb (by exact g0_iv _) ?_))); (focus ((repeat (first | exact trivial | (refine And.intro ⟨_, rfl, ?_⟩ ?_; (focus (first | exact .int _ _ | exact Ren.of_g0 rfl | (refine Ren.gv_sg ?_; (focus (first | (simp; done) | omega | (simp; omega))))))))); done)))) ?_
      exact ⟨_, rfl, rfl, rfl⟩
    · have hg : gb (iv order) 1 = some { cells := iv order, kind := .grow, size := 1 } := gb_pos (by rw [iv_len]; omega)
      have hg2 : gb (iv (lawO j)) 1 = some { cells := iv (lawO j), kind := .grow, size := 1 } := gb_pos (by rw [iv_len, ← hO, List.length_reverse]; omega)
      have rv := reverse_ok (m := m ++ [some { cells := iv lrow }, some { cells := iv order, kind := .grow, size := 1 }, gb (iv (lawP j)) 1]) (r := m.length + 1) (s := 1) (kd := .grow) (A := order) (c := j.length) (by simp) rfl ol (Nat.le_refl _) (by omega)
      rw [St.self (by rw [get_app]; rfl), hO] at rv
      have hset : St (m ++ [some { cells := iv lrow }, some { cells := iv order, kind := .grow, size := 1 }, gb (iv (lawP j)) 1]) (m.length + 1) .grow 1 (lawO j) = m ++ [some { cells := iv lrow }, some { cells := iv (lawO j), kind := .grow, size := 1 }, gb (iv (lawP j)) 1] := by
        unfold St; rw [set_app]; rfl
      rw [hset] at rv
      rw [hg, hg2, gv_pos (n := j.length) (by omega)]
      (repeat (first | (with_reducible refine AWo.cons ?_) | ((with_reducible refine Step.id ?_); first | ((with_reducible apply Step.move); exact rfl; exact rfl) | ((with_reducible apply Step.assign); exact rfl; exact rfl) | ((with_reducible apply Step.gtr); exact rfl; exact rfl; exact rfl) | ((with_reducible apply Step.len); exact rfl; (focus (exact Sl.mk (by omega))); (focus (decide +kernel)); exact rfl) | ((with_reducible apply Step.callM fit); exact rfl; exact Try.func110; exact rfl; exact rfl; exact (rv))) | (with_reducible refine AWo.nil ?_) | ((with_reducible apply AW.seq)) | ((with_reducible apply Then.n)) | ((with_reducible apply AW.regL)) | ((with_reducible apply AW.exit)) | ((with_reducible apply InBlk.hit)) | ((with_reducible apply Then.e)) | ((with_reducible apply AW.condF); exact rfl; (focus ((simp only [decide_eq_true_eq, decide_eq_false_iff_not, Bool.not_eq_true', Bool.not_eq_false', Bool.not_true, Bool.not_false]; first | assumption | omega))))))
      refine AW.retB (l := [(2, .slice (some ⟨m.length + 0, 0, none⟩) j.length j.length), (3, .int .i64 (lawW j)), (4, gv (m.length + 1) (lawP j).length)]) (L1 := [some { cells := iv (lawO j), kind := .grow, size := 1 }, gb (iv (lawP j)) 1]) (Or.inr (by refine Gc.perm [1,2] rfl (by decide) ?_ (CellsOk.ren ?_) ?_; (focus (intro p hp; rcases p with _ | _ | p <;> first | rfl | exact absurd hp (lenB (n := 2) rfl))); (focus (repeat (first | exact CellsOk.nil | refine CellsOk.cons (by exact g0_iv _) ?_ | refine CellsOk.gb (by exact g0_iv _) ?_))); (focus ((repeat (first | exact trivial | (refine And.intro ⟨_, rfl, ?_⟩ ?_; (focus (first | exact .int _ _ | (refine Ren.slice_sg ?_; (focus (first | (simp; done) | omega | (simp; omega)))) | (refine Ren.gv_sg ?_; (focus (first | (simp; done) | omega | (simp; omega))))))))); done)))) ?_
      exact ⟨_, rfl, by show _ = Value.tuple #[gv m.length j.length, _, gv (m.length + 1) (lawP j).length]; rw [gv_pos (n := j.length) (by omega)]; rfl, rfl⟩
end Go.Proofs.Ytmomjannlnafcaa.Abs
namespace Go.Proofs.Ytmomjannlnafcaa.Abs
set_option linter.unusedSimpArgs false
set_option linter.unusedVariables false
section
variable {j : List Job} {P : List Nat}
theorem lawO_len (hT : Topo j P) (hn : P.length = j.length) : (lawO j).length = j.length := by
  unfold lawO
  rw [List.length_reverse, (lawN_inv hT hn _ (Nat.le_refl _)).olen]
theorem lawO_get (hT : Topo j P) (hn : P.length = j.length) {q : Nat} (hq : q < j.length) : (lawO j).getD q 0 = (pk j (j.length - 1 - q)).1 := by
  have ol := (lawN_inv hT hn _ (Nat.le_refl _)).olen
  unfold lawO
  rw [List.getD_eq_getElem?_getD, List.getElem?_reverse (by omega), ol, ← List.getD_eq_getElem?_getD]
  exact lawN_order_get hT hn j.length (Nat.le_refl _) _ (by omega)
theorem sum_left (hT : Topo j P) (hn : P.length = j.length) {k : Nat} (hk : k < j.length) : sumJ j (lawN j (k + 1)).left = sumJ j (lawN j k).left - (jb j (pk j k).1).time :=
  sum_filter (lawN_inv hT hn k (by omega)).nd (pk_ok hT hn hk).1
theorem lawP_ok (hT : Topo j P) (hn : P.length = j.length) (hJ : JOk j) : (j.length = 0 ∧ lawP j = [] ∧ lawW j = 0) ∨ (0 < j.length ∧ ∃ s, s < j.length ∧ lawP j = (lawN j s).left ∧ lawW j = (pk j s).2) :=
  lawN_prf hT hn hJ j.length (Nat.le_refl _)
end
end Go.Proofs.Ytmomjannlnafcaa.Abs
namespace Go.Proofs.Ytmomjannlnafcaa.Abs
set_option linter.unusedSimpArgs false
set_option linter.unusedVariables false
open Go.RowKit
open Go.Proofs.Ytmomjannlnafcaa.Sim
open Go.Proofs
theorem conv_self {j : List Job} (h : jobsB j = true) : convJ j = j := by
  have hJ := JOk.of h
  have h40 := hJ.len
  unfold convJ
  rw [List.take_of_length_le (by omega)]
  refine List.ext_getElem (by simp) fun k h1 h2 => ?_
  have hk : k < j.length := h2
  have := hJ.alen hk
  simp only [aft] at this
  rw [List.getD_eq_getElem?_getD, List.getElem?_eq_getElem hk, Option.getD_some] at this
  rw [List.getElem_map]
  unfold cvJ
  rw [List.take_of_length_le (by omega)]
theorem conv_not {j : List Job} (h : jobsB j = false) : jobsB (convJ j) = false := by
  rw [Bool.eq_false_iff]
  intro hc
  have hJ := JOk.of hc
  have hl : (convJ j).length = min 42 j.length := by simp [convJ]
  have h40 := hJ.len
  have hlen : j.length ≤ 40 := by omega
  have hl2 : (convJ j).length = j.length := by omega
  have get : ∀ k, k < j.length → (convJ j).getD k default = cvJ (j.getD k default) := fun k hk => by
    unfold convJ
    rw [List.take_of_length_le (by omega)]
    simp [hk]
  have same : ∀ k, k < j.length → cvJ (j.getD k default) = j.getD k default := fun k hk => by
    have := hJ.alen (k := k) (by omega)
    simp only [aft] at this
    rw [get k hk] at this
    have hlt : ((j.getD k default).after.take 60).length ≤ 40 := by
      simp only [cvJ] at this; omega
    unfold cvJ
    rw [List.take_of_length_le (by rw [List.length_take] at hlt; omega)]
  have e : convJ j = j := List.ext_getElem (by omega) fun k h1 h2 => by
    have g := get k h2
    rw [same k h2] at g
    simpa [h1, h2] using g
  rw [e, h] at hc
  cases hc
theorem conv_short (j : List Job) : Short (convJ j) := by
  refine ⟨by simp [convJ]; omega, fun k hk => ?_⟩
  have hk' : k < (j.take 42).length := by simpa [convJ] using hk
  have : (convJ j).getD k default = cvJ ((j.take 42).getD k default) := by
    simp only [convJ, List.getD_eq_getElem?_getD, List.getElem?_map, List.getElem?_eq_getElem hk', Option.map_some, Option.getD_some]
  rw [this]
  simp only [cvJ, List.length_take]
  omega
/-- What the program's check answers to the jobs that the law hands it. -/
theorem checked_no {m : AM} {v : Value} {j : List Job} {e : Int} (hj : Jobs m v (convJ j)) (he : errJ j = e) (hne : e ≠ 0) : ∀ L, ACall Try.prog 78 #[v] (m ++ L) (Ret (.tuple #[.slice none 0 0, .int .i64 e]) (m ++ L)) := fun L => by
  subst he
  unfold errJ at hne ⊢
  cases hok : jobsB j with
  | false =>
    rw [if_neg (by simp)]
    exact checked_arg (hj.old L) (conv_short j) (conv_not hok)
  | true =>
    rw [if_pos rfl]
    rw [hok, if_pos rfl] at hne
    by_cases hn : (sortL j).length = j.length
    · rw [if_pos hn] at hne; exact absurd rfl hne
    · rw [if_neg hn]
      rw [conv_self hok] at hj
      exact checked_loop (hj.old L) hok hn
theorem errJ_zero {j : List Job} (h : errJ j = 0) : jobsB j = true ∧ (sortL j).length = j.length := by
  unfold errJ at h
  split at h
  · rename_i h1
    split at h
    · rename_i h2; exact ⟨h1, h2⟩
    · omega
  · omega
theorem gints {M L : AM} {k n : Nat} {l : List Int} (h : L[k]? = some (gb (iv l) 1)) (hl : l.length = n) : Ints (M ++ L) (gv (M.length + k) n) l := by
  subst hl
  refine ⟨M.length + k, 0, gv_sl _ _, by have := (List.getElem?_eq_some_iff.1 h).1; simp; omega, fun i hi => ?_⟩
  rw [gb_pos (by rw [iv_len]; omega)] at h
  exact Rd.new h (by rw [Nat.zero_add]; exact iv_get hi)
end Go.Proofs.Ytmomjannlnafcaa.Abs
namespace Go.Proofs.Ytmomjannlnafcaa.Abs
set_option linter.unusedSimpArgs false
set_option linter.unusedVariables false
open Go.RowKit
open Go.Proofs.Ytmomjannlnafcaa.Sim
open Go.Proofs
set_option maxRecDepth 100000 in
theorem Proof_ok {m : AM} {v : Value} {j : List Job} (hj : Jobs m v j) (hok : jobsB j = true) (hn : (sortL j).length = j.length) : ACall Try.prog 40 #[v] m (NewT (fun N => .tuple #[gv N (lawP j).length, .int .i64 0]) (gb (iv (lawP j)) 1) m) := by
  refine ACall.start Try.func40 rfl rfl ?_
  (repeat (first | (with_reducible refine AWo.cons ?_) | ((with_reducible refine Step.id ?_); first | ((with_reducible apply Step.move); exact rfl; exact rfl) | ((with_reducible apply Step.assign); exact rfl; exact rfl) | ((with_reducible apply Step.neq); exact rfl; exact rfl; exact rfl) | ((with_reducible apply Step.extract); exact rfl; exact rfl; exact rfl) | ((with_reducible apply Step.callT fit (k := 0)); exact rfl; exact rfl; exact Try.func78; exact rfl; exact rfl; exact (checked_ok (hj.old []) hok hn); (focus (first | (simp only [List.nil_append, List.cons_append, List.set_cons_zero, List.set_cons_succ, iv_set, bv_set, iv_rep, bv_rep]; done) | (simp only [List.nil_append, List.cons_append, List.set_cons_zero, List.set_cons_succ, iv_set, bv_set, iv_rep, bv_rep]; rfl) | rfl))) | ((with_reducible apply Step.callL fit (k := 1)); exact rfl; exact rfl; exact Try.func85; exact rfl; exact rfl; exact (lawler_ok (hj.old _) (JOk.of hok) hn); (focus (first | (simp only [List.nil_append, List.cons_append, List.set_cons_zero, List.set_cons_succ, iv_set, bv_set, iv_rep, bv_rep]; done) | (simp only [List.nil_append, List.cons_append, List.set_cons_zero, List.set_cons_succ, iv_set, bv_set, iv_rep, bv_rep]; rfl) | rfl)))) | (with_reducible refine AWo.nil ?_) | ((with_reducible apply AW.seq)) | ((with_reducible apply Then.n)) | ((with_reducible apply AW.regL)) | ((with_reducible apply AW.skip)) | ((with_reducible apply AW.condF); exact rfl; (focus (rfl)))))
  refine AW.retB (l := [(2, gv (m.length + 0) (lawP j).length), (3, .int .i64 0)]) (L1 := [gb (iv (lawP j)) 1]) (Or.inr (by refine Gc.perm [2] rfl (by decide) ?_ (CellsOk.ren ?_) ?_; (focus (intro p hp; rcases p with _ | p <;> first | rfl | exact absurd hp (lenB (n := 1) rfl))); (focus (repeat (first | exact CellsOk.nil | refine CellsOk.gb (by exact g0_iv _) ?_))); (focus ((repeat (first | exact trivial | (refine And.intro ⟨_, rfl, ?_⟩ ?_; (focus (first | exact .int _ _ | (refine Ren.gv_sg ?_; (focus (first | (simp; done) | omega | (simp; omega))))))))); done)))) ?_
  exact ⟨_, rfl, rfl, rfl⟩
set_option maxRecDepth 100000 in
theorem Proof_no {m : AM} {v : Value} {e : Int} (hne : e ≠ 0) (h : ∀ L, ACall Try.prog 78 #[v] (m ++ L) (Ret (.tuple #[.slice none 0 0, .int .i64 e]) (m ++ L))) : ACall Try.prog 40 #[v] m (Ret (.tuple #[.slice none 0 0, .int .i64 e]) m) := by
  refine ACall.start Try.func40 rfl rfl ?_
  (repeat (first | (with_reducible refine AWo.cons ?_) | ((with_reducible refine Step.id ?_); first | ((with_reducible apply Step.move); exact rfl; exact rfl) | ((with_reducible apply Step.assign); exact rfl; exact rfl) | ((with_reducible apply Step.neq); exact rfl; exact rfl; exact rfl) | ((with_reducible apply Step.extract); exact rfl; exact rfl; exact rfl) | ((with_reducible apply Step.callR fit); exact rfl; exact Try.func78; exact rfl; exact rfl; exact (h []))) | (with_reducible refine AWo.nil ?_) | ((with_reducible apply AW.seq)) | ((with_reducible apply Then.n)) | ((with_reducible apply AW.regL)) | ((with_reducible apply AW.condT); exact rfl; (focus ((simp only [decide_eq_true_eq, decide_eq_false_iff_not, Bool.not_eq_true', Bool.not_eq_false', Bool.not_true, Bool.not_false]; first | assumption | omega))))))
  (refine AW.retD (l := [(2, _), (3, _)]) (by repeat (first | exact trivial | (refine And.intro ⟨rfl, by (first | exact .int _ _ | exact Ren.of_g0 rfl)⟩ ?_))) ?_; (repeat (first | refine Then.r ?_ | refine InBlk.r ?_)))
  exact ⟨_, rfl, rfl, rfl⟩
theorem Topo.at {j : List Job} {P : List Nat} (h : Topo j P) (hn : P.length = j.length) {i : Nat} (hi : i < j.length) : ∃ q, q < P.length ∧ P.getD q 0 = i := by
  obtain ⟨q, hq, e⟩ := List.getElem_of_mem (h.all hn hi)
  exact ⟨q, hq, by simp only [List.getD_eq_getElem?_getD, List.getElem?_eq_getElem hq, Option.getD_some]; exact e⟩
end Go.Proofs.Ytmomjannlnafcaa.Abs
