/- Proved here: what the proof of CutBins rests on, part 4 of 4. Conditions: those that each theorem names. -/
import Derived.Test.YtibhgdglbillaaaDoorCutBinsK3
namespace Go.Proofs.YtibhgdglbillaaaDoor.Abs
set_option linter.unusedSimpArgs false
set_option linter.unusedVariables false
open Go.RowKit
open Go.Proofs.YtibhgdglbillaaaDoor.Sim
open Go.Proofs
def cmpI (x y : Int) : Int := if x < y then -1 else if y < x then 1 else 0
set_option maxRecDepth 100000 in
theorem isNaN_ok {m : AM} (x : Int) : ACall Tryd.prog 116 #[.int .i64 x] m (Ret (.bool false) m) := by
  refine ACall.start Tryd.func116 rfl rfl ?_
  (repeat (first | (with_reducible refine AWo.cons ?_) | ((with_reducible refine Step.id ?_); first | ((with_reducible apply Step.move); exact rfl; exact rfl) | ((with_reducible apply Step.assign); exact rfl; exact rfl) | ((with_reducible apply Step.neq); exact rfl; exact rfl; exact rfl)) | (with_reducible refine AWo.nil ?_) | ((with_reducible apply AW.seq)) | ((with_reducible apply Then.n)) | ((with_reducible apply AW.regL))))
  (refine AW.retD (l := [(2, _)]) (by repeat (first | exact trivial | (refine And.intro ⟨rfl, by (exact .bool _)⟩ ?_))) ?_; (repeat (first | refine Then.r ?_ | refine InBlk.r ?_)))
  exact ⟨_, rfl, by simp, rfl⟩
set_option maxRecDepth 100000 in
theorem compare_ok {m : AM} (x y : Int) {r : Int} (hr : cmpI x y = r) : ACall Tryd.prog 96 #[.int .i64 x, .int .i64 y] m (Ret (.int .i64 r) m) := by
  subst hr
  refine ACall.start Tryd.func96 rfl rfl ?_
  by_cases h1 : x < y
  · (repeat (first | (with_reducible refine AWo.cons ?_) | ((with_reducible refine Step.id ?_); first | ((with_reducible apply Step.move); exact rfl; exact rfl) | ((with_reducible apply Step.assign); exact rfl; exact rfl) | ((with_reducible apply Step.lss); exact rfl; exact rfl; exact rfl) | ((with_reducible apply Step.callR fit); exact rfl; exact Tryd.func116; exact rfl; exact rfl; exact (isNaN_ok _))) | (with_reducible refine AWo.nil ?_) | ((with_reducible apply AW.seq)) | ((with_reducible apply Then.n)) | ((with_reducible apply AW.regL)) | ((with_reducible apply AW.skip)) | ((with_reducible apply AW.condT); exact rfl; (focus ((simp only [decide_eq_true_eq, decide_eq_false_iff_not, Bool.not_eq_true', Bool.not_eq_false', Bool.not_true, Bool.not_false]; first | assumption | omega)))) | ((with_reducible apply AW.condF); exact rfl; (focus (rfl)))))
    (refine AW.retD (l := [(4, _)]) (by repeat (first | exact trivial | (refine And.intro ⟨rfl, by (exact .int _ _)⟩ ?_))) ?_; (repeat (first | refine Then.r ?_ | refine InBlk.r ?_)))
    exact ⟨_, rfl, by simp [cmpI, h1], rfl⟩
  · by_cases h2 : y < x
    · (repeat (first | (with_reducible refine AWo.cons ?_) | ((with_reducible refine Step.id ?_); first | ((with_reducible apply Step.move); exact rfl; exact rfl) | ((with_reducible apply Step.assign); exact rfl; exact rfl) | ((with_reducible apply Step.lss); exact rfl; exact rfl; exact rfl) | ((with_reducible apply Step.gtr); exact rfl; exact rfl; exact rfl) | ((with_reducible apply Step.callR fit); exact rfl; exact Tryd.func116; exact rfl; exact rfl; exact (isNaN_ok _))) | (with_reducible refine AWo.nil ?_) | ((with_reducible apply AW.seq)) | ((with_reducible apply Then.n)) | ((with_reducible apply AW.regL)) | ((with_reducible apply AW.skip)) | ((with_reducible apply AW.condT); exact rfl; (focus ((simp only [decide_eq_true_eq, decide_eq_false_iff_not, Bool.not_eq_true', Bool.not_eq_false', Bool.not_true, Bool.not_false]; first | assumption | omega)))) | ((with_reducible apply AW.condF); exact rfl; (focus (first | rfl | (simp only [decide_eq_true_eq, decide_eq_false_iff_not, Bool.not_eq_true', Bool.not_eq_false', Bool.not_true, Bool.not_false]; first | assumption | omega))))))
      (refine AW.retD (l := [(4, _)]) (by repeat (first | exact trivial | (refine And.intro ⟨rfl, by (exact .int _ _)⟩ ?_))) ?_; (repeat (first | refine Then.r ?_ | refine InBlk.r ?_)))
      exact ⟨_, rfl, by simp [cmpI, h1, h2], rfl⟩
    · (repeat (first | (with_reducible refine AWo.cons ?_) | ((with_reducible refine Step.id ?_); first | ((with_reducible apply Step.move); exact rfl; exact rfl) | ((with_reducible apply Step.assign); exact rfl; exact rfl) | ((with_reducible apply Step.lss); exact rfl; exact rfl; exact rfl) | ((with_reducible apply Step.gtr); exact rfl; exact rfl; exact rfl) | ((with_reducible apply Step.callR fit); exact rfl; exact Tryd.func116; exact rfl; exact rfl; exact (isNaN_ok _))) | (with_reducible refine AWo.nil ?_) | ((with_reducible apply AW.seq)) | ((with_reducible apply Then.n)) | ((with_reducible apply AW.regL)) | ((with_reducible apply AW.skip)) | ((with_reducible apply AW.condF); exact rfl; (focus (first | rfl | (simp only [decide_eq_true_eq, decide_eq_false_iff_not, Bool.not_eq_true', Bool.not_eq_false', Bool.not_true, Bool.not_false]; first | assumption | omega))))))
      (refine AW.retD (l := [(4, _)]) (by repeat (first | exact trivial | (refine And.intro ⟨rfl, by (exact .int _ _)⟩ ?_))) ?_; (repeat (first | refine Then.r ?_ | refine InBlk.r ?_)))
      exact ⟨_, rfl, by simp [cmpI, h1, h2], rfl⟩
def orL : List Int → Int
  | [] => 0
  | x :: l => if x = 0 then orL l else x
set_option maxRecDepth 100000 in
theorem or_ok {m : AM} {v : Value} {l : List Int} (hl : Ints m v l) (hlen : l.length ≤ 1000) {r : Int} (hr : orL l = r) : ACall Tryd.prog 108 #[v] m (Ret (.int .i64 r) m) := by
  subst hr
  obtain ⟨a, o, h1, h2, h3⟩ := hl
  refine ACall.start Tryd.func108 rfl rfl ?_
  (repeat (first | (with_reducible refine AWo.cons ?_) | ((with_reducible refine Step.id ?_); first | ((with_reducible apply Step.move); exact rfl; exact rfl) | ((with_reducible apply Step.assign); exact rfl; exact rfl) | ((with_reducible apply Step.len); exact rfl; (focus (assumption)); (focus (decide +kernel)); exact rfl)) | (with_reducible refine AWo.nil ?_) | ((with_reducible apply AW.seq)) | ((with_reducible apply Then.n)) | ((with_reducible apply AW.regL)) | ((with_reducible apply AW.block))))
  refine AW.loopT (fun n t L => ∃ k : Nat, n = l.length - k ∧ k ≤ l.length ∧ orL l = orL (l.drop k) ∧ L = [] ∧
    t = [(3, .int .i64 0), (6, v), (7, .int .i64 (l.length : Nat)), (8, .int .i64 (k : Nat))]) ⟨_, _, _, (Or.inl ⟨rfl, (by repeat (first | exact trivial | (refine And.intro rfl ?_)))⟩), 0, rfl, Nat.zero_le _, rfl, rfl, rfl⟩ ?_
  rintro n t L ⟨k, rfl, hk, ho, rfl, rfl⟩
  rcases Nat.lt_or_ge k l.length with hlt | hge
  · have hr := h3 k hlt
    have hd : l.drop k = l.getD k 0 :: l.drop (k + 1) := by rw [List.drop_eq_getElem_cons hlt]; simp [hlt]
    rw [hd, orL] at ho
    generalize l.getD k 0 = x at *
    by_cases hx : x = 0
    · rw [if_pos hx] at ho
      (repeat (first | (with_reducible refine AWo.cons ?_) | ((with_reducible refine Step.id ?_); first | ((with_reducible apply Step.move); exact rfl; exact rfl) | ((with_reducible apply Step.assign); exact rfl; exact rfl) | ((with_reducible apply Step.load); exact rfl; (focus (decide +kernel)); exact rfl; (focus (exact Rd.old _ (by assumption)))) | ((with_reducible apply Step.ix1); exact rfl; (focus (assumption)); exact rfl; (focus (decide +kernel)); exact rfl; (focus (omega))) | ((with_reducible apply Step.add); exact rfl; exact rfl; (focus (omega)); exact rfl) | ((with_reducible apply Step.lss); exact rfl; exact rfl; exact rfl) | ((with_reducible apply Step.neq); exact rfl; exact rfl; exact rfl)) | (with_reducible refine AWo.nil ?_) | ((with_reducible apply AW.seq)) | ((with_reducible apply Then.n)) | ((with_reducible apply AW.regL)) | ((with_reducible apply AW.block)) | ((with_reducible apply InBlk.n)) | ((with_reducible apply AW.skip)) | ((with_reducible apply AW.condT); exact rfl; (focus ((simp only [decide_eq_true_eq, decide_eq_false_iff_not, Bool.not_eq_true', Bool.not_eq_false', Bool.not_true, Bool.not_false]; first | assumption | omega)))) | ((with_reducible apply AW.condF); exact rfl; (focus ((simp only [decide_eq_true_eq, decide_eq_false_iff_not, Bool.not_eq_true', Bool.not_eq_false', Bool.not_true, Bool.not_false]; first | assumption | omega))))))
      exact ⟨_, _, _, by omega, (Or.inl ⟨rfl, (by repeat (first | exact trivial | (refine And.intro rfl ?_)))⟩), k + 1, rfl, by omega, ho, rfl, rfl⟩
    · rw [if_neg hx] at ho
      (repeat (first | (with_reducible refine AWo.cons ?_) | ((with_reducible refine Step.id ?_); first | ((with_reducible apply Step.move); exact rfl; exact rfl) | ((with_reducible apply Step.assign); exact rfl; exact rfl) | ((with_reducible apply Step.load); exact rfl; (focus (decide +kernel)); exact rfl; (focus (exact Rd.old _ (by assumption)))) | ((with_reducible apply Step.ix1); exact rfl; (focus (assumption)); exact rfl; (focus (decide +kernel)); exact rfl; (focus (omega))) | ((with_reducible apply Step.lss); exact rfl; exact rfl; exact rfl) | ((with_reducible apply Step.neq); exact rfl; exact rfl; exact rfl)) | (with_reducible refine AWo.nil ?_) | ((with_reducible apply AW.seq)) | ((with_reducible apply Then.n)) | ((with_reducible apply AW.regL)) | ((with_reducible apply AW.block)) | ((with_reducible apply AW.skip)) | ((with_reducible apply AW.condT); exact rfl; (focus ((simp only [decide_eq_true_eq, decide_eq_false_iff_not, Bool.not_eq_true', Bool.not_eq_false', Bool.not_true, Bool.not_false]; first | assumption | omega))))))
      (refine AW.retD (l := [(2, _)]) (by repeat (first | exact trivial | (refine And.intro ⟨rfl, by (exact .int _ _)⟩ ?_))) ?_; (repeat (first | refine Then.r ?_ | refine InBlk.r ?_)))
      exact ⟨_, rfl, by rw [ho], rfl⟩
  · obtain rfl : k = l.length := by omega
    (repeat (first | (with_reducible refine AWo.cons ?_) | ((with_reducible refine Step.id ?_); first | ((with_reducible apply Step.move); exact rfl; exact rfl) | ((with_reducible apply Step.assign); exact rfl; exact rfl) | ((with_reducible apply Step.lss); exact rfl; exact rfl; exact rfl)) | (with_reducible refine AWo.nil ?_) | ((with_reducible apply AW.seq)) | ((with_reducible apply Then.n)) | ((with_reducible apply AW.regL)) | ((with_reducible apply AW.exit)) | ((with_reducible apply InBlk.hit)) | ((with_reducible apply Then.e)) | ((with_reducible apply AW.condF); exact rfl; (focus ((simp only [decide_eq_true_eq, decide_eq_false_iff_not, Bool.not_eq_true', Bool.not_eq_false', Bool.not_true, Bool.not_false]; first | assumption | omega))))))
    (refine AW.retD (l := [(2, _)]) (by repeat (first | exact trivial | (refine And.intro ⟨rfl, by (exact .int _ _)⟩ ?_))) ?_; (repeat (first | refine Then.r ?_ | refine InBlk.r ?_)))
    exact ⟨_, rfl, by rw [ho, List.drop_length]; rfl, rfl⟩
theorem orL_lls (a b : Ld) : decide (orL [cmpI (a.1 : Nat) (b.1 : Nat), cmpI a.2.1 b.2.1] < 0) = lls a b := by
  unfold orL cmpI lls
  simp only [orL]
  rcases Nat.lt_trichotomy a.1 b.1 with h | h | h
  · simp [h, show (a.1 : Int) < (b.1 : Int) by omega]
  · rcases Int.lt_trichotomy a.2.1 b.2.1 with q | q | q
    · simp [h, q]
    · simp [h, q]
    · simp [h, q, show ¬ a.2.1 < b.2.1 by omega]
  · simp [show ¬ (a.1 : Int) < (b.1 : Int) by omega, show (b.1 : Int) < (a.1 : Int) by omega, show ¬ a.1 < b.1 by omega, show ¬ a.1 = b.1 by omega]
theorem ze129 : zeroB Tryd.prog 129 = some #[.int .i64 0, .int .i64 0, .int .i64 0] := by kernel_rfl
theorem bl129 {a b c : Int} : abuild Tryd.prog 129 [(0, .int .i64 a), (1, .int .i64 b), (2, .int .i64 c)] = some (.agg #[.int .i64 a, .int .i64 b, .int .i64 c]) := by kernel_rfl
theorem bl129u {b : Int} : abuild Tryd.prog 129 [(1, .int .i64 b)] = some (.agg #[.int .i64 0, .int .i64 b, .int .i64 0]) := by kernel_rfl
theorem el126 : elemB Tryd.prog 126 = some (129, 3, 24, #[.int .i64 0, .int .i64 0, .int .i64 0]) := by kernel_rfl
set_option maxHeartbeats 4000000 in
set_option maxRecDepth 100000 in
theorem with_ok {m : AM} (l : Ld) (n s : Int) (i : Nat) (hb : l.1 ≤ 100) (hu : 0 ≤ l.2.1 ∧ l.2.1 ≤ 2000) (hs : 0 ≤ s ∧ s ≤ 2000) : ACall Tryd.prog 107 #[.agg (ldc l).toArray, .int .i64 n, .int .i64 s, .int .i64 (i : Nat)] m (Ret (.agg (ldc (wth n l s i)).toArray) m) := by
  refine ACall.drop (Ren.aggI [_, _, _]) ?_
  obtain ⟨b, u, k⟩ := l
  simp only at hb hu
  have e : ((b + 1 : Nat) : Int) = (b : Int) + 1 := rfl
  change ACall Tryd.prog 107 #[.agg #[.int .i64 (b : Nat), .int .i64 u, .int .i64 (k : Nat)], _, _, _] m _
  refine ACall.start Tryd.func107 rfl rfl ?_
  by_cases hgt : u + s > n
  · have ew : wth n (b, u, k) s i = (b + 1, s, i) := by unfold wth; rw [if_pos hgt]
    rw [ew]
    (repeat (first | (with_reducible refine AWo.cons ?_) | ((with_reducible refine Step.id ?_); first | ((with_reducible apply Step.move); exact rfl; exact rfl) | ((with_reducible apply Step.load); exact rfl; (focus (decide +kernel)); exact rfl; (focus (exact Rd.new rfl rfl))) | ((with_reducible apply Step.field0); exact rfl; (focus (decide +kernel)); exact rfl) | ((with_reducible apply Step.field (k := 1)); exact rfl; (focus (decide +kernel)); exact rfl) | ((with_reducible apply Step.add); exact rfl; exact rfl; (focus (omega)); exact rfl) | ((with_reducible apply Step.gtr); exact rfl; exact rfl; exact rfl) | ((with_reducible apply Step.box 0); exact rfl; exact rfl; (focus (kernel_rfl)); exact rfl; (focus (first | (simp only [List.nil_append, List.cons_append, List.set_cons_zero, List.set_cons_succ, iv_set, bv_set, iv_rep, bv_rep]; done) | (simp only [List.nil_append, List.cons_append, List.set_cons_zero, List.set_cons_succ, iv_set, bv_set, iv_rep, bv_rep]; rfl) | rfl))) | ((with_reducible apply Step.alloc 1); exact rfl; exact ze129; exact rfl; (focus (first | (simp only [List.nil_append, List.cons_append, List.set_cons_zero, List.set_cons_succ, iv_set, bv_set, iv_rep, bv_rep]; done) | (simp only [List.nil_append, List.cons_append, List.set_cons_zero, List.set_cons_succ, iv_set, bv_set, iv_rep, bv_rep]; rfl) | rfl))) | ((with_reducible apply Step.storeA (k := 1) (n := 3)); exact rfl; exact rfl; exact rfl; exact rfl; (focus (decide +kernel)); exact rfl; (focus (kernel_rfl)); exact rfl; (focus (first | (simp only [List.nil_append, List.cons_append, List.set_cons_zero, List.set_cons_succ, iv_set, bv_set, iv_rep, bv_rep]; done) | (simp only [List.nil_append, List.cons_append, List.set_cons_zero, List.set_cons_succ, iv_set, bv_set, iv_rep, bv_rep]; rfl) | rfl))) | ((with_reducible apply Step.build); exact rfl; exact bl129; exact rfl)) | (with_reducible refine AWo.nil ?_) | ((with_reducible apply AW.seq)) | ((with_reducible apply Then.n)) | ((with_reducible apply AW.regL)) | ((with_reducible apply AW.condT); exact rfl; (focus ((simp only [decide_eq_true_eq, decide_eq_false_iff_not, Bool.not_eq_true', Bool.not_eq_false', Bool.not_true, Bool.not_false]; first | assumption | omega))))))
    (refine AW.ret ?_; (repeat (first | refine Then.r ?_ | refine InBlk.r ?_)))
    exact ⟨_, ares_cell rfl rfl (by decide +kernel) (n := 3) (by decide +kernel) (RdL.new rfl rfl) rfl rfl, rfl, _, rfl⟩
  · have ew : wth n (b, u, k) s i = (b, u + s, i) := by unfold wth; rw [if_neg hgt]
    rw [ew]
    (repeat (first | (with_reducible refine AWo.cons ?_) | ((with_reducible refine Step.id ?_); first | ((with_reducible apply Step.move); exact rfl; exact rfl) | ((with_reducible apply Step.load); exact rfl; (focus (decide +kernel)); exact rfl; (focus (exact Rd.new rfl rfl))) | ((with_reducible apply Step.field0); exact rfl; (focus (decide +kernel)); exact rfl) | ((with_reducible apply Step.field (k := 1)); exact rfl; (focus (decide +kernel)); exact rfl) | ((with_reducible apply Step.add); exact rfl; exact rfl; (focus (omega)); exact rfl) | ((with_reducible apply Step.gtr); exact rfl; exact rfl; exact rfl) | ((with_reducible apply Step.box 0); exact rfl; exact rfl; (focus (kernel_rfl)); exact rfl; (focus (first | (simp only [List.nil_append, List.cons_append, List.set_cons_zero, List.set_cons_succ, iv_set, bv_set, iv_rep, bv_rep]; done) | (simp only [List.nil_append, List.cons_append, List.set_cons_zero, List.set_cons_succ, iv_set, bv_set, iv_rep, bv_rep]; rfl) | rfl))) | ((with_reducible apply Step.alloc 1); exact rfl; exact ze129; exact rfl; (focus (first | (simp only [List.nil_append, List.cons_append, List.set_cons_zero, List.set_cons_succ, iv_set, bv_set, iv_rep, bv_rep]; done) | (simp only [List.nil_append, List.cons_append, List.set_cons_zero, List.set_cons_succ, iv_set, bv_set, iv_rep, bv_rep]; rfl) | rfl))) | ((with_reducible apply Step.storeA (k := 1) (n := 3)); exact rfl; exact rfl; exact rfl; exact rfl; (focus (decide +kernel)); exact rfl; (focus (kernel_rfl)); exact rfl; (focus (first | (simp only [List.nil_append, List.cons_append, List.set_cons_zero, List.set_cons_succ, iv_set, bv_set, iv_rep, bv_rep]; done) | (simp only [List.nil_append, List.cons_append, List.set_cons_zero, List.set_cons_succ, iv_set, bv_set, iv_rep, bv_rep]; rfl) | rfl))) | ((with_reducible apply Step.build); exact rfl; exact bl129; exact rfl)) | (with_reducible refine AWo.nil ?_) | ((with_reducible apply AW.seq)) | ((with_reducible apply Then.n)) | ((with_reducible apply AW.regL)) | ((with_reducible apply AW.skip)) | ((with_reducible apply AW.condF); exact rfl; (focus ((simp only [decide_eq_true_eq, decide_eq_false_iff_not, Bool.not_eq_true', Bool.not_eq_false', Bool.not_true, Bool.not_false]; first | assumption | omega))))))
    (refine AW.ret ?_; (repeat (first | refine Then.r ?_ | refine InBlk.r ?_)))
    exact ⟨_, ares_cell rfl rfl (by decide +kernel) (n := 3) (by decide +kernel) (RdL.new rfl rfl) rfl rfl, rfl, _, rfl⟩
end Go.Proofs.YtibhgdglbillaaaDoor.Abs
namespace Go.Proofs.YtibhgdglbillaaaDoor.Abs
set_option linter.unusedSimpArgs false
set_option linter.unusedVariables false
open Go.RowKit
open Go.Proofs.YtibhgdglbillaaaDoor.Sim
open Go.Proofs
theorem and_pow2 (s i : Nat) : s &&& 2 ^ i = if s.testBit i then 2 ^ i else 0 := by
  apply Nat.eq_of_testBit_eq
  intro k
  rw [Nat.testBit_and, Nat.testBit_two_pow]
  by_cases e : i = k
  · subst e; cases h : s.testBit i <;> simp
  · cases h : s.testBit i <;> simp [e, Nat.testBit_two_pow]
section
variable {P : Program} {nt : Nat} {ops : Array Oper} {t : Fm} {K : Fm → AM → Prop} {T : Nat} {p : String} {af : Array Edge}
theorem Step.storeLd {x y : Operand} {ty : TypeId} {k i : Nat} {Q : List Ld} {l : Ld} {M L L' : AM} (hx : evo t x = some (.pointer (some ⟨M.length + k, i * 3, none⟩))) (hy : evo t y = some (.agg (ldc l).toArray)) (hb : L[k]? = some (some { cells := lvc Q })) (hz : szB P ty = some 3) (hi : i < Q.length)
    (hL : L.set k (some { cells := lvc (Q.set i l) }) = L') (hK : K t (M ++ L')) : Step P nt ops ⟨none, .store ty x y, T, p, af, none⟩ t (M ++ L) K := by
  refine Step.stores (n := 3) (o := i * 3) hx hy hb rfl hz rfl (by kernel_rfl) ?_ ?_ hK
  · show i * 3 + 3 ≤ (lvc Q).length
    rw [lvc_len]; omega
  · rw [← hL]
    show L.set k (some { cells := splice (lvc Q) (i * 3) (ldc l) }) = _
    rw [lvc_set _ _ _ hi]
end
/-- The table where set s is under way and has c. -/
def tbl (n : Int) (p : Nat → Int) (k N s : Nat) (c : Ld) : List Ld := pkT n p k s ++ c :: List.replicate (N - s - 1) (0, 0, 0)
section
variable {n : Int} {p : Nat → Int} {k N s : Nat} {c : Ld}
theorem tbl_len (h : s < N) : (tbl n p k N s c).length = N := by simp [tbl, pkT_len]; omega
theorem tbl_at : (tbl n p k N s c).getD s (0, 0, 0) = c := by
  unfold tbl
  rw [List.getD_eq_getElem?_getD, List.getElem?_append_right (by rw [pkT_len]; exact Nat.le_refl _), pkT_len]; simp
theorem tbl_old {j : Nat} (h : j < s) : (tbl n p k N s c).getD j (0, 0, 0) = pkD n p k j := by
  rw [← pkT_get h]
  unfold tbl
  rw [List.getD_eq_getElem?_getD, List.getElem?_append_left (by rw [pkT_len]; exact h), ← List.getD_eq_getElem?_getD]
theorem tbl_set {c' : Ld} : (tbl n p k N s c).set s c' = tbl n p k N s c' := by
  unfold tbl
  rw [List.set_append_right _ _ (by rw [pkT_len]; exact Nat.le_refl _), pkT_len]; simp
theorem tbl_next (h : s + 1 < N) (hc : c = pkD n p k s) : tbl n p k N s c = tbl n p k N (s + 1) (0, 0, 0) := by
  unfold tbl
  have e : pkT n p k (s + 1) = pkT n p k s ++ [c] := by rw [hc, pkD_row]; rfl
  rw [e, List.append_assoc, show N - s - 1 = (N - (s + 1) - 1) + 1 by omega, List.replicate_succ]
  rfl
theorem tbl_last (h : s + 1 = N) (hc : c = pkD n p k s) : tbl n p k N s c = pkT n p k N := by
  subst h
  have e : pkT n p k (s + 1) = pkT n p k s ++ [c] := by rw [hc, pkD_row]; rfl
  unfold tbl
  rw [e]; simp
theorem tbl_zero (h : 0 < N) : (List.replicate N ((0, 0, 0) : Ld)).set 0 (0, n, 0) = tbl n p k N 0 (0, n, 0) := by
  obtain ⟨q, rfl⟩ : ∃ q, N = q + 1 := ⟨N - 1, by omega⟩
  simp [tbl, pkT, List.replicate_succ]
/-- What the table is at the head of the loop over the sets. -/
def tbs (n : Int) (p : Nat → Int) (k N s : Nat) : List Ld := if s < N then tbl n p k N s (0, 0, 0) else pkT n p k N
theorem tbs_next (h : s < N) : tbl n p k N s (pkD n p k s) = tbs n p k N (s + 1) := by
  unfold tbs
  split
  · exact tbl_next (by assumption) rfl
  · exact tbl_last (by omega) rfl
end
theorem pkD_use {n : Int} {p : Nat → Int} {k : Nat} (hp : ∀ i, i < k → 1 ≤ p i ∧ p i ≤ n) (hn : 0 ≤ n) (s : Nat) (hs : s < 2 ^ k) : 0 ≤ (pkD n p k s).2.1 ∧ (pkD n p k s).2.1 ≤ n := by
  by_cases h0 : s = 0
  · subst h0; rw [pkD_zero]; exact ⟨hn, Int.le_refl _⟩
  · obtain ⟨i, hi, hb, e⟩ := pkD_ex (n := n) (p := p) hs h0
    have hpi := hp i hi
    have h1 := andn_lt hb
    have ih := pkD_use hp hn (andn s (2 ^ i)) (by omega)
    rw [e]
    unfold wth
    split <;> simp only <;> omega
termination_by s
decreasing_by exact andn_lt hb
theorem pkR_lt {n : Int} {p : Nat → Int} {f : Nat → Ld} {s i : Nat} : pkR n p f s (i + 1) = if s.testBit i then (if (pkR n p f s i).2 || lls (wth n (f (andn s (2 ^ i))) (p i) i) (pkR n p f s i).1 then (wth n (f (andn s (2 ^ i))) (p i) i, false) else pkR n p f s i) else pkR n p f s i := rfl
theorem bs47 {m : AM} {n : Nat} {x y : Int} : abuildSlice Tryd.prog m n 47 2 [(0, .int .i64 x), (1, .int .i64 y)] = some (.slice (some ⟨n, 0, none⟩) 2 2, m.set n (some { cells := [.int .i64 x, .int .i64 y] })) := by kernel_rfl
set_option maxHeartbeats 8000000 in
set_option maxRecDepth 100000 in
theorem packed_ok {m : AM} {v : Value} {l : List Int} {n : Int} (hl : Ints m v l) (hok : stripsB n l = true) :
    ACall Tryd.prog 89 #[.int .i64 n, v] m (New (some { cells := lvc (pkT n (fun i => l.getD i 0) l.length (2 ^ l.length)) }) (2 ^ l.length) m) := by
  have h := SpOk.of hok
  have hn1 := h.n1
  have hn2 := h.n2
  have hl14 := h.len
  obtain ⟨a, o, h1, h2, h3⟩ := id hl
  obtain ⟨p, hp⟩ : ∃ p : Nat → Int, p = fun i => l.getD i 0 := ⟨_, rfl⟩
  have hpb : ∀ i, i < l.length → 1 ≤ p i ∧ p i ≤ n := by rw [hp]; exact h.at_
  have hN : 2 ^ l.length ≤ 16384 := by
    have : 2 ^ l.length ≤ 2 ^ 14 := Nat.pow_le_pow_right (by omega) hl14
    omega
  have hN1 : 1 ≤ 2 ^ l.length := Nat.one_le_two_pow
  have pw : ∀ i, i ≤ l.length → 2 ^ i ≤ 16384 := fun i hi => Nat.le_trans (Nat.pow_le_pow_right (by omega) hi) hN
  have hD := fun s (hs : s < 2 ^ l.length) => pkD_use hpb (by omega) s hs
  have hC := fun s (hs : s < 2 ^ l.length) => pkD_cnt (n := n) (p := p) s hs
  have hC2 := fun s => cntS_le (k := l.length) s
  rw [← hp]
  refine ACall.start Tryd.func89 rfl rfl ?_
  (repeat (first | (with_reducible refine AWo.cons ?_) | ((with_reducible refine Step.id ?_); first | ((with_reducible apply Step.move); exact rfl; exact rfl) | ((with_reducible apply Step.assign); exact rfl; exact rfl) | ((with_reducible apply Step.shl1); exact rfl; exact rfl; (focus (omega)); exact rfl) | ((with_reducible apply Step.len); exact rfl; (focus (assumption)); (focus (decide +kernel)); exact rfl)) | (with_reducible refine AWo.nil ?_) | ((with_reducible apply AW.seq)) | ((with_reducible apply Then.n)) | ((with_reducible apply AW.regL))))
  ((with_reducible apply Step.make3 0); exact rfl; exact rfl; exact rfl; exact el126; exact ⟨by omega, by omega⟩; exact rfl; (focus (first | (simp only [List.nil_append, List.cons_append, List.set_cons_zero, List.set_cons_succ, iv_set, bv_set, iv_rep, bv_rep]; done) | (simp only [List.nil_append, List.cons_append, List.set_cons_zero, List.set_cons_succ, iv_set, bv_set, iv_rep, bv_rep]; rfl) | rfl)))
  generalize hN2 : 2 ^ l.length = N at *
  have l0 : (List.replicate N ((0, 0, 0) : Ld)).length = N := by simp
  (repeat (first | (with_reducible refine AWo.cons ?_) | ((with_reducible refine Step.id ?_); first | ((with_reducible apply Step.move); exact rfl; exact rfl) | ((with_reducible apply Step.assign); exact rfl; exact rfl) | ((with_reducible apply Step.ix (s := 3) (k := 0)); exact rfl; (focus (exact Sl.mk (by omega))); exact rfl; (focus (decide +kernel)); exact rfl; (focus (omega))) | ((with_reducible apply Step.build); exact rfl; exact bl129u; exact rfl)) | (with_reducible refine AWo.nil ?_) | ((with_reducible apply AW.seq)) | ((with_reducible apply Then.n)) | ((with_reducible apply AW.regL))))
  ((with_reducible apply Step.storeLd (k := 0) (i := 0) (l := (0, n, 0))); exact rfl; exact rfl; exact rfl; (focus (decide +kernel)); (focus (rw [l0]; omega)); (focus (first | (simp only [List.nil_append, List.cons_append, List.set_cons_zero, List.set_cons_succ, iv_set, bv_set, iv_rep, bv_rep]; done) | (simp only [List.nil_append, List.cons_append, List.set_cons_zero, List.set_cons_succ, iv_set, bv_set, iv_rep, bv_rep]; rfl) | rfl)))
  rw [tbl_zero (p := p) (k := l.length) (by omega)]
  have hz : tbl n p l.length N 0 (0, n, 0) = tbs n p l.length N 1 := tbs_next (s := 0) (by omega)
  rw [hz]
  (repeat (first | (with_reducible refine AWo.cons ?_) | ((with_reducible refine Step.id ?_); ((with_reducible apply Step.assign); exact rfl; exact rfl)) | (with_reducible refine AWo.nil ?_) | ((with_reducible apply AW.seq)) | ((with_reducible apply Then.n)) | ((with_reducible apply AW.regL)) | ((with_reducible apply AW.block))))
  refine AW.loopT (fun q t L => ∃ s : Nat, q = N - s ∧ 1 ≤ s ∧ s ≤ N ∧ L = [some { cells := lvc (tbs n p l.length N s) }] ∧
    t = [(0, .int .i64 n), (1, v), (5, .slice (some ⟨m.length + 0, 0, none⟩) N N), (6, .int .i64 (s : Nat))]) ⟨_, [(0, .int .i64 n), (1, v), (5, .slice (some ⟨m.length + 0, 0, none⟩) N N), (6, .int .i64 1)], _, (Or.inl ⟨rfl, (by repeat (first | exact trivial | (refine And.intro rfl ?_)))⟩), 1, rfl, Nat.le_refl _, by omega, rfl, rfl⟩ ?_
  rintro q t L ⟨s, rfl, hs1, hs, rfl, rfl⟩
  rcases Nat.lt_or_ge s N with hlt | hge
  · have e0 : tbs n p l.length N s = tbl n p l.length N s (0, 0, 0) := by unfold tbs; rw [if_pos hlt]
    rw [e0]
    (repeat (first | (with_reducible refine AWo.cons ?_) | ((with_reducible refine Step.id ?_); first | ((with_reducible apply Step.move); exact rfl; exact rfl) | ((with_reducible apply Step.assign); exact rfl; exact rfl) | ((with_reducible apply Step.lss); exact rfl; exact rfl; exact rfl) | ((with_reducible apply Step.len); exact rfl; (focus (first | assumption | exact Sl.mk (by omega))); (focus (decide +kernel)); exact rfl)) | (with_reducible refine AWo.nil ?_) | ((with_reducible apply AW.seq)) | ((with_reducible apply Then.n)) | ((with_reducible apply AW.regL)) | ((with_reducible apply AW.block)) | ((with_reducible apply AW.skip)) | ((with_reducible apply AW.condT); exact rfl; (focus ((simp only [decide_eq_true_eq, decide_eq_false_iff_not, Bool.not_eq_true', Bool.not_eq_false', Bool.not_true, Bool.not_false]; first | assumption | omega))))))
    refine AW.loopT (fun q t L => ∃ i : Nat, q = l.length - i ∧ i ≤ l.length ∧ L = [some { cells := lvc (tbl n p l.length N s (pkR n p (pkD n p l.length) s i).1) }] ∧
      t = [(0, .int .i64 n), (1, v), (5, .slice (some ⟨m.length + 0, 0, none⟩) N N), (6, .int .i64 (s : Nat)), (7, .bool (pkR n p (pkD n p l.length) s i).2), (25, v), (26, .int .i64 (l.length : Nat)), (27, .int .i64 (i : Nat))]) ⟨_, _, _, (Or.inl ⟨rfl, (by repeat (first | exact trivial | (refine And.intro rfl ?_)))⟩), 0, rfl, Nat.zero_le _, rfl, rfl⟩ ?_
    rintro q t L ⟨i, rfl, hi, rfl, rfl⟩
    rcases Nat.lt_or_ge i l.length with hil | hil
    · have hr := h3 i hil
      have hpi := hpb i hil
      have ep : l.getD i 0 = p i := by rw [hp]
      rw [ep] at hr
      have hi62 : i ≤ 62 := by omega
      have hpw := pw i hi
      have and2 := and_pow2 s i
      have hR := pkR_lt (n := n) (p := p) (f := pkD n p l.length) (s := s) (i := i)
      cases hb : s.testBit i with
      | false =>
        rw [hb] at and2 hR
        have and3 : s &&& 2 ^ i = 0 := by rw [and2]; rfl
        rw [if_neg (by decide)] at hR
        (repeat (first | (with_reducible refine AWo.cons ?_) | ((with_reducible refine Step.id ?_); first | ((with_reducible apply Step.move); exact rfl; exact rfl) | ((with_reducible apply Step.assign); exact rfl; exact rfl) | ((with_reducible apply Step.load); exact rfl; (focus (decide +kernel)); exact rfl; (focus (exact Rd.old _ (by assumption)))) | ((with_reducible apply Step.ix1); exact rfl; (focus (assumption)); exact rfl; (focus (decide +kernel)); exact rfl; (focus (omega))) | ((with_reducible apply Step.shl1); exact rfl; exact rfl; (focus (omega)); exact rfl) | ((with_reducible apply Step.andN); exact rfl; exact rfl; (focus (omega)); (focus (omega)); exact rfl) | ((with_reducible apply Step.add); exact rfl; exact rfl; (focus (omega)); exact rfl) | ((with_reducible apply Step.lss); exact rfl; exact rfl; exact rfl) | ((with_reducible apply Step.eql); exact rfl; exact rfl; exact rfl)) | (with_reducible refine AWo.nil ?_) | ((with_reducible apply AW.seq)) | ((with_reducible apply Then.n)) | ((with_reducible apply AW.regL)) | ((with_reducible apply AW.block)) | ((with_reducible apply AW.exit)) | ((with_reducible apply InBlk.hit)) | ((with_reducible apply Then.e)) | ((with_reducible apply AW.skip)) | ((with_reducible apply AW.condT); exact rfl; (focus ((simp only [decide_eq_true_eq, decide_eq_false_iff_not, Bool.not_eq_true', Bool.not_eq_false', Bool.not_true, Bool.not_false]; first | assumption | omega))))))
        exact ⟨_, [(0, .int .i64 n), (1, v), (5, .slice (some ⟨m.length + 0, 0, none⟩) N N), (6, .int .i64 (s : Nat)), (7, .bool (pkR n p (pkD n p l.length) s i).2), (25, v), (26, .int .i64 (l.length : Nat)), (27, .int .i64 (i + 1 : Nat))], _, by omega, (Or.inl ⟨rfl, (by repeat (first | exact trivial | (refine And.intro rfl ?_)))⟩), i + 1, rfl, by omega, by rw [hR], by rw [hR]⟩
      | true =>
        rw [hb] at and2 hR
        have and3 : s &&& 2 ^ i = 2 ^ i := by rw [and2]; rfl
        have hp1 : 1 ≤ 2 ^ i := Nat.one_le_two_pow
        rw [if_pos rfl] at hR
        have hj := andn_lt hb
        have hjD := hD (andn s (2 ^ i)) (by omega)
        have hjC := hC (andn s (2 ^ i)) (by omega)
        have hjC2 := hC2 (andn s (2 ^ i))
        have hW := fun (M : AM) => with_ok (m := M) (pkD n p l.length (andn s (2 ^ i))) n (p i) i (by omega) (by omega) (by omega)
        have r1 : RdL (m ++ [some { cells := lvc (tbl n p l.length N s (pkR n p (pkD n p l.length) s i).1) }]) (m.length + 0) (andn s (2 ^ i) * 3) (ldc (pkD n p l.length (andn s (2 ^ i)))) := by
          rw [← tbl_old (n := n) (p := p) (k := l.length) (N := N) (c := (pkR n p (pkD n p l.length) s i).1) hj]
          exact rdl_ld rfl (by rw [tbl_len hlt]; omega)
        generalize wth n (pkD n p l.length (andn s (2 ^ i))) (p i) i = w at *
        have hTl := tbl_len (n := n) (p := p) (k := l.length) (c := (pkR n p (pkD n p l.length) s i).1) hlt
        have hTg := tbl_at (n := n) (p := p) (k := l.length) (N := N) (s := s) (c := (pkR n p (pkD n p l.length) s i).1)
        have hTs := tbl_set (n := n) (p := p) (k := l.length) (N := N) (s := s) (c := (pkR n p (pkD n p l.length) s i).1) (c' := w)
        cases hf : (pkR n p (pkD n p l.length) s i).2 with
        | true =>
          rw [hf, Bool.true_or, if_pos rfl] at hR
          generalize (pkR n p (pkD n p l.length) s i).1 = c at *
          generalize tbl n p l.length N s c = Tb at *
          have gT := g0_lvc Tb
          have gw := g0_ldc w
          have gT2 := g0_lvc (Tb.set s w)
          (repeat' (first | (with_reducible refine AWo.cons ?_) | ((with_reducible refine Step.id ?_); first | ((with_reducible apply Step.gdF); exact rfl; exact rfl; (focus (rfl))) | ((with_reducible apply Step.move); exact rfl; exact rfl) | ((with_reducible apply Step.assign); exact rfl; exact rfl) | ((with_reducible apply Step.load); exact rfl; (focus (decide +kernel)); exact rfl; (focus (exact Rd.old _ (by assumption)))) | ((with_reducible apply Step.loadL (n := 3)); exact rfl; (focus (decide +kernel)); (focus (decide +kernel)); exact rfl; (focus (first | assumption | exact RdL.new rfl rfl)); exact rfl; exact rfl) | ((with_reducible apply Step.ix1); exact rfl; (focus (first | assumption | exact Sl.mk (by omega))); exact rfl; (focus (decide +kernel)); exact rfl; (focus (omega))) | ((with_reducible apply Step.ixz (s := 3)); exact rfl; (focus (exact Sl.mk (by omega))); exact rfl; (focus (decide +kernel)); exact rfl; (focus (omega))) | ((with_reducible apply Step.shl1); exact rfl; exact rfl; (focus (omega)); exact rfl) | ((with_reducible apply Step.andN); exact rfl; exact rfl; (focus (omega)); (focus (omega)); exact rfl) | ((with_reducible apply Step.andnN); exact rfl; exact rfl; (focus (omega)); (focus (omega)); exact rfl) | ((with_reducible apply Step.lss); exact rfl; exact rfl; exact rfl) | ((with_reducible apply Step.eql); exact rfl; exact rfl; exact rfl) | ((with_reducible apply Step.pickT); exact rfl; exact rfl; exact rfl; exact rfl; (focus (rfl))) | ((with_reducible apply Step.callR fit); exact rfl; exact Tryd.func107; exact rfl; exact rfl; exact (hW _)) | ((with_reducible apply Step.alloc 1); exact rfl; exact ze129; exact rfl; (focus (first | (simp only [List.nil_append, List.cons_append, List.set_cons_zero, List.set_cons_succ, iv_set, bv_set, iv_rep, bv_rep]; done) | (simp only [List.nil_append, List.cons_append, List.set_cons_zero, List.set_cons_succ, iv_set, bv_set, iv_rep, bv_rep]; rfl) | rfl))) | ((with_reducible apply Step.storeA (k := 1) (n := 3)); exact rfl; exact rfl; exact rfl; exact rfl; (focus (decide +kernel)); exact rfl; (focus (kernel_rfl)); exact rfl; (focus (first | (simp only [List.nil_append, List.cons_append, List.set_cons_zero, List.set_cons_succ, iv_set, bv_set, iv_rep, bv_rep]; done) | (simp only [List.nil_append, List.cons_append, List.set_cons_zero, List.set_cons_succ, iv_set, bv_set, iv_rep, bv_rep]; rfl) | rfl)))) | (with_reducible refine AWo.nil ?_) | ((with_reducible apply AW.seq)) | ((with_reducible apply Then.n)) | ((with_reducible apply AW.regL)) | ((with_reducible apply AW.block)) | ((with_reducible apply AW.drawT fit (T := (.step 0 (.step 1 (.step 2 (.step 3 (.step 4 (.step 5 (.step 6 (.step 7 (.step 8 (.step 10 (.step 12 (.step 13 (.step 14 (.step 15 (.both (.step 9 (.step 11 (.step 16 (.step 17 (.step 18 (.step 19 (.step 20 (.step 21 .done)))))))) (.both (.step 11 (.both (.step 9 (.step 16 (.step 17 (.step 18 (.step 19 (.step 20 (.step 21 .done))))))) (.step 16 (.step 9 (.step 17 (.step 18 (.step 19 (.step 20 (.step 21 .done))))))))) (.step 16 (.both (.step 9 (.step 11 (.step 17 (.step 18 (.step 19 (.step 20 (.step 21 .done))))))) (.step 11 (.step 9 (.step 17 (.step 18 (.step 19 (.step 20 (.step 21 .done))))))))))))))))))))))))))); (focus (decide +kernel))) | ((with_reducible apply AWt.step); exact rfl) | ((with_reducible apply AWt.done)) | ((with_reducible apply AW.skip)) | ((with_reducible apply AW.condT); exact rfl; (focus (first | rfl | (simp only [decide_eq_true_eq, decide_eq_false_iff_not, Bool.not_eq_true', Bool.not_eq_false', Bool.not_true, Bool.not_false]; first | assumption | omega)))) | ((with_reducible apply AW.condF); exact rfl; (focus ((simp only [decide_eq_true_eq, decide_eq_false_iff_not, Bool.not_eq_true', Bool.not_eq_false', Bool.not_true, Bool.not_false]; first | assumption | omega)))) | refine AWt.both ?_ ?_))
          all_goals
            ((with_reducible apply Step.storeLd (k := 0) (i := s) (l := w)); exact rfl; exact rfl; exact rfl; (focus (decide +kernel)); (focus (omega)); (focus (first | (simp only [List.nil_append, List.cons_append, List.set_cons_zero, List.set_cons_succ, iv_set, bv_set, iv_rep, bv_rep]; done) | (simp only [List.nil_append, List.cons_append, List.set_cons_zero, List.set_cons_succ, iv_set, bv_set, iv_rep, bv_rep]; rfl) | rfl)))
            (repeat (first | (with_reducible refine AWo.cons ?_) | ((with_reducible refine Step.id ?_); first | ((with_reducible apply Step.move); exact rfl; exact rfl) | ((with_reducible apply Step.assign); exact rfl; exact rfl) | ((with_reducible apply Step.add); exact rfl; exact rfl; (focus (omega)); exact rfl)) | (with_reducible refine AWo.nil ?_) | ((with_reducible apply Then.n)) | ((with_reducible apply AW.regL)) | ((with_reducible apply InBlk.n))))
            exact ⟨_, [(0, .int .i64 n), (1, v), (5, .slice (some ⟨m.length + 0, 0, none⟩) N N), (6, .int .i64 (s : Nat)), (7, .bool false), (25, v), (26, .int .i64 (l.length : Nat)), (27, .int .i64 (i + 1 : Nat))], [some { cells := lvc (Tb.set s w) }], by omega, (Back.trim rfl rfl (by repeat (first | exact CellsOk.nil | refine CellsOk.cons (by assumption) ?_)) (by repeat (first | exact trivial | (refine And.intro ⟨rfl, by (first | exact .int _ _ | exact .bool _ | exact .slice _ _ _ _ (by first | (simp; done) | omega | (simp; omega)) | exact Ren.of_sl (by assumption) (by first | omega | (simp; omega)))⟩ ?_)))), i + 1, rfl, by omega, by rw [hR, hTs], by rw [hR]⟩
        | false =>
          rw [hf, Bool.false_or] at hR
          have hlt2 := orL_lls w (pkR n p (pkD n p l.length) s i).1
          generalize hc : (pkR n p (pkD n p l.length) s i).1 = c at *
          generalize hTb : tbl n p l.length N s c = Tb at *
          have gT := g0_lvc Tb
          have gw := g0_ldc w
          have gT2 := g0_lvc (Tb.set s w)
          have r2 : ∀ L, RdL (m ++ (some { cells := lvc Tb } :: L)) (m.length + 0) (s * 3) (ldc c) := fun L => by
            rw [← hTg]
            exact rdl_ld rfl (by omega)
          have r3 : ∀ L, RdL (m ++ (some { cells := lvc Tb } :: some { cells := ldc w } :: L)) (m.length + 1) 0 (ldc w) := fun L => RdL.new rfl rfl
          have hi : ∀ (x y : Int), Ints (m ++ [some { cells := lvc Tb }, some { cells := ldc w }, some { cells := iv [x, y] }]) (.slice (some ⟨m.length + 2, 0, none⟩) 2 2) [x, y] := fun x y => ints_new (k := 2) rfl rfl _ rfl
          cases hl : lls w c with
          | true =>
            rw [hl] at hlt2 hR
            rw [if_pos rfl] at hR
            rw [decide_eq_true_eq] at hlt2
            (repeat' (first | (with_reducible refine AWo.cons ?_) | ((with_reducible refine Step.id ?_); first | ((with_reducible apply Step.gdT); exact rfl; exact rfl; (focus (rfl))) | ((with_reducible apply Step.move); exact rfl; exact rfl) | ((with_reducible apply Step.assign); exact rfl; exact rfl) | ((with_reducible apply Step.load); exact rfl; (focus (decide +kernel)); exact rfl; (focus (first | exact (r2 _).at_ 0 rfl | exact (r2 _).at_ 1 rfl | exact (r3 _).at_ 0 rfl | exact (r3 _).at_ 1 rfl | exact Rd.old _ (by assumption)))) | ((with_reducible apply Step.loadL (n := 3)); exact rfl; (focus (decide +kernel)); (focus (decide +kernel)); exact rfl; (focus (first | assumption | exact RdL.new rfl rfl)); exact rfl; exact rfl) | ((with_reducible apply Step.ix1); exact rfl; (focus (first | assumption | exact Sl.mk (by omega))); exact rfl; (focus (decide +kernel)); exact rfl; (focus (omega))) | ((with_reducible apply Step.ixz (s := 3)); exact rfl; (focus (exact Sl.mk (by omega))); exact rfl; (focus (decide +kernel)); exact rfl; (focus (omega))) | ((with_reducible apply Step.field0); exact rfl; (focus (decide +kernel)); exact rfl) | ((with_reducible apply Step.field (k := 1)); exact rfl; (focus (decide +kernel)); exact rfl) | ((with_reducible apply Step.shl1); exact rfl; exact rfl; (focus (omega)); exact rfl) | ((with_reducible apply Step.andN); exact rfl; exact rfl; (focus (omega)); (focus (omega)); exact rfl) | ((with_reducible apply Step.andnN); exact rfl; exact rfl; (focus (omega)); (focus (omega)); exact rfl) | ((with_reducible apply Step.lss); exact rfl; exact rfl; exact rfl) | ((with_reducible apply Step.eql); exact rfl; exact rfl; exact rfl) | ((with_reducible apply Step.pickF); exact rfl; exact rfl; exact rfl; exact rfl; (focus (rfl))) | ((with_reducible apply Step.callR fit); exact rfl; exact Tryd.func107; exact rfl; exact rfl; exact (hW _)) | ((with_reducible apply Step.callR fit); exact rfl; exact Tryd.func96; exact rfl; exact rfl; exact (compare_ok _ _ rfl)) | ((with_reducible apply Step.callR fit); exact rfl; exact Tryd.func108; exact rfl; exact rfl; exact (or_ok (hi _ _) (by simp) rfl)) | ((with_reducible apply Step.alloc 1); exact rfl; exact ze129; exact rfl; (focus (first | (simp only [List.nil_append, List.cons_append, List.set_cons_zero, List.set_cons_succ, iv_set, bv_set, iv_rep, bv_rep]; done) | (simp only [List.nil_append, List.cons_append, List.set_cons_zero, List.set_cons_succ, iv_set, bv_set, iv_rep, bv_rep]; rfl) | rfl))) | ((with_reducible apply Step.storeA (k := 1) (n := 3)); exact rfl; exact rfl; exact rfl; exact rfl; (focus (decide +kernel)); exact rfl; (focus (kernel_rfl)); exact rfl; (focus (first | (simp only [List.nil_append, List.cons_append, List.set_cons_zero, List.set_cons_succ, iv_set, bv_set, iv_rep, bv_rep]; done) | (simp only [List.nil_append, List.cons_append, List.set_cons_zero, List.set_cons_succ, iv_set, bv_set, iv_rep, bv_rep]; rfl) | rfl))) | ((with_reducible apply Step.buildS 2); exact rfl; exact rfl; exact (fun _ _ => bs47); exact rfl; (focus (first | (simp only [List.nil_append, List.cons_append, List.set_cons_zero, List.set_cons_succ, iv_set, bv_set, iv_rep, bv_rep]; done) | (simp only [List.nil_append, List.cons_append, List.set_cons_zero, List.set_cons_succ, iv_set, bv_set, iv_rep, bv_rep]; rfl) | rfl)))) | (with_reducible refine AWo.nil ?_) | ((with_reducible apply AW.seq)) | ((with_reducible apply Then.n)) | ((with_reducible apply AW.regL)) | ((with_reducible apply AW.block)) | ((with_reducible apply AW.drawT fit (T := (.step 0 (.step 1 (.step 2 (.step 3 (.step 4 (.step 5 (.step 6 (.step 7 (.step 8 (.step 10 (.step 12 (.step 13 (.step 14 (.step 15 (.both (.step 9 (.step 11 (.step 16 (.step 17 (.step 18 (.step 19 (.step 20 (.step 21 .done)))))))) (.both (.step 11 (.both (.step 9 (.step 16 (.step 17 (.step 18 (.step 19 (.step 20 (.step 21 .done))))))) (.step 16 (.step 9 (.step 17 (.step 18 (.step 19 (.step 20 (.step 21 .done))))))))) (.step 16 (.both (.step 9 (.step 11 (.step 17 (.step 18 (.step 19 (.step 20 (.step 21 .done))))))) (.step 11 (.step 9 (.step 17 (.step 18 (.step 19 (.step 20 (.step 21 .done))))))))))))))))))))))))))); (focus (decide +kernel))) | ((with_reducible apply AWt.step); exact rfl) | ((with_reducible apply AWt.done)) | ((with_reducible apply AW.skip)) | ((with_reducible apply AW.condT); exact rfl; (focus ((simp only [decide_eq_true_eq, decide_eq_false_iff_not, Bool.not_eq_true', Bool.not_eq_false', Bool.not_true, Bool.not_false]; first | assumption | omega)))) | ((with_reducible apply AW.condF); exact rfl; (focus ((simp only [decide_eq_true_eq, decide_eq_false_iff_not, Bool.not_eq_true', Bool.not_eq_false', Bool.not_true, Bool.not_false]; first | assumption | omega)))) | refine AWt.both ?_ ?_))
            all_goals
              ((with_reducible apply Step.storeLd (k := 0) (i := s) (l := w)); exact rfl; exact rfl; exact rfl; (focus (decide +kernel)); (focus (omega)); (focus (first | (simp only [List.nil_append, List.cons_append, List.set_cons_zero, List.set_cons_succ, iv_set, bv_set, iv_rep, bv_rep]; done) | (simp only [List.nil_append, List.cons_append, List.set_cons_zero, List.set_cons_succ, iv_set, bv_set, iv_rep, bv_rep]; rfl) | rfl)))
              (repeat (first | (with_reducible refine AWo.cons ?_) | ((with_reducible refine Step.id ?_); first | ((with_reducible apply Step.move); exact rfl; exact rfl) | ((with_reducible apply Step.assign); exact rfl; exact rfl) | ((with_reducible apply Step.add); exact rfl; exact rfl; (focus (omega)); exact rfl)) | (with_reducible refine AWo.nil ?_) | ((with_reducible apply Then.n)) | ((with_reducible apply AW.regL)) | ((with_reducible apply InBlk.n))))
              exact ⟨_, [(0, .int .i64 n), (1, v), (5, .slice (some ⟨m.length + 0, 0, none⟩) N N), (6, .int .i64 (s : Nat)), (7, .bool false), (25, v), (26, .int .i64 (l.length : Nat)), (27, .int .i64 (i + 1 : Nat))], [some { cells := lvc (Tb.set s w) }], by omega, (Back.trim rfl rfl (by repeat (first | exact CellsOk.nil | refine CellsOk.cons (by assumption) ?_)) (by repeat (first | exact trivial | (refine And.intro ⟨rfl, by (first | exact .int _ _ | exact .bool _ | exact .slice _ _ _ _ (by first | (simp; done) | omega | (simp; omega)) | exact Ren.of_sl (by assumption) (by first | omega | (simp; omega)))⟩ ?_)))), i + 1, rfl, by omega, by rw [hR, hTs], by rw [hR]⟩
          | false =>
            rw [hl] at hlt2 hR
            rw [if_neg (by decide)] at hR
            rw [decide_eq_false_iff_not] at hlt2
            (repeat' (first | (with_reducible refine AWo.cons ?_) | ((with_reducible refine Step.id ?_); first | ((with_reducible apply Step.gdT); exact rfl; exact rfl; (focus (rfl))) | ((with_reducible apply Step.move); exact rfl; exact rfl) | ((with_reducible apply Step.assign); exact rfl; exact rfl) | ((with_reducible apply Step.load); exact rfl; (focus (decide +kernel)); exact rfl; (focus (first | exact (r2 _).at_ 0 rfl | exact (r2 _).at_ 1 rfl | exact (r3 _).at_ 0 rfl | exact (r3 _).at_ 1 rfl | exact Rd.old _ (by assumption)))) | ((with_reducible apply Step.loadL (n := 3)); exact rfl; (focus (decide +kernel)); (focus (decide +kernel)); exact rfl; (focus (assumption)); exact rfl; exact rfl) | ((with_reducible apply Step.ix1); exact rfl; (focus (first | assumption | exact Sl.mk (by omega))); exact rfl; (focus (decide +kernel)); exact rfl; (focus (omega))) | ((with_reducible apply Step.ixz (s := 3)); exact rfl; (focus (exact Sl.mk (by omega))); exact rfl; (focus (decide +kernel)); exact rfl; (focus (omega))) | ((with_reducible apply Step.field0); exact rfl; (focus (decide +kernel)); exact rfl) | ((with_reducible apply Step.field (k := 1)); exact rfl; (focus (decide +kernel)); exact rfl) | ((with_reducible apply Step.shl1); exact rfl; exact rfl; (focus (omega)); exact rfl) | ((with_reducible apply Step.andN); exact rfl; exact rfl; (focus (omega)); (focus (omega)); exact rfl) | ((with_reducible apply Step.andnN); exact rfl; exact rfl; (focus (omega)); (focus (omega)); exact rfl) | ((with_reducible apply Step.add); exact rfl; exact rfl; (focus (omega)); exact rfl) | ((with_reducible apply Step.lss); exact rfl; exact rfl; exact rfl) | ((with_reducible apply Step.eql); exact rfl; exact rfl; exact rfl) | ((with_reducible apply Step.pickF); exact rfl; exact rfl; exact rfl; exact rfl; (focus (rfl))) | ((with_reducible apply Step.callR fit); exact rfl; exact Tryd.func107; exact rfl; exact rfl; exact (hW _)) | ((with_reducible apply Step.callR fit); exact rfl; exact Tryd.func96; exact rfl; exact rfl; exact (compare_ok _ _ rfl)) | ((with_reducible apply Step.callR fit); exact rfl; exact Tryd.func108; exact rfl; exact rfl; exact (or_ok (hi _ _) (by simp) rfl)) | ((with_reducible apply Step.alloc 1); exact rfl; exact ze129; exact rfl; (focus (first | (simp only [List.nil_append, List.cons_append, List.set_cons_zero, List.set_cons_succ, iv_set, bv_set, iv_rep, bv_rep]; done) | (simp only [List.nil_append, List.cons_append, List.set_cons_zero, List.set_cons_succ, iv_set, bv_set, iv_rep, bv_rep]; rfl) | rfl))) | ((with_reducible apply Step.storeA (k := 1) (n := 3)); exact rfl; exact rfl; exact rfl; exact rfl; (focus (decide +kernel)); exact rfl; (focus (kernel_rfl)); exact rfl; (focus (first | (simp only [List.nil_append, List.cons_append, List.set_cons_zero, List.set_cons_succ, iv_set, bv_set, iv_rep, bv_rep]; done) | (simp only [List.nil_append, List.cons_append, List.set_cons_zero, List.set_cons_succ, iv_set, bv_set, iv_rep, bv_rep]; rfl) | rfl))) | ((with_reducible apply Step.buildS 2); exact rfl; exact rfl; exact (fun _ _ => bs47); exact rfl; (focus (first | (simp only [List.nil_append, List.cons_append, List.set_cons_zero, List.set_cons_succ, iv_set, bv_set, iv_rep, bv_rep]; done) | (simp only [List.nil_append, List.cons_append, List.set_cons_zero, List.set_cons_succ, iv_set, bv_set, iv_rep, bv_rep]; rfl) | rfl)))) | (with_reducible refine AWo.nil ?_) | ((with_reducible apply AW.seq)) | ((with_reducible apply Then.n)) | ((with_reducible apply AW.regL)) | ((with_reducible apply AW.block)) | ((with_reducible apply AW.drawT fit (T := (.step 0 (.step 1 (.step 2 (.step 3 (.step 4 (.step 5 (.step 6 (.step 7 (.step 8 (.step 10 (.step 12 (.step 13 (.step 14 (.step 15 (.both (.step 9 (.step 11 (.step 16 (.step 17 (.step 18 (.step 19 (.step 20 (.step 21 .done)))))))) (.both (.step 11 (.both (.step 9 (.step 16 (.step 17 (.step 18 (.step 19 (.step 20 (.step 21 .done))))))) (.step 16 (.step 9 (.step 17 (.step 18 (.step 19 (.step 20 (.step 21 .done))))))))) (.step 16 (.both (.step 9 (.step 11 (.step 17 (.step 18 (.step 19 (.step 20 (.step 21 .done))))))) (.step 11 (.step 9 (.step 17 (.step 18 (.step 19 (.step 20 (.step 21 .done))))))))))))))))))))))))))); (focus (decide +kernel))) | ((with_reducible apply AWt.step); exact rfl) | ((with_reducible apply AWt.done)) | ((with_reducible apply InBlk.n)) | ((with_reducible apply AW.skip)) | ((with_reducible apply AW.condT); exact rfl; (focus ((simp only [decide_eq_true_eq, decide_eq_false_iff_not, Bool.not_eq_true', Bool.not_eq_false', Bool.not_true, Bool.not_false]; first | assumption | omega)))) | ((with_reducible apply AW.condF); exact rfl; (focus ((simp only [decide_eq_true_eq, decide_eq_false_iff_not, Bool.not_eq_true', Bool.not_eq_false', Bool.not_true, Bool.not_false]; first | assumption | omega)))) | refine AWt.both ?_ ?_))
            all_goals exact ⟨_, [(0, .int .i64 n), (1, v), (5, .slice (some ⟨m.length + 0, 0, none⟩) N N), (6, .int .i64 (s : Nat)), (7, .bool false), (25, v), (26, .int .i64 (l.length : Nat)), (27, .int .i64 (i + 1 : Nat))], [some { cells := lvc Tb }], by omega, (Back.trim rfl rfl (by repeat (first | exact CellsOk.nil | refine CellsOk.cons (by assumption) ?_)) (by repeat (first | exact trivial | (refine And.intro ⟨rfl, by (first | exact .int _ _ | exact .bool _ | exact .slice _ _ _ _ (by first | (simp; done) | omega | (simp; omega)) | exact Ren.of_sl (by assumption) (by first | omega | (simp; omega)))⟩ ?_)))), i + 1, rfl, by omega, by rw [hR, hc, hTb], by rw [hR, hf]⟩
    · obtain rfl : i = l.length := by omega
      have e1 : (pkR n p (pkD n p l.length) s l.length).1 = pkD n p l.length s := (pkD_pos (by omega)).symm
      rw [e1, tbs_next hlt]
      (repeat (first | (with_reducible refine AWo.cons ?_) | ((with_reducible refine Step.id ?_); first | ((with_reducible apply Step.move); exact rfl; exact rfl) | ((with_reducible apply Step.assign); exact rfl; exact rfl) | ((with_reducible apply Step.add); exact rfl; exact rfl; (focus (omega)); exact rfl) | ((with_reducible apply Step.lss); exact rfl; exact rfl; exact rfl)) | (with_reducible refine AWo.nil ?_) | ((with_reducible apply AW.seq)) | ((with_reducible apply Then.n)) | ((with_reducible apply AW.regL)) | ((with_reducible apply AW.exit)) | ((with_reducible apply InBlk.n)) | ((with_reducible apply InBlk.hit)) | ((with_reducible apply Then.e)) | ((with_reducible apply AW.condF); exact rfl; (focus ((simp only [decide_eq_true_eq, decide_eq_false_iff_not, Bool.not_eq_true', Bool.not_eq_false', Bool.not_true, Bool.not_false]; first | assumption | omega))))))
      exact ⟨_, _, _, by omega, (Or.inl ⟨rfl, (by repeat (first | exact trivial | (refine And.intro rfl ?_)))⟩), s + 1, rfl, by omega, by omega, rfl, rfl⟩
  · obtain rfl : s = N := by omega
    have e0 : tbs n p l.length s s = pkT n p l.length s := by unfold tbs; rw [if_neg (by omega)]
    rw [e0]
    (repeat (first | (with_reducible refine AWo.cons ?_) | ((with_reducible refine Step.id ?_); first | ((with_reducible apply Step.move); exact rfl; exact rfl) | ((with_reducible apply Step.assign); exact rfl; exact rfl) | ((with_reducible apply Step.lss); exact rfl; exact rfl; exact rfl) | ((with_reducible apply Step.len); exact rfl; (focus (exact Sl.mk (by omega))); (focus (decide +kernel)); exact rfl)) | (with_reducible refine AWo.nil ?_) | ((with_reducible apply AW.seq)) | ((with_reducible apply Then.n)) | ((with_reducible apply AW.regL)) | ((with_reducible apply AW.exit)) | ((with_reducible apply InBlk.hit)) | ((with_reducible apply Then.e)) | ((with_reducible apply AW.condF); exact rfl; (focus ((simp only [decide_eq_true_eq, decide_eq_false_iff_not, Bool.not_eq_true', Bool.not_eq_false', Bool.not_true, Bool.not_false]; first | assumption | omega))))))
    have gT := g0_lvc (pkT n p l.length s)
    refine AW.retB (l := [(4, .slice (some ⟨m.length + 0, 0, none⟩) s s)]) (L1 := [some { cells := lvc (pkT n p l.length s) }]) (Back.trim rfl rfl (by repeat (first | exact CellsOk.nil | refine CellsOk.cons (by assumption) ?_)) (by repeat (first | exact trivial | (refine And.intro ⟨rfl, by (exact .slice _ _ _ _ (by first | (simp; done) | omega | (simp; omega)))⟩ ?_)))) ?_
    exact ⟨_, rfl, rfl, rfl⟩
end Go.Proofs.YtibhgdglbillaaaDoor.Abs
namespace Go.Proofs.YtibhgdglbillaaaDoor.Abs
set_option linter.unusedSimpArgs false
set_option linter.unusedVariables false
open Go.RowKit
open Go.Proofs.YtibhgdglbillaaaDoor.Sim
open Go.Proofs
set_option maxRecDepth 100000 in
theorem Fewest_no {m : AM} {v : Value} {l : List Int} {n : Int} (hl : Ints m v l) (hlen : l.length ≤ 9223372036854775807) (hok : stripsB n l = false) : ACall Tryd.prog 43 #[.int .i64 n, v] m (Ret (.tuple #[.int .i64 0, .int .i64 2]) m) := by
  refine ACall.start Tryd.func43 rfl rfl ?_
  (repeat (first | (with_reducible refine AWo.cons ?_) | ((with_reducible refine Step.id ?_); first | ((with_reducible apply Step.move); exact rfl; exact rfl) | ((with_reducible apply Step.assign); exact rfl; exact rfl) | ((with_reducible apply Step.not); exact rfl; exact rfl) | ((with_reducible apply Step.callR fit); exact rfl; exact Tryd.func88; exact rfl; exact rfl; exact (valid_ok (hl.old []) hlen hok))) | (with_reducible refine AWo.nil ?_) | ((with_reducible apply AW.seq)) | ((with_reducible apply Then.n)) | ((with_reducible apply AW.regL)) | ((with_reducible apply AW.condT); exact rfl; (focus (rfl)))))
  (refine AW.retD (l := [(4, _), (5, _)]) (by repeat (first | exact trivial | (refine And.intro ⟨rfl, by (exact .int _ _)⟩ ?_))) ?_; (repeat (first | refine Then.r ?_ | refine InBlk.r ?_)))
  exact ⟨_, rfl, rfl, rfl⟩
set_option maxRecDepth 100000 in
theorem Fewest_ok {m : AM} {v : Value} {l : List Int} {n : Int} (hl : Ints m v l) (hok : stripsB n l = true) : ACall Tryd.prog 43 #[.int .i64 n, v] m (Ret (.tuple #[.int .i64 (fewest n (fun i => l.getD i 0) l.length : Nat), .int .i64 0]) m) := by
  have h := SpOk.of hok
  have hl14 := h.len
  have hN : 2 ^ l.length ≤ 16384 := by
    have : 2 ^ l.length ≤ 2 ^ 14 := Nat.pow_le_pow_right (by omega) hl14
    omega
  have hN1 : 1 ≤ 2 ^ l.length := Nat.one_le_two_pow
  have hg : ((pkT n (fun i => l.getD i 0) l.length (2 ^ l.length)).getD (2 ^ l.length - 1) (0, 0, 0)) = pkD n (fun i => l.getD i 0) l.length (2 ^ l.length - 1) := pkT_get (by omega)
  have hT := pkT_len (n := n) (p := fun i => l.getD i 0) (k := l.length) (2 ^ l.length)
  refine ACall.start Tryd.func43 rfl rfl ?_
  (repeat (first | (with_reducible refine AWo.cons ?_) | ((with_reducible refine Step.id ?_); first | ((with_reducible apply Step.move); exact rfl; exact rfl) | ((with_reducible apply Step.assign); exact rfl; exact rfl) | ((with_reducible apply Step.not); exact rfl; exact rfl) | ((with_reducible apply Step.callR fit); exact rfl; exact Tryd.func88; exact rfl; exact rfl; exact (valid_ok (hl.old []) (by omega) hok)) | ((with_reducible apply Step.callN fit (k := 0)); exact rfl; exact rfl; exact Tryd.func89; exact rfl; exact rfl; exact (packed_ok (hl.old []) hok); (focus (first | (simp only [List.nil_append, List.cons_append, List.set_cons_zero, List.set_cons_succ, iv_set, bv_set, iv_rep, bv_rep]; done) | (simp only [List.nil_append, List.cons_append, List.set_cons_zero, List.set_cons_succ, iv_set, bv_set, iv_rep, bv_rep]; rfl) | rfl)))) | (with_reducible refine AWo.nil ?_) | ((fail_if_success (with_reducible refine AW.atR (id := 4) ?_)); ((with_reducible apply AW.seq))) | ((with_reducible apply Then.n)) | ((with_reducible apply AW.regL)) | ((with_reducible apply AW.skip)) | ((with_reducible apply AW.condF); exact rfl; (focus (rfl)))))
  have ef : fewest n (fun i => l.getD i 0) l.length = (pkD n (fun i => l.getD i 0) l.length (2 ^ l.length - 1)).1 := rfl
  rw [ef]
  have gT := g0_lvc (pkT n (fun i => l.getD i 0) l.length (2 ^ l.length))
  generalize pkT n (fun i => l.getD i 0) l.length (2 ^ l.length) = Q at *
  generalize pkD n (fun i => l.getD i 0) l.length (2 ^ l.length - 1) = d at *
  generalize hN2 : 2 ^ l.length = N at *
  have e1 : ((N : Nat) : Int) - 1 = ((N - 1 : Nat) : Int) := by omega
  have r1 : RdL (m ++ [some { cells := lvc Q }]) (m.length + 0) ((N - 1) * 3) (ldc d) := by
    rw [← hg]
    exact rdl_ld rfl (by omega)
  (repeat (first | (with_reducible refine AWo.cons ?_) | ((with_reducible refine Step.id ?_); first | ((with_reducible apply Step.move); exact rfl; exact rfl) | ((with_reducible apply Step.assign); exact rfl; exact rfl) | ((with_reducible apply Step.load); exact rfl; (focus (decide +kernel)); exact rfl; (focus (exact r1.at_ 0 rfl))) | ((with_reducible apply Step.ixz (s := 3)); exact rfl; (focus (exact Sl.mk (by omega))); exact rfl; (focus (decide +kernel)); exact rfl; (focus (omega))) | ((with_reducible apply Step.field0); exact rfl; (focus (decide +kernel)); exact rfl) | ((with_reducible apply Step.subE); exact rfl; exact rfl; (focus (assumption)); (focus (omega)); exact rfl) | ((with_reducible apply Step.len); exact rfl; (focus (exact Sl.mk (by omega))); (focus (decide +kernel)); exact rfl)) | (with_reducible refine AWo.nil ?_) | ((with_reducible apply AW.seq)) | ((with_reducible apply Then.n)) | ((with_reducible apply AW.regL))))
  (refine AW.retD (l := [(4, _), (5, _)]) (by repeat (first | exact trivial | (refine And.intro ⟨rfl, by (exact .int _ _)⟩ ?_))) ?_; (repeat (first | refine Then.r ?_ | refine InBlk.r ?_)))
  exact ⟨_, rfl, rfl, rfl⟩
abbrev Lp := Nat × Int
def lpc (l : Lp) : List Value := [.int .i64 (l.1 : Nat), .int .i64 l.2]
def lpv (l : List Lp) : List Value := l.flatMap lpc
theorem lpv_len (l : List Lp) : (lpv l).length = l.length * 2 := by
  induction l with
  | nil => rfl
  | cons k l ih =>
    have : lpv (k :: l) = lpc k ++ lpv l := rfl
    rw [this, List.length_append, ih]
    simp [lpc]
    omega
theorem lpv_get : ∀ (l : List Lp) (i : Nat), i < l.length → ∀ (j : Nat) (v : Value), (lpc (l.getD i (0, 0)))[j]? = some v → (lpv l)[i * 2 + j]? = some v
  | [], i, hi, _, _, _ => by simp at hi
  | k :: l, 0, _, j, v, hj => by
    have e : lpv (k :: l) = lpc k ++ lpv l := rfl
    have hj' : (lpc k)[j]? = some v := by simpa using hj
    have hlt := (List.getElem?_eq_some_iff.1 hj').1
    rw [e, Nat.zero_mul, Nat.zero_add, List.getElem?_append_left hlt]
    exact hj'
  | k :: l, i + 1, hi, j, v, hj => by
    have e : lpv (k :: l) = lpc k ++ lpv l := rfl
    have e3 : (lpc k).length = 2 := rfl
    rw [e, List.getElem?_append_right (by rw [e3]; omega), e3, show (i + 1) * 2 + j - 2 = i * 2 + j by omega]
    exact lpv_get l i (by simpa using hi) j v (by simpa using hj)
theorem lpv_app (a b : List Lp) : lpv (a ++ b) = lpv a ++ lpv b := by simp [lpv]
theorem lpv_set (l : List Lp) (i : Nat) (x : Lp) (h : i < l.length) : splice (lpv l) (i * 2) (lpc x) = lpv (l.set i x) := by
  have e1 : l = l.take i ++ l[i] :: l.drop (i + 1) := by rw [← List.drop_eq_getElem_cons h, List.take_append_drop]
  have e2 : l.set i x = l.take i ++ x :: l.drop (i + 1) := by rw [List.set_eq_take_append_cons_drop, if_pos h]
  have lt : (l.take i).length = i := by simp; omega
  rw [e2]
  conv => lhs; rw [e1]
  have c : ∀ (y : Lp), lpv (l.take i ++ y :: l.drop (i + 1)) = lpv (l.take i) ++ (lpc y ++ lpv (l.drop (i + 1))) := fun y => by rw [lpv_app]; rfl
  rw [c, c]
  have l1 : (lpv (l.take i)).length = i * 2 := by rw [lpv_len, lt]
  unfold splice
  rw [List.take_append_of_le_length (by omega), List.take_of_length_le (by omega), List.drop_append, List.drop_eq_nil_of_le (by omega), List.append_assoc, List.nil_append, l1]
  congr 2
  have l3 : (lpc x).length = 2 := rfl
  have l4 : (lpc l[i]).length = 2 := rfl
  rw [l3, show i * 2 + 2 - i * 2 = 2 by omega, List.drop_append, List.drop_eq_nil_of_le (by omega), l4]
  simp
theorem lpv_rep (n : Nat) : List.replicate (n * 2) (Value.int .i64 0) = lpv (List.replicate n (0, 0)) := by
  induction n with
  | zero => rfl
  | succ n ih =>
    have e : lpv (List.replicate (n + 1) ((0, 0) : Lp)) = lpc (0, 0) ++ lpv (List.replicate n (0, 0)) := by rw [List.replicate_succ]; rfl
    rw [e, ← ih, show (n + 1) * 2 = 2 + n * 2 by omega, ← List.replicate_append_replicate]
    rfl
theorem made2 (n : Nat) : (madeCells #[.int .i64 0, .int .i64 0] (n * 2)).toList = lpv (List.replicate n (0, 0)) := by
  rw [← lpv_rep]
  apply List.ext_getElem?
  intro i
  simp only [madeCells, Array.toList_map, List.getElem?_map, List.getElem?_replicate, Array.getElem?_toList]
  by_cases h : i < n * 2
  · simp [h]
    rcases (show i % 2 = 0 ∨ i % 2 = 1 by omega) with e | e <;> rw [e] <;> rfl
  · simp [h]
theorem g0_lpc (l : Lp) : ∀ v ∈ lpc l, g0 v = true := fun v hv => by
  simp only [lpc, List.mem_cons, List.not_mem_nil, or_false] at hv
  rcases hv with rfl | rfl <;> rfl
theorem g0_lpv (l : List Lp) : ∀ v ∈ lpv l, g0 v = true := fun v hv => by
  obtain ⟨x, _, hx⟩ := List.mem_flatMap.1 hv
  exact g0_lpc x v hx
section
variable {P : Program} {nt : Nat} {ops : Array Oper} {t : Fm} {K : Fm → AM → Prop} {d T : Nat} {p : String} {af : Array Edge}
theorem Step.make2 {x y : Operand} {X : TypeId} {n : Nat} {kx ky : IntKind} {e : TypeId} {by_ : Nat} {M L L' : AM} (k : Nat) (hk : L.length = k) (hx : evo t x = some (.int kx ((n : Nat) : Int))) (hy : evo t y = some (.int ky ((n : Nat) : Int))) (he : elemB P X = some (e, 2, by_, #[.int .i64 0, .int .i64 0])) (hb : by_ * n ≤ 281474976710656 ∧ n ≤ 9223372036854775807)
    (hlt : Nat.blt d nt = true) (hL : L ++ [some { cells := lpv (List.replicate n (0, 0)) }] = L') (hK : K (put t d (.slice (some ⟨M.length + k, 0, none⟩) n n)) (M ++ L')) : Step P nt ops ⟨some d, .makeSlice X x y, T, p, af, none⟩ t (M ++ L) K :=
  Step.make k hk hx hy he ⟨hb.1, hb.2, by omega⟩ hlt (by rw [made2]; exact hL) hK
theorem Step.storeLp {x y : Operand} {ty : TypeId} {k i : Nat} {Q : List Lp} {l : Lp} {M L L' : AM} (hx : evo t x = some (.pointer (some ⟨M.length + k, i * 2, none⟩))) (hy : evo t y = some (.agg (lpc l).toArray)) (hb : L[k]? = some (some { cells := lpv Q })) (hz : szB P ty = some 2) (hi : i < Q.length)
    (hL : L.set k (some { cells := lpv (Q.set i l) }) = L') (hK : K t (M ++ L')) : Step P nt ops ⟨none, .store ty x y, T, p, af, none⟩ t (M ++ L) K := by
  refine Step.stores (n := 2) (o := i * 2) hx hy hb rfl hz rfl (by kernel_rfl) ?_ ?_ hK
  · show i * 2 + 2 ≤ (lpv Q).length
    rw [lpv_len]; omega
  · rw [← hL]
    show L.set k (some { cells := splice (lpv Q) (i * 2) (lpc l) }) = _
    rw [lpv_set _ _ _ hi]
end
theorem rdl_lp {M L : AM} {k i : Nat} {l : List Lp} (h : L[k]? = some (some { cells := lpv l })) (hi : i < l.length) : RdL (M ++ L) (M.length + k) (i * 2) (lpc (l.getD i (0, 0))) :=
  ⟨_, by rw [get_app]; exact h, fun j v hj => lpv_get l i hi j v hj⟩
theorem ze132 : zeroB Tryd.prog 132 = some #[.int .i64 0, .int .i64 0] := by kernel_rfl
theorem bl132 {a b : Int} : abuild Tryd.prog 132 [(0, .int .i64 a), (1, .int .i64 b)] = some (.agg #[.int .i64 a, .int .i64 b]) := by kernel_rfl
theorem el130 : elemB Tryd.prog 130 = some (132, 2, 16, #[.int .i64 0, .int .i64 0]) := by kernel_rfl
/-- The reference's table: the sets below s are done. -/
def tb2 (n : Int) (p : Nat → Int) (k N s : Nat) : List Lp := (pkT n p k s).map l2 ++ List.replicate (N - s) (0, 0)
section
variable {n : Int} {p : Nat → Int} {k N s : Nat}
theorem tb2_len (h : s ≤ N) : (tb2 n p k N s).length = N := by simp [tb2, pkT_len]; omega
theorem tb2_old {j : Nat} (h : j < s) : (tb2 n p k N s).getD j (0, 0) = l2 (pkD n p k j) := by
  rw [← pkT_get h]
  have hl : j < (pkT n p k s).length := by rw [pkT_len]; exact h
  unfold tb2
  rw [List.getD_eq_getElem?_getD, List.getElem?_append_left (by rw [List.length_map]; exact hl)]
  simp [hl]
theorem tb2_set (h : s < N) : (tb2 n p k N s).set s (l2 (pkD n p k s)) = tb2 n p k N (s + 1) := by
  unfold tb2
  rw [List.set_append_right _ _ (by rw [List.length_map, pkT_len]; exact Nat.le_refl _), List.length_map, pkT_len, Nat.sub_self, show N - s = (N - (s + 1)) + 1 by omega, List.replicate_succ, List.set_cons_zero]
  have e : pkT n p k (s + 1) = pkT n p k s ++ [pkD n p k s] := by rw [pkD_row]; rfl
  rw [e, List.map_append, List.append_assoc]
  rfl
theorem tb2_zero : List.replicate N ((0, 0) : Lp) = tb2 n p k N 0 := by simp [tb2, pkT]
end
set_option maxRecDepth 100000 in
theorem RFewest_no {m : AM} {v : Value} {l : List Int} {n : Int} (hl : Ints m v l) (hlen : l.length ≤ 9223372036854775807) (hok : stripsB n l = false) : ACall Tryd.prog 44 #[.int .i64 n, v] m (Ret (.tuple #[.int .i64 0, .int .i64 2]) m) := by
  refine ACall.start Tryd.func44 rfl rfl ?_
  (repeat (first | (with_reducible refine AWo.cons ?_) | ((with_reducible refine Step.id ?_); first | ((with_reducible apply Step.move); exact rfl; exact rfl) | ((with_reducible apply Step.assign); exact rfl; exact rfl) | ((with_reducible apply Step.not); exact rfl; exact rfl) | ((with_reducible apply Step.callR fit); exact rfl; exact Tryd.func61; exact rfl; exact rfl; exact (RStrips_ok (hl.old []) hlen hok))) | (with_reducible refine AWo.nil ?_) | ((with_reducible apply AW.seq)) | ((with_reducible apply Then.n)) | ((with_reducible apply AW.regL)) | ((with_reducible apply AW.condT); exact rfl; (focus (rfl)))))
  (refine AW.retD (l := [(4, _), (5, _)]) (by repeat (first | exact trivial | (refine And.intro ⟨rfl, by (exact .int _ _)⟩ ?_))) ?_; (repeat (first | refine Then.r ?_ | refine InBlk.r ?_)))
  exact ⟨_, rfl, rfl, rfl⟩
theorem shr_bit (s i : Nat) : s / 2 ^ i &&& 1 = if s.testBit i then 1 else 0 := by
  rw [Nat.and_one_is_mod, Nat.testBit_eq_decide_div_mod_eq]
  have : s / 2 ^ i % 2 < 2 := Nat.mod_lt _ (by omega)
  by_cases h : s / 2 ^ i % 2 = 1
  · simp [h]
  · simp [h]; omega
set_option maxHeartbeats 8000000 in
set_option maxRecDepth 100000 in
theorem RFewest_ok {m : AM} {v : Value} {l : List Int} {n : Int} (hl : Ints m v l) (hok : stripsB n l = true) : ACall Tryd.prog 44 #[.int .i64 n, v] m (Ret (.tuple #[.int .i64 (fewest n (fun i => l.getD i 0) l.length : Nat), .int .i64 0]) m) := by
  have h := SpOk.of hok
  have hn1 := h.n1
  have hn2 := h.n2
  have hl14 := h.len
  obtain ⟨a, o, h1, h2, h3⟩ := id hl
  have ef : fewest n (fun i => l.getD i 0) l.length = (pkD n (fun i => l.getD i 0) l.length (2 ^ l.length - 1)).1 := rfl
  rw [ef]
  obtain ⟨p, hp⟩ : ∃ p : Nat → Int, p = fun i => l.getD i 0 := ⟨_, rfl⟩
  have hpb : ∀ i, i < l.length → 1 ≤ p i ∧ p i ≤ n := by rw [hp]; exact h.at_
  have hN : 2 ^ l.length ≤ 16384 := by
    have : 2 ^ l.length ≤ 2 ^ 14 := Nat.pow_le_pow_right (by omega) hl14
    omega
  have hN1 : 1 ≤ 2 ^ l.length := Nat.one_le_two_pow
  have pw : ∀ i, i ≤ l.length → 2 ^ i ≤ 16384 := fun i hi => Nat.le_trans (Nat.pow_le_pow_right (by omega) hi) hN
  have hD := fun s (hs : s < 2 ^ l.length) => pkD_use hpb (by omega) s hs
  have hC := fun s (hs : s < 2 ^ l.length) => pkD_cnt (n := n) (p := p) s hs
  have hC2 := fun s => cntS_le (k := l.length) s
  have hR2 := fun s (hs : s < 2 ^ l.length) (h0 : s ≠ 0) => rpR_D (n := n) (p := p) hs h0
  rw [← hp]
  clear ef
  refine ACall.start Tryd.func44 rfl rfl ?_
  (repeat (first | (with_reducible refine AWo.cons ?_) | ((with_reducible refine Step.id ?_); first | ((with_reducible apply Step.move); exact rfl; exact rfl) | ((with_reducible apply Step.assign); exact rfl; exact rfl) | ((with_reducible apply Step.shl1); exact rfl; exact rfl; (focus (omega)); exact rfl) | ((with_reducible apply Step.len); exact rfl; (focus (assumption)); (focus (decide +kernel)); exact rfl) | ((with_reducible apply Step.not); exact rfl; exact rfl) | ((with_reducible apply Step.callR fit); exact rfl; exact Tryd.func61; exact rfl; exact rfl; exact (RStrips_ok (hl.old []) (by omega) hok))) | (with_reducible refine AWo.nil ?_) | ((with_reducible apply AW.seq)) | ((with_reducible apply Then.n)) | ((with_reducible apply AW.regL)) | ((with_reducible apply AW.skip)) | ((with_reducible apply AW.condF); exact rfl; (focus (rfl)))))
  ((with_reducible apply Step.make2 0); exact rfl; exact rfl; exact rfl; exact el130; exact ⟨by omega, by omega⟩; exact rfl; (focus (first | (simp only [List.nil_append, List.cons_append, List.set_cons_zero, List.set_cons_succ, iv_set, bv_set, iv_rep, bv_rep]; done) | (simp only [List.nil_append, List.cons_append, List.set_cons_zero, List.set_cons_succ, iv_set, bv_set, iv_rep, bv_rep]; rfl) | rfl)))
  generalize hN2 : 2 ^ l.length = N at *
  rw [tb2_zero (n := n) (p := p) (k := l.length)]
  have l0 := tb2_len (n := n) (p := p) (k := l.length) (N := N) (s := 0) (by omega)
  (repeat (first | (with_reducible refine AWo.cons ?_) | ((with_reducible refine Step.id ?_); first | ((with_reducible apply Step.move); exact rfl; exact rfl) | ((with_reducible apply Step.assign); exact rfl; exact rfl) | ((with_reducible apply Step.ix (s := 2) (k := 0)); exact rfl; (focus (exact Sl.mk (by omega))); exact rfl; (focus (decide +kernel)); exact rfl; (focus (omega))) | ((with_reducible apply Step.build); exact rfl; exact bl132; exact rfl)) | (with_reducible refine AWo.nil ?_) | ((with_reducible apply AW.seq)) | ((with_reducible apply Then.n)) | ((with_reducible apply AW.regL))))
  ((with_reducible apply Step.storeLp (k := 0) (i := 0) (l := (0, n))); exact rfl; exact rfl; exact rfl; (focus (decide +kernel)); (focus (omega)); (focus (first | (simp only [List.nil_append, List.cons_append, List.set_cons_zero, List.set_cons_succ, iv_set, bv_set, iv_rep, bv_rep]; done) | (simp only [List.nil_append, List.cons_append, List.set_cons_zero, List.set_cons_succ, iv_set, bv_set, iv_rep, bv_rep]; rfl) | rfl)))
  have hz : (tb2 n p l.length N 0).set 0 (0, n) = tb2 n p l.length N 1 := tb2_set (s := 0) (by omega)
  rw [hz]
  (repeat (first | (with_reducible refine AWo.cons ?_) | ((with_reducible refine Step.id ?_); ((with_reducible apply Step.assign); exact rfl; exact rfl)) | (with_reducible refine AWo.nil ?_) | ((with_reducible apply AW.seq)) | ((with_reducible apply Then.n)) | ((with_reducible apply AW.regL)) | ((with_reducible apply AW.block))))
  refine AW.loopT (fun q t L => ∃ s : Nat, q = N - s ∧ 1 ≤ s ∧ s ≤ N ∧ L = [some { cells := lpv (tb2 n p l.length N s) }] ∧
    t = [(0, .int .i64 n), (1, v), (6, .slice (some ⟨m.length + 0, 0, none⟩) N N), (7, .int .i64 (s : Nat))]) ⟨_, [(0, .int .i64 n), (1, v), (6, .slice (some ⟨m.length + 0, 0, none⟩) N N), (7, .int .i64 1)], _, (Or.inl ⟨rfl, (by repeat (first | exact trivial | (refine And.intro rfl ?_)))⟩), 1, rfl, Nat.le_refl _, by omega, rfl, rfl⟩ ?_
  rintro q t L ⟨s, rfl, hs1, hs, rfl, rfl⟩
  rcases Nat.lt_or_ge s N with hlt | hge
  · have ek : ((l.length : Nat) : Int) + 1 = ((l.length + 1 : Nat) : Int) := rfl
    (repeat (first | (with_reducible refine AWo.cons ?_) | ((with_reducible refine Step.id ?_); first | ((with_reducible apply Step.move); exact rfl; exact rfl) | ((with_reducible apply Step.addE); exact rfl; exact rfl; (focus (assumption)); (focus (omega)); exact rfl) | ((with_reducible apply Step.lss); exact rfl; exact rfl; exact rfl) | ((with_reducible apply Step.len); exact rfl; (focus (first | assumption | exact Sl.mk (by omega))); (focus (decide +kernel)); exact rfl) | ((with_reducible apply Step.alloc 1); exact rfl; exact ze132; exact rfl; (focus (first | (simp only [List.nil_append, List.cons_append, List.set_cons_zero, List.set_cons_succ, iv_set, bv_set, iv_rep, bv_rep]; done) | (simp only [List.nil_append, List.cons_append, List.set_cons_zero, List.set_cons_succ, iv_set, bv_set, iv_rep, bv_rep]; rfl) | rfl))) | ((with_reducible apply Step.storeA (k := 1) (n := 2)); exact rfl; exact rfl; exact rfl; exact rfl; (focus (decide +kernel)); exact rfl; (focus (kernel_rfl)); exact rfl; (focus (first | (simp only [List.nil_append, List.cons_append, List.set_cons_zero, List.set_cons_succ, iv_set, bv_set, iv_rep, bv_rep]; done) | (simp only [List.nil_append, List.cons_append, List.set_cons_zero, List.set_cons_succ, iv_set, bv_set, iv_rep, bv_rep]; rfl) | rfl))) | ((with_reducible apply Step.build); exact rfl; exact bl132; exact rfl)) | (with_reducible refine AWo.nil ?_) | ((with_reducible apply AW.seq)) | ((with_reducible apply Then.n)) | ((with_reducible apply AW.regL)) | ((with_reducible apply AW.block)) | ((with_reducible apply AW.skip)) | ((with_reducible apply AW.condT); exact rfl; (focus ((simp only [decide_eq_true_eq, decide_eq_false_iff_not, Bool.not_eq_true', Bool.not_eq_false', Bool.not_true, Bool.not_false]; first | assumption | omega))))))
    refine AW.loopT (fun q t L => ∃ i : Nat, q = l.length - i ∧ i ≤ l.length ∧ L = [some { cells := lpv (tb2 n p l.length N s) }, some { cells := lpc (rpR n p l.length (fun j => l2 (pkD n p l.length j)) s i) }] ∧
      t = [(0, .int .i64 n), (1, v), (6, .slice (some ⟨m.length + 0, 0, none⟩) N N), (7, .int .i64 (s : Nat)), (8, .pointer (some ⟨m.length + 1, 0, none⟩)), (34, v), (35, .int .i64 (l.length : Nat)), (36, .int .i64 (i : Nat))]) ⟨_, _, _, (Or.inl ⟨rfl, (by repeat (first | exact trivial | (refine And.intro rfl ?_)))⟩), 0, rfl, Nat.zero_le _, rfl, rfl⟩ ?_
    rintro q t L ⟨i, rfl, hi, rfl, rfl⟩
    have hTl := tb2_len (n := n) (p := p) (k := l.length) (N := N) (s := s) hs
    rcases Nat.lt_or_ge i l.length with hil | hil
    · have hr := h3 i hil
      have hpi := hpb i hil
      have ep : l.getD i 0 = p i := by rw [hp]
      rw [ep] at hr
      have hi62 : i ≤ 62 := by omega
      have hpw := pw i hi
      have and2 := shr_bit s i
      have hq : s / 2 ^ i ≤ 16384 := Nat.le_trans (Nat.div_le_self _ _) (by omega)
      cases hb : s.testBit i with
      | false =>
        have hR := rpR_no (n := n) (p := p) (k := l.length) (f := fun j => l2 (pkD n p l.length j)) (s := s) (i := i) (by rw [hb]; decide)
        rw [hb] at and2
        have and3 : s / 2 ^ i &&& 1 = 0 := by rw [and2]; rfl
        have gT := g0_lpv (tb2 n p l.length N s)
        have gc := g0_lpc (rpR n p l.length (fun j => l2 (pkD n p l.length j)) s i)
        (repeat (first | (with_reducible refine AWo.cons ?_) | ((with_reducible refine Step.id ?_); first | ((with_reducible apply Step.move); exact rfl; exact rfl) | ((with_reducible apply Step.assign); exact rfl; exact rfl) | ((with_reducible apply Step.load); exact rfl; (focus (decide +kernel)); exact rfl; (focus (exact Rd.old _ (by assumption)))) | ((with_reducible apply Step.ix1); exact rfl; (focus (assumption)); exact rfl; (focus (decide +kernel)); exact rfl; (focus (omega))) | ((with_reducible apply Step.shrN); exact rfl; exact rfl; (focus (omega)); exact rfl) | ((with_reducible apply Step.and1); exact rfl; exact rfl; (focus (omega)); exact rfl) | ((with_reducible apply Step.add); exact rfl; exact rfl; (focus (omega)); exact rfl) | ((with_reducible apply Step.lss); exact rfl; exact rfl; exact rfl) | ((with_reducible apply Step.eql); exact rfl; exact rfl; exact rfl)) | (with_reducible refine AWo.nil ?_) | ((with_reducible apply AW.seq)) | ((with_reducible apply Then.n)) | ((with_reducible apply AW.regL)) | ((with_reducible apply AW.block)) | ((with_reducible apply AW.exit)) | ((with_reducible apply InBlk.hit)) | ((with_reducible apply Then.e)) | ((with_reducible apply AW.skip)) | ((with_reducible apply AW.condT); exact rfl; (focus ((simp only [decide_eq_true_eq, decide_eq_false_iff_not, Bool.not_eq_true', Bool.not_eq_false', Bool.not_true, Bool.not_false]; first | assumption | omega))))))
        exact ⟨_, _, _, by omega, (Or.inl ⟨rfl, (by repeat (first | exact trivial | (refine And.intro rfl ?_)))⟩), i + 1, rfl, by omega, by rw [hR], rfl⟩
      | true =>
        have hR := rpR_bit (n := n) (p := p) (k := l.length) (f := fun j => l2 (pkD n p l.length j)) (s := s) (i := i) hb
        rw [hb] at and2
        have and3 : s / 2 ^ i &&& 1 = 1 := by rw [and2]; rfl
        have hj := andn_lt hb
        have hjD := hD (andn s (2 ^ i)) (by omega)
        have hjC := hC (andn s (2 ^ i)) (by omega)
        have hjC2 := hC2 (andn s (2 ^ i))
        have r1 : RdL (m ++ [some { cells := lpv (tb2 n p l.length N s) }, some { cells := lpc (rpR n p l.length (fun j => l2 (pkD n p l.length j)) s i) }]) (m.length + 0) (andn s (2 ^ i) * 2) (lpc (l2 (pkD n p l.length (andn s (2 ^ i))))) := by
          rw [← tb2_old (n := n) (p := p) (k := l.length) (N := N) hj]
          exact rdl_lp rfl (by omega)
        generalize hc' : rpR n p l.length (fun j => l2 (pkD n p l.length j)) s (i + 1) = c' at *
        generalize rpR n p l.length (fun j => l2 (pkD n p l.length j)) s i = c at *
        generalize pkD n p l.length (andn s (2 ^ i)) = d at *
        obtain ⟨q1, q2, q3⟩ := d
        obtain ⟨c1, c2⟩ := c
        generalize tb2 n p l.length N s = Tb at *
        have gT := g0_lpv Tb
        have l2e : l2 (q1, q2, q3) = (q1, q2) := rfl
        simp only [l2e] at *
        try simp only at hjD
        try simp only at hjC
        try simp only at hR
        have eq1 : ((q1 + 1 : Nat) : Int) = (q1 : Int) + 1 := rfl
        change RdL _ _ _ [.int .i64 (q1 : Nat), .int .i64 q2] at r1
        change RdL (m ++ [some { cells := lpv Tb }, some { cells := [.int .i64 (c1 : Nat), .int .i64 c2] }]) _ _ _ at r1
        change AW _ _ _ _ _ (m ++ [some { cells := lpv Tb }, some { cells := [.int .i64 (c1 : Nat), .int .i64 c2] }]) _
        by_cases hgt : q2 + p i > n
        · rw [if_pos hgt] at hR
          simp only at hR
          have gc := g0_lpc (q1 + 1, p i)
          have gd := g0_lpc (c1, c2)
          by_cases d1 : q1 + 1 < c1
          · have hR' : c' = (q1 + 1, p i) := by rw [hR, if_pos (by simp [d1])]
            (repeat (first | (with_reducible refine AWo.cons ?_) | ((with_reducible refine Step.id ?_); first | ((with_reducible apply Step.move); exact rfl; exact rfl) | ((with_reducible apply Step.assign); exact rfl; exact rfl) | ((with_reducible apply Step.load); exact rfl; (focus (decide +kernel)); exact rfl; (focus (first | exact Rd.new rfl rfl | exact Rd.old _ (by assumption)))) | ((with_reducible apply Step.loadL (n := 2)); exact rfl; (focus (decide +kernel)); (focus (decide +kernel)); exact rfl; (focus (assumption)); exact rfl; exact rfl) | ((with_reducible apply Step.ix1); exact rfl; (focus (first | assumption | exact Sl.mk (by omega))); exact rfl; (focus (decide +kernel)); exact rfl; (focus (omega))) | ((with_reducible apply Step.ixz (s := 2)); exact rfl; (focus (exact Sl.mk (by omega))); exact rfl; (focus (decide +kernel)); exact rfl; (focus (omega))) | ((with_reducible apply Step.field (k := 1)); exact rfl; (focus (decide +kernel)); exact rfl) | ((with_reducible apply Step.shl1); exact rfl; exact rfl; (focus (omega)); exact rfl) | ((with_reducible apply Step.shrN); exact rfl; exact rfl; (focus (omega)); exact rfl) | ((with_reducible apply Step.and1); exact rfl; exact rfl; (focus (omega)); exact rfl) | ((with_reducible apply Step.andnN); exact rfl; exact rfl; (focus (omega)); (focus (omega)); exact rfl) | ((with_reducible apply Step.add); exact rfl; exact rfl; (focus (omega)); exact rfl) | ((with_reducible apply Step.lss); exact rfl; exact rfl; exact rfl) | ((with_reducible apply Step.eql); exact rfl; exact rfl; exact rfl) | ((with_reducible apply Step.alloc 2); exact rfl; exact ze132; exact rfl; (focus (first | (simp only [List.nil_append, List.cons_append, List.set_cons_zero, List.set_cons_succ, iv_set, bv_set, iv_rep, bv_rep]; done) | (simp only [List.nil_append, List.cons_append, List.set_cons_zero, List.set_cons_succ, iv_set, bv_set, iv_rep, bv_rep]; rfl) | rfl))) | ((with_reducible apply Step.storeA (k := 2) (n := 2)); exact rfl; exact rfl; exact rfl; exact rfl; (focus (decide +kernel)); exact rfl; (focus (kernel_rfl)); exact rfl; (focus (first | (simp only [List.nil_append, List.cons_append, List.set_cons_zero, List.set_cons_succ, iv_set, bv_set, iv_rep, bv_rep]; done) | (simp only [List.nil_append, List.cons_append, List.set_cons_zero, List.set_cons_succ, iv_set, bv_set, iv_rep, bv_rep]; rfl) | rfl)))) | (with_reducible refine AWo.nil ?_) | ((with_reducible apply AW.seq)) | ((with_reducible apply Then.n)) | ((with_reducible apply AW.regL)) | ((with_reducible apply AW.block)) | ((with_reducible apply AW.skip)) | ((with_reducible apply AW.condT); exact rfl; (focus ((simp only [decide_eq_true_eq, decide_eq_false_iff_not, Bool.not_eq_true', Bool.not_eq_false', Bool.not_true, Bool.not_false]; first | assumption | omega)))) | ((with_reducible apply AW.condF); exact rfl; (focus ((simp only [decide_eq_true_eq, decide_eq_false_iff_not, Bool.not_eq_true', Bool.not_eq_false', Bool.not_true, Bool.not_false]; first | assumption | omega))))))
            ((with_reducible apply Step.store (k := 2)); exact rfl; exact rfl; exact rfl; exact rfl; (focus (decide +kernel)); exact rfl; exact rfl; exact (Nat.le_of_ble_eq_true rfl); exact (show _ = [some { cells := lpv Tb }, some { cells := [.int .i64 (c1 : Nat), .int .i64 c2] }, some { cells := [.int .i64 (q1 : Nat), .int .i64 (q2 + p i)] }] from rfl))
            (repeat (first | (with_reducible refine AWo.cons ?_) | ((with_reducible refine Step.id ?_); first | ((with_reducible apply Step.gdU); exact rfl; exact rfl) | ((with_reducible apply Step.gdF); exact rfl; exact rfl; (focus ((simp only [decide_eq_true_eq, decide_eq_false_iff_not, Bool.not_eq_true', Bool.not_eq_false', Bool.not_true, Bool.not_false]; first | assumption | omega)))) | ((with_reducible apply Step.move); exact rfl; exact rfl) | ((with_reducible apply Step.load); exact rfl; (focus (decide +kernel)); exact rfl; (focus (exact Rd.new rfl rfl))) | ((with_reducible apply Step.loadL (n := 2)); exact rfl; (focus (decide +kernel)); (focus (decide +kernel)); exact rfl; (focus (exact RdL.new rfl rfl)); exact rfl; exact rfl) | ((with_reducible apply Step.field0); exact rfl; (focus (decide +kernel)); exact rfl) | ((with_reducible apply Step.field (k := 1)); exact rfl; (focus (decide +kernel)); exact rfl) | ((with_reducible apply Step.add); exact rfl; exact rfl; (focus (omega)); exact rfl) | ((with_reducible apply Step.lss); exact rfl; exact rfl; exact rfl) | ((with_reducible apply Step.gtr); exact rfl; exact rfl; exact rfl) | ((with_reducible apply Step.pickT); exact rfl; exact rfl; exact rfl; exact rfl; (focus ((simp only [decide_eq_true_eq, decide_eq_false_iff_not, Bool.not_eq_true', Bool.not_eq_false', Bool.not_true, Bool.not_false]; first | assumption | omega)))) | ((with_reducible apply Step.storeA (k := 1) (n := 2)); exact rfl; exact rfl; exact rfl; exact rfl; (focus (decide +kernel)); exact rfl; (focus (kernel_rfl)); exact rfl; (focus (first | (simp only [List.nil_append, List.cons_append, List.set_cons_zero, List.set_cons_succ, iv_set, bv_set, iv_rep, bv_rep]; done) | (simp only [List.nil_append, List.cons_append, List.set_cons_zero, List.set_cons_succ, iv_set, bv_set, iv_rep, bv_rep]; rfl) | rfl))) | ((with_reducible apply Step.storeA (k := 2) (n := 2)); exact rfl; exact rfl; exact rfl; exact rfl; (focus (decide +kernel)); exact rfl; (focus (kernel_rfl)); exact rfl; (focus (first | (simp only [List.nil_append, List.cons_append, List.set_cons_zero, List.set_cons_succ, iv_set, bv_set, iv_rep, bv_rep]; done) | (simp only [List.nil_append, List.cons_append, List.set_cons_zero, List.set_cons_succ, iv_set, bv_set, iv_rep, bv_rep]; rfl) | rfl))) | ((with_reducible apply Step.build); exact rfl; exact bl132; exact rfl)) | (with_reducible refine AWo.nil ?_) | ((with_reducible apply AW.seq)) | ((with_reducible apply Then.n)) | ((with_reducible apply AW.regL)) | ((with_reducible apply InBlk.n)) | ((with_reducible apply AW.condT); exact rfl; (focus (first | rfl | (simp only [decide_eq_true_eq, decide_eq_false_iff_not, Bool.not_eq_true', Bool.not_eq_false', Bool.not_true, Bool.not_false]; first | assumption | omega))))))
            exact ⟨_, [(0, .int .i64 n), (1, v), (6, .slice (some ⟨m.length + 0, 0, none⟩) N N), (7, .int .i64 (s : Nat)), (8, .pointer (some ⟨m.length + 1, 0, none⟩)), (34, v), (35, .int .i64 (l.length : Nat)), (36, .int .i64 (i + 1 : Nat))], [some { cells := lpv Tb }, some { cells := [.int .i64 ((q1 + 1 : Nat) : Int), .int .i64 (p i)] }], by omega, (Back.trim rfl rfl (by repeat (first | exact CellsOk.nil | refine CellsOk.cons (by assumption) ?_)) (by repeat (first | exact trivial | (refine And.intro ⟨rfl, by (first | exact .int _ _ | exact .slice _ _ _ _ (by first | (simp; done) | omega | (simp; omega)) | exact .ptr _ _ (by first | (simp; done) | omega | (simp; omega)) | exact Ren.of_sl (by assumption) (by first | omega | (simp; omega)))⟩ ?_)))), i + 1, rfl, by omega, by rw [hc', hR']; rfl, rfl⟩
          · by_cases d2 : q1 + 1 = c1
            · by_cases d3 : p i < c2
              · have hR' : c' = (q1 + 1, p i) := by rw [hR, if_pos (by simp [d2, d3])]
                (repeat (first | (with_reducible refine AWo.cons ?_) | ((with_reducible refine Step.id ?_); first | ((with_reducible apply Step.move); exact rfl; exact rfl) | ((with_reducible apply Step.assign); exact rfl; exact rfl) | ((with_reducible apply Step.load); exact rfl; (focus (decide +kernel)); exact rfl; (focus (first | exact Rd.new rfl rfl | exact Rd.old _ (by assumption)))) | ((with_reducible apply Step.loadL (n := 2)); exact rfl; (focus (decide +kernel)); (focus (decide +kernel)); exact rfl; (focus (assumption)); exact rfl; exact rfl) | ((with_reducible apply Step.ix1); exact rfl; (focus (first | assumption | exact Sl.mk (by omega))); exact rfl; (focus (decide +kernel)); exact rfl; (focus (omega))) | ((with_reducible apply Step.ixz (s := 2)); exact rfl; (focus (exact Sl.mk (by omega))); exact rfl; (focus (decide +kernel)); exact rfl; (focus (omega))) | ((with_reducible apply Step.field (k := 1)); exact rfl; (focus (decide +kernel)); exact rfl) | ((with_reducible apply Step.shl1); exact rfl; exact rfl; (focus (omega)); exact rfl) | ((with_reducible apply Step.shrN); exact rfl; exact rfl; (focus (omega)); exact rfl) | ((with_reducible apply Step.and1); exact rfl; exact rfl; (focus (omega)); exact rfl) | ((with_reducible apply Step.andnN); exact rfl; exact rfl; (focus (omega)); (focus (omega)); exact rfl) | ((with_reducible apply Step.add); exact rfl; exact rfl; (focus (omega)); exact rfl) | ((with_reducible apply Step.lss); exact rfl; exact rfl; exact rfl) | ((with_reducible apply Step.eql); exact rfl; exact rfl; exact rfl) | ((with_reducible apply Step.alloc 2); exact rfl; exact ze132; exact rfl; (focus (first | (simp only [List.nil_append, List.cons_append, List.set_cons_zero, List.set_cons_succ, iv_set, bv_set, iv_rep, bv_rep]; done) | (simp only [List.nil_append, List.cons_append, List.set_cons_zero, List.set_cons_succ, iv_set, bv_set, iv_rep, bv_rep]; rfl) | rfl))) | ((with_reducible apply Step.storeA (k := 2) (n := 2)); exact rfl; exact rfl; exact rfl; exact rfl; (focus (decide +kernel)); exact rfl; (focus (kernel_rfl)); exact rfl; (focus (first | (simp only [List.nil_append, List.cons_append, List.set_cons_zero, List.set_cons_succ, iv_set, bv_set, iv_rep, bv_rep]; done) | (simp only [List.nil_append, List.cons_append, List.set_cons_zero, List.set_cons_succ, iv_set, bv_set, iv_rep, bv_rep]; rfl) | rfl)))) | (with_reducible refine AWo.nil ?_) | ((with_reducible apply AW.seq)) | ((with_reducible apply Then.n)) | ((with_reducible apply AW.regL)) | ((with_reducible apply AW.block)) | ((with_reducible apply AW.skip)) | ((with_reducible apply AW.condT); exact rfl; (focus ((simp only [decide_eq_true_eq, decide_eq_false_iff_not, Bool.not_eq_true', Bool.not_eq_false', Bool.not_true, Bool.not_false]; first | assumption | omega)))) | ((with_reducible apply AW.condF); exact rfl; (focus ((simp only [decide_eq_true_eq, decide_eq_false_iff_not, Bool.not_eq_true', Bool.not_eq_false', Bool.not_true, Bool.not_false]; first | assumption | omega))))))
                ((with_reducible apply Step.store (k := 2)); exact rfl; exact rfl; exact rfl; exact rfl; (focus (decide +kernel)); exact rfl; exact rfl; exact (Nat.le_of_ble_eq_true rfl); exact (show _ = [some { cells := lpv Tb }, some { cells := [.int .i64 (c1 : Nat), .int .i64 c2] }, some { cells := [.int .i64 (q1 : Nat), .int .i64 (q2 + p i)] }] from rfl))
                (repeat (first | (with_reducible refine AWo.cons ?_) | ((with_reducible refine Step.id ?_); first | ((with_reducible apply Step.gdT); exact rfl; exact rfl; (focus ((simp only [decide_eq_true_eq, decide_eq_false_iff_not, Bool.not_eq_true', Bool.not_eq_false', Bool.not_true, Bool.not_false]; first | assumption | omega)))) | ((with_reducible apply Step.move); exact rfl; exact rfl) | ((with_reducible apply Step.load); exact rfl; (focus (decide +kernel)); exact rfl; (focus (exact Rd.new rfl rfl))) | ((with_reducible apply Step.loadL (n := 2)); exact rfl; (focus (decide +kernel)); (focus (decide +kernel)); exact rfl; (focus (exact RdL.new rfl rfl)); exact rfl; exact rfl) | ((with_reducible apply Step.field0); exact rfl; (focus (decide +kernel)); exact rfl) | ((with_reducible apply Step.field (k := 1)); exact rfl; (focus (decide +kernel)); exact rfl) | ((with_reducible apply Step.add); exact rfl; exact rfl; (focus (omega)); exact rfl) | ((with_reducible apply Step.lss); exact rfl; exact rfl; exact rfl) | ((with_reducible apply Step.gtr); exact rfl; exact rfl; exact rfl) | ((with_reducible apply Step.eql); exact rfl; exact rfl; exact rfl) | ((with_reducible apply Step.pickT); exact rfl; exact rfl; exact rfl; exact rfl; (focus ((simp only [decide_eq_true_eq, decide_eq_false_iff_not, Bool.not_eq_true', Bool.not_eq_false', Bool.not_true, Bool.not_false]; first | assumption | omega)))) | ((with_reducible apply Step.pickF); exact rfl; exact rfl; exact rfl; exact rfl; (focus ((simp only [decide_eq_true_eq, decide_eq_false_iff_not, Bool.not_eq_true', Bool.not_eq_false', Bool.not_true, Bool.not_false]; first | assumption | omega)))) | ((with_reducible apply Step.storeA (k := 1) (n := 2)); exact rfl; exact rfl; exact rfl; exact rfl; (focus (decide +kernel)); exact rfl; (focus (kernel_rfl)); exact rfl; (focus (first | (simp only [List.nil_append, List.cons_append, List.set_cons_zero, List.set_cons_succ, iv_set, bv_set, iv_rep, bv_rep]; done) | (simp only [List.nil_append, List.cons_append, List.set_cons_zero, List.set_cons_succ, iv_set, bv_set, iv_rep, bv_rep]; rfl) | rfl))) | ((with_reducible apply Step.storeA (k := 2) (n := 2)); exact rfl; exact rfl; exact rfl; exact rfl; (focus (decide +kernel)); exact rfl; (focus (kernel_rfl)); exact rfl; (focus (first | (simp only [List.nil_append, List.cons_append, List.set_cons_zero, List.set_cons_succ, iv_set, bv_set, iv_rep, bv_rep]; done) | (simp only [List.nil_append, List.cons_append, List.set_cons_zero, List.set_cons_succ, iv_set, bv_set, iv_rep, bv_rep]; rfl) | rfl))) | ((with_reducible apply Step.build); exact rfl; exact bl132; exact rfl)) | (with_reducible refine AWo.nil ?_) | ((with_reducible apply AW.seq)) | ((with_reducible apply Then.n)) | ((with_reducible apply AW.regL)) | ((with_reducible apply InBlk.n)) | ((with_reducible apply AW.condT); exact rfl; (focus ((simp only [decide_eq_true_eq, decide_eq_false_iff_not, Bool.not_eq_true', Bool.not_eq_false', Bool.not_true, Bool.not_false]; first | assumption | omega))))))
                exact ⟨_, [(0, .int .i64 n), (1, v), (6, .slice (some ⟨m.length + 0, 0, none⟩) N N), (7, .int .i64 (s : Nat)), (8, .pointer (some ⟨m.length + 1, 0, none⟩)), (34, v), (35, .int .i64 (l.length : Nat)), (36, .int .i64 (i + 1 : Nat))], [some { cells := lpv Tb }, some { cells := [.int .i64 ((q1 + 1 : Nat) : Int), .int .i64 (p i)] }], by omega, (Back.trim rfl rfl (by repeat (first | exact CellsOk.nil | refine CellsOk.cons (by assumption) ?_)) (by repeat (first | exact trivial | (refine And.intro ⟨rfl, by (first | exact .int _ _ | exact .slice _ _ _ _ (by first | (simp; done) | omega | (simp; omega)) | exact .ptr _ _ (by first | (simp; done) | omega | (simp; omega)) | exact Ren.of_sl (by assumption) (by first | omega | (simp; omega)))⟩ ?_)))), i + 1, rfl, by omega, by rw [hc', hR']; rfl, rfl⟩
              · have hR' : c' = (c1, c2) := by rw [hR, if_neg (by simp [d2, d3])]
                (repeat (first | (with_reducible refine AWo.cons ?_) | ((with_reducible refine Step.id ?_); first | ((with_reducible apply Step.move); exact rfl; exact rfl) | ((with_reducible apply Step.assign); exact rfl; exact rfl) | ((with_reducible apply Step.load); exact rfl; (focus (decide +kernel)); exact rfl; (focus (first | exact Rd.new rfl rfl | exact Rd.old _ (by assumption)))) | ((with_reducible apply Step.loadL (n := 2)); exact rfl; (focus (decide +kernel)); (focus (decide +kernel)); exact rfl; (focus (assumption)); exact rfl; exact rfl) | ((with_reducible apply Step.ix1); exact rfl; (focus (first | assumption | exact Sl.mk (by omega))); exact rfl; (focus (decide +kernel)); exact rfl; (focus (omega))) | ((with_reducible apply Step.ixz (s := 2)); exact rfl; (focus (exact Sl.mk (by omega))); exact rfl; (focus (decide +kernel)); exact rfl; (focus (omega))) | ((with_reducible apply Step.field (k := 1)); exact rfl; (focus (decide +kernel)); exact rfl) | ((with_reducible apply Step.shl1); exact rfl; exact rfl; (focus (omega)); exact rfl) | ((with_reducible apply Step.shrN); exact rfl; exact rfl; (focus (omega)); exact rfl) | ((with_reducible apply Step.and1); exact rfl; exact rfl; (focus (omega)); exact rfl) | ((with_reducible apply Step.andnN); exact rfl; exact rfl; (focus (omega)); (focus (omega)); exact rfl) | ((with_reducible apply Step.add); exact rfl; exact rfl; (focus (omega)); exact rfl) | ((with_reducible apply Step.lss); exact rfl; exact rfl; exact rfl) | ((with_reducible apply Step.eql); exact rfl; exact rfl; exact rfl) | ((with_reducible apply Step.alloc 2); exact rfl; exact ze132; exact rfl; (focus (first | (simp only [List.nil_append, List.cons_append, List.set_cons_zero, List.set_cons_succ, iv_set, bv_set, iv_rep, bv_rep]; done) | (simp only [List.nil_append, List.cons_append, List.set_cons_zero, List.set_cons_succ, iv_set, bv_set, iv_rep, bv_rep]; rfl) | rfl))) | ((with_reducible apply Step.storeA (k := 2) (n := 2)); exact rfl; exact rfl; exact rfl; exact rfl; (focus (decide +kernel)); exact rfl; (focus (kernel_rfl)); exact rfl; (focus (first | (simp only [List.nil_append, List.cons_append, List.set_cons_zero, List.set_cons_succ, iv_set, bv_set, iv_rep, bv_rep]; done) | (simp only [List.nil_append, List.cons_append, List.set_cons_zero, List.set_cons_succ, iv_set, bv_set, iv_rep, bv_rep]; rfl) | rfl)))) | (with_reducible refine AWo.nil ?_) | ((with_reducible apply AW.seq)) | ((with_reducible apply Then.n)) | ((with_reducible apply AW.regL)) | ((with_reducible apply AW.block)) | ((with_reducible apply AW.skip)) | ((with_reducible apply AW.condT); exact rfl; (focus ((simp only [decide_eq_true_eq, decide_eq_false_iff_not, Bool.not_eq_true', Bool.not_eq_false', Bool.not_true, Bool.not_false]; first | assumption | omega)))) | ((with_reducible apply AW.condF); exact rfl; (focus ((simp only [decide_eq_true_eq, decide_eq_false_iff_not, Bool.not_eq_true', Bool.not_eq_false', Bool.not_true, Bool.not_false]; first | assumption | omega))))))
                ((with_reducible apply Step.store (k := 2)); exact rfl; exact rfl; exact rfl; exact rfl; (focus (decide +kernel)); exact rfl; exact rfl; exact (Nat.le_of_ble_eq_true rfl); exact (show _ = [some { cells := lpv Tb }, some { cells := [.int .i64 (c1 : Nat), .int .i64 c2] }, some { cells := [.int .i64 (q1 : Nat), .int .i64 (q2 + p i)] }] from rfl))
                (repeat (first | (with_reducible refine AWo.cons ?_) | ((with_reducible refine Step.id ?_); first | ((with_reducible apply Step.gdT); exact rfl; exact rfl; (focus ((simp only [decide_eq_true_eq, decide_eq_false_iff_not, Bool.not_eq_true', Bool.not_eq_false', Bool.not_true, Bool.not_false]; first | assumption | omega)))) | ((with_reducible apply Step.move); exact rfl; exact rfl) | ((with_reducible apply Step.load); exact rfl; (focus (decide +kernel)); exact rfl; (focus (exact Rd.new rfl rfl))) | ((with_reducible apply Step.field0); exact rfl; (focus (decide +kernel)); exact rfl) | ((with_reducible apply Step.field (k := 1)); exact rfl; (focus (decide +kernel)); exact rfl) | ((with_reducible apply Step.add); exact rfl; exact rfl; (focus (omega)); exact rfl) | ((with_reducible apply Step.lss); exact rfl; exact rfl; exact rfl) | ((with_reducible apply Step.gtr); exact rfl; exact rfl; exact rfl) | ((with_reducible apply Step.eql); exact rfl; exact rfl; exact rfl) | ((with_reducible apply Step.pickT); exact rfl; exact rfl; exact rfl; exact rfl; (focus ((simp only [decide_eq_true_eq, decide_eq_false_iff_not, Bool.not_eq_true', Bool.not_eq_false', Bool.not_true, Bool.not_false]; first | assumption | omega)))) | ((with_reducible apply Step.pickF); exact rfl; exact rfl; exact rfl; exact rfl; (focus ((simp only [decide_eq_true_eq, decide_eq_false_iff_not, Bool.not_eq_true', Bool.not_eq_false', Bool.not_true, Bool.not_false]; first | assumption | omega)))) | ((with_reducible apply Step.storeA (k := 2) (n := 2)); exact rfl; exact rfl; exact rfl; exact rfl; (focus (decide +kernel)); exact rfl; (focus (kernel_rfl)); exact rfl; (focus (first | (simp only [List.nil_append, List.cons_append, List.set_cons_zero, List.set_cons_succ, iv_set, bv_set, iv_rep, bv_rep]; done) | (simp only [List.nil_append, List.cons_append, List.set_cons_zero, List.set_cons_succ, iv_set, bv_set, iv_rep, bv_rep]; rfl) | rfl))) | ((with_reducible apply Step.build); exact rfl; exact bl132; exact rfl)) | (with_reducible refine AWo.nil ?_) | ((with_reducible apply AW.seq)) | ((with_reducible apply Then.n)) | ((with_reducible apply AW.regL)) | ((with_reducible apply InBlk.n)) | ((with_reducible apply AW.skip)) | ((with_reducible apply AW.condT); exact rfl; (focus ((simp only [decide_eq_true_eq, decide_eq_false_iff_not, Bool.not_eq_true', Bool.not_eq_false', Bool.not_true, Bool.not_false]; first | assumption | omega)))) | ((with_reducible apply AW.condF); exact rfl; (focus ((simp only [decide_eq_true_eq, decide_eq_false_iff_not, Bool.not_eq_true', Bool.not_eq_false', Bool.not_true, Bool.not_false]; first | assumption | omega))))))
                exact ⟨_, [(0, .int .i64 n), (1, v), (6, .slice (some ⟨m.length + 0, 0, none⟩) N N), (7, .int .i64 (s : Nat)), (8, .pointer (some ⟨m.length + 1, 0, none⟩)), (34, v), (35, .int .i64 (l.length : Nat)), (36, .int .i64 (i + 1 : Nat))], [some { cells := lpv Tb }, some { cells := [.int .i64 (c1 : Nat), .int .i64 c2] }], by omega, (Back.trim rfl rfl (by repeat (first | exact CellsOk.nil | refine CellsOk.cons (by assumption) ?_)) (by repeat (first | exact trivial | (refine And.intro ⟨rfl, by (first | exact .int _ _ | exact .slice _ _ _ _ (by first | (simp; done) | omega | (simp; omega)) | exact .ptr _ _ (by first | (simp; done) | omega | (simp; omega)) | exact Ren.of_sl (by assumption) (by first | omega | (simp; omega)))⟩ ?_)))), i + 1, rfl, by omega, by rw [hc', hR']; rfl, rfl⟩
            · have hR' : c' = (c1, c2) := by rw [hR, if_neg (by simp [d1, d2])]
              (repeat (first | (with_reducible refine AWo.cons ?_) | ((with_reducible refine Step.id ?_); first | ((with_reducible apply Step.move); exact rfl; exact rfl) | ((with_reducible apply Step.assign); exact rfl; exact rfl) | ((with_reducible apply Step.load); exact rfl; (focus (decide +kernel)); exact rfl; (focus (first | exact Rd.new rfl rfl | exact Rd.old _ (by assumption)))) | ((with_reducible apply Step.loadL (n := 2)); exact rfl; (focus (decide +kernel)); (focus (decide +kernel)); exact rfl; (focus (assumption)); exact rfl; exact rfl) | ((with_reducible apply Step.ix1); exact rfl; (focus (first | assumption | exact Sl.mk (by omega))); exact rfl; (focus (decide +kernel)); exact rfl; (focus (omega))) | ((with_reducible apply Step.ixz (s := 2)); exact rfl; (focus (exact Sl.mk (by omega))); exact rfl; (focus (decide +kernel)); exact rfl; (focus (omega))) | ((with_reducible apply Step.field (k := 1)); exact rfl; (focus (decide +kernel)); exact rfl) | ((with_reducible apply Step.shl1); exact rfl; exact rfl; (focus (omega)); exact rfl) | ((with_reducible apply Step.shrN); exact rfl; exact rfl; (focus (omega)); exact rfl) | ((with_reducible apply Step.and1); exact rfl; exact rfl; (focus (omega)); exact rfl) | ((with_reducible apply Step.andnN); exact rfl; exact rfl; (focus (omega)); (focus (omega)); exact rfl) | ((with_reducible apply Step.add); exact rfl; exact rfl; (focus (omega)); exact rfl) | ((with_reducible apply Step.lss); exact rfl; exact rfl; exact rfl) | ((with_reducible apply Step.eql); exact rfl; exact rfl; exact rfl) | ((with_reducible apply Step.alloc 2); exact rfl; exact ze132; exact rfl; (focus (first | (simp only [List.nil_append, List.cons_append, List.set_cons_zero, List.set_cons_succ, iv_set, bv_set, iv_rep, bv_rep]; done) | (simp only [List.nil_append, List.cons_append, List.set_cons_zero, List.set_cons_succ, iv_set, bv_set, iv_rep, bv_rep]; rfl) | rfl))) | ((with_reducible apply Step.storeA (k := 2) (n := 2)); exact rfl; exact rfl; exact rfl; exact rfl; (focus (decide +kernel)); exact rfl; (focus (kernel_rfl)); exact rfl; (focus (first | (simp only [List.nil_append, List.cons_append, List.set_cons_zero, List.set_cons_succ, iv_set, bv_set, iv_rep, bv_rep]; done) | (simp only [List.nil_append, List.cons_append, List.set_cons_zero, List.set_cons_succ, iv_set, bv_set, iv_rep, bv_rep]; rfl) | rfl)))) | (with_reducible refine AWo.nil ?_) | ((with_reducible apply AW.seq)) | ((with_reducible apply Then.n)) | ((with_reducible apply AW.regL)) | ((with_reducible apply AW.block)) | ((with_reducible apply AW.skip)) | ((with_reducible apply AW.condT); exact rfl; (focus ((simp only [decide_eq_true_eq, decide_eq_false_iff_not, Bool.not_eq_true', Bool.not_eq_false', Bool.not_true, Bool.not_false]; first | assumption | omega)))) | ((with_reducible apply AW.condF); exact rfl; (focus ((simp only [decide_eq_true_eq, decide_eq_false_iff_not, Bool.not_eq_true', Bool.not_eq_false', Bool.not_true, Bool.not_false]; first | assumption | omega))))))
              ((with_reducible apply Step.store (k := 2)); exact rfl; exact rfl; exact rfl; exact rfl; (focus (decide +kernel)); exact rfl; exact rfl; exact (Nat.le_of_ble_eq_true rfl); exact (show _ = [some { cells := lpv Tb }, some { cells := [.int .i64 (c1 : Nat), .int .i64 c2] }, some { cells := [.int .i64 (q1 : Nat), .int .i64 (q2 + p i)] }] from rfl))
              (repeat (first | (with_reducible refine AWo.cons ?_) | ((with_reducible refine Step.id ?_); first | ((with_reducible apply Step.gdT); exact rfl; exact rfl; (focus ((simp only [decide_eq_true_eq, decide_eq_false_iff_not, Bool.not_eq_true', Bool.not_eq_false', Bool.not_true, Bool.not_false]; first | assumption | omega)))) | ((with_reducible apply Step.gdF); exact rfl; exact rfl; (focus ((simp only [decide_eq_true_eq, decide_eq_false_iff_not, Bool.not_eq_true', Bool.not_eq_false', Bool.not_true, Bool.not_false]; first | assumption | omega)))) | ((with_reducible apply Step.move); exact rfl; exact rfl) | ((with_reducible apply Step.load); exact rfl; (focus (decide +kernel)); exact rfl; (focus (exact Rd.new rfl rfl))) | ((with_reducible apply Step.field0); exact rfl; (focus (decide +kernel)); exact rfl) | ((with_reducible apply Step.field (k := 1)); exact rfl; (focus (decide +kernel)); exact rfl) | ((with_reducible apply Step.add); exact rfl; exact rfl; (focus (omega)); exact rfl) | ((with_reducible apply Step.lss); exact rfl; exact rfl; exact rfl) | ((with_reducible apply Step.gtr); exact rfl; exact rfl; exact rfl) | ((with_reducible apply Step.eql); exact rfl; exact rfl; exact rfl) | ((with_reducible apply Step.pickF); exact rfl; exact rfl; exact rfl; exact rfl; (focus ((simp only [decide_eq_true_eq, decide_eq_false_iff_not, Bool.not_eq_true', Bool.not_eq_false', Bool.not_true, Bool.not_false]; first | assumption | omega)))) | ((with_reducible apply Step.storeA (k := 2) (n := 2)); exact rfl; exact rfl; exact rfl; exact rfl; (focus (decide +kernel)); exact rfl; (focus (kernel_rfl)); exact rfl; (focus (first | (simp only [List.nil_append, List.cons_append, List.set_cons_zero, List.set_cons_succ, iv_set, bv_set, iv_rep, bv_rep]; done) | (simp only [List.nil_append, List.cons_append, List.set_cons_zero, List.set_cons_succ, iv_set, bv_set, iv_rep, bv_rep]; rfl) | rfl))) | ((with_reducible apply Step.build); exact rfl; exact bl132; exact rfl)) | (with_reducible refine AWo.nil ?_) | ((with_reducible apply AW.seq)) | ((with_reducible apply Then.n)) | ((with_reducible apply AW.regL)) | ((with_reducible apply InBlk.n)) | ((with_reducible apply AW.skip)) | ((with_reducible apply AW.condT); exact rfl; (focus ((simp only [decide_eq_true_eq, decide_eq_false_iff_not, Bool.not_eq_true', Bool.not_eq_false', Bool.not_true, Bool.not_false]; first | assumption | omega)))) | ((with_reducible apply AW.condF); exact rfl; (focus (rfl)))))
              exact ⟨_, [(0, .int .i64 n), (1, v), (6, .slice (some ⟨m.length + 0, 0, none⟩) N N), (7, .int .i64 (s : Nat)), (8, .pointer (some ⟨m.length + 1, 0, none⟩)), (34, v), (35, .int .i64 (l.length : Nat)), (36, .int .i64 (i + 1 : Nat))], [some { cells := lpv Tb }, some { cells := [.int .i64 (c1 : Nat), .int .i64 c2] }], by omega, (Back.trim rfl rfl (by repeat (first | exact CellsOk.nil | refine CellsOk.cons (by assumption) ?_)) (by repeat (first | exact trivial | (refine And.intro ⟨rfl, by (first | exact .int _ _ | exact .slice _ _ _ _ (by first | (simp; done) | omega | (simp; omega)) | exact .ptr _ _ (by first | (simp; done) | omega | (simp; omega)) | exact Ren.of_sl (by assumption) (by first | omega | (simp; omega)))⟩ ?_)))), i + 1, rfl, by omega, by rw [hc', hR']; rfl, rfl⟩
        · rw [if_neg hgt] at hR
          simp only at hR
          have gc := g0_lpc (q1, q2 + p i)
          have gd := g0_lpc (c1, c2)
          by_cases d1 : q1 < c1
          · have hR' : c' = (q1, q2 + p i) := by rw [hR, if_pos (by simp [d1])]
            (repeat (first | (with_reducible refine AWo.cons ?_) | ((with_reducible refine Step.id ?_); first | ((with_reducible apply Step.move); exact rfl; exact rfl) | ((with_reducible apply Step.assign); exact rfl; exact rfl) | ((with_reducible apply Step.load); exact rfl; (focus (decide +kernel)); exact rfl; (focus (first | exact Rd.new rfl rfl | exact Rd.old _ (by assumption)))) | ((with_reducible apply Step.loadL (n := 2)); exact rfl; (focus (decide +kernel)); (focus (decide +kernel)); exact rfl; (focus (assumption)); exact rfl; exact rfl) | ((with_reducible apply Step.ix1); exact rfl; (focus (first | assumption | exact Sl.mk (by omega))); exact rfl; (focus (decide +kernel)); exact rfl; (focus (omega))) | ((with_reducible apply Step.ixz (s := 2)); exact rfl; (focus (exact Sl.mk (by omega))); exact rfl; (focus (decide +kernel)); exact rfl; (focus (omega))) | ((with_reducible apply Step.field (k := 1)); exact rfl; (focus (decide +kernel)); exact rfl) | ((with_reducible apply Step.shl1); exact rfl; exact rfl; (focus (omega)); exact rfl) | ((with_reducible apply Step.shrN); exact rfl; exact rfl; (focus (omega)); exact rfl) | ((with_reducible apply Step.and1); exact rfl; exact rfl; (focus (omega)); exact rfl) | ((with_reducible apply Step.andnN); exact rfl; exact rfl; (focus (omega)); (focus (omega)); exact rfl) | ((with_reducible apply Step.add); exact rfl; exact rfl; (focus (omega)); exact rfl) | ((with_reducible apply Step.lss); exact rfl; exact rfl; exact rfl) | ((with_reducible apply Step.eql); exact rfl; exact rfl; exact rfl) | ((with_reducible apply Step.alloc 2); exact rfl; exact ze132; exact rfl; (focus (first | (simp only [List.nil_append, List.cons_append, List.set_cons_zero, List.set_cons_succ, iv_set, bv_set, iv_rep, bv_rep]; done) | (simp only [List.nil_append, List.cons_append, List.set_cons_zero, List.set_cons_succ, iv_set, bv_set, iv_rep, bv_rep]; rfl) | rfl))) | ((with_reducible apply Step.storeA (k := 2) (n := 2)); exact rfl; exact rfl; exact rfl; exact rfl; (focus (decide +kernel)); exact rfl; (focus (kernel_rfl)); exact rfl; (focus (first | (simp only [List.nil_append, List.cons_append, List.set_cons_zero, List.set_cons_succ, iv_set, bv_set, iv_rep, bv_rep]; done) | (simp only [List.nil_append, List.cons_append, List.set_cons_zero, List.set_cons_succ, iv_set, bv_set, iv_rep, bv_rep]; rfl) | rfl)))) | (with_reducible refine AWo.nil ?_) | ((with_reducible apply AW.seq)) | ((with_reducible apply Then.n)) | ((with_reducible apply AW.regL)) | ((with_reducible apply AW.block)) | ((with_reducible apply AW.skip)) | ((with_reducible apply AW.condT); exact rfl; (focus ((simp only [decide_eq_true_eq, decide_eq_false_iff_not, Bool.not_eq_true', Bool.not_eq_false', Bool.not_true, Bool.not_false]; first | assumption | omega)))) | ((with_reducible apply AW.condF); exact rfl; (focus ((simp only [decide_eq_true_eq, decide_eq_false_iff_not, Bool.not_eq_true', Bool.not_eq_false', Bool.not_true, Bool.not_false]; first | assumption | omega))))))
            ((with_reducible apply Step.store (k := 2)); exact rfl; exact rfl; exact rfl; exact rfl; (focus (decide +kernel)); exact rfl; exact rfl; exact (Nat.le_of_ble_eq_true rfl); exact (show _ = [some { cells := lpv Tb }, some { cells := [.int .i64 (c1 : Nat), .int .i64 c2] }, some { cells := [.int .i64 (q1 : Nat), .int .i64 (q2 + p i)] }] from rfl))
            (repeat (first | (with_reducible refine AWo.cons ?_) | ((with_reducible refine Step.id ?_); first | ((with_reducible apply Step.gdU); exact rfl; exact rfl) | ((with_reducible apply Step.gdF); exact rfl; exact rfl; (focus ((simp only [decide_eq_true_eq, decide_eq_false_iff_not, Bool.not_eq_true', Bool.not_eq_false', Bool.not_true, Bool.not_false]; first | assumption | omega)))) | ((with_reducible apply Step.move); exact rfl; exact rfl) | ((with_reducible apply Step.load); exact rfl; (focus (decide +kernel)); exact rfl; (focus (exact Rd.new rfl rfl))) | ((with_reducible apply Step.loadL (n := 2)); exact rfl; (focus (decide +kernel)); (focus (decide +kernel)); exact rfl; (focus (exact RdL.new rfl rfl)); exact rfl; exact rfl) | ((with_reducible apply Step.field0); exact rfl; (focus (decide +kernel)); exact rfl) | ((with_reducible apply Step.field (k := 1)); exact rfl; (focus (decide +kernel)); exact rfl) | ((with_reducible apply Step.add); exact rfl; exact rfl; (focus (omega)); exact rfl) | ((with_reducible apply Step.lss); exact rfl; exact rfl; exact rfl) | ((with_reducible apply Step.gtr); exact rfl; exact rfl; exact rfl) | ((with_reducible apply Step.pickT); exact rfl; exact rfl; exact rfl; exact rfl; (focus ((simp only [decide_eq_true_eq, decide_eq_false_iff_not, Bool.not_eq_true', Bool.not_eq_false', Bool.not_true, Bool.not_false]; first | assumption | omega)))) | ((with_reducible apply Step.storeA (k := 1) (n := 2)); exact rfl; exact rfl; exact rfl; exact rfl; (focus (decide +kernel)); exact rfl; (focus (kernel_rfl)); exact rfl; (focus (first | (simp only [List.nil_append, List.cons_append, List.set_cons_zero, List.set_cons_succ, iv_set, bv_set, iv_rep, bv_rep]; done) | (simp only [List.nil_append, List.cons_append, List.set_cons_zero, List.set_cons_succ, iv_set, bv_set, iv_rep, bv_rep]; rfl) | rfl)))) | (with_reducible refine AWo.nil ?_) | ((with_reducible apply AW.seq)) | ((with_reducible apply Then.n)) | ((with_reducible apply AW.regL)) | ((with_reducible apply InBlk.n)) | ((with_reducible apply AW.skip)) | ((with_reducible apply AW.condT); exact rfl; (focus (rfl))) | ((with_reducible apply AW.condF); exact rfl; (focus ((simp only [decide_eq_true_eq, decide_eq_false_iff_not, Bool.not_eq_true', Bool.not_eq_false', Bool.not_true, Bool.not_false]; first | assumption | omega))))))
            exact ⟨_, [(0, .int .i64 n), (1, v), (6, .slice (some ⟨m.length + 0, 0, none⟩) N N), (7, .int .i64 (s : Nat)), (8, .pointer (some ⟨m.length + 1, 0, none⟩)), (34, v), (35, .int .i64 (l.length : Nat)), (36, .int .i64 (i + 1 : Nat))], [some { cells := lpv Tb }, some { cells := [.int .i64 (q1 : Nat), .int .i64 (q2 + p i)] }], by omega, (Back.trim rfl rfl (by repeat (first | exact CellsOk.nil | refine CellsOk.cons (by assumption) ?_)) (by repeat (first | exact trivial | (refine And.intro ⟨rfl, by (first | exact .int _ _ | exact .slice _ _ _ _ (by first | (simp; done) | omega | (simp; omega)) | exact .ptr _ _ (by first | (simp; done) | omega | (simp; omega)) | exact Ren.of_sl (by assumption) (by first | omega | (simp; omega)))⟩ ?_)))), i + 1, rfl, by omega, by rw [hc', hR']; rfl, rfl⟩
          · by_cases d2 : q1 = c1
            · by_cases d3 : q2 + p i < c2
              · have hR' : c' = (q1, q2 + p i) := by rw [hR, if_pos (by simp [d2, d3])]
                (repeat (first | (with_reducible refine AWo.cons ?_) | ((with_reducible refine Step.id ?_); first | ((with_reducible apply Step.move); exact rfl; exact rfl) | ((with_reducible apply Step.assign); exact rfl; exact rfl) | ((with_reducible apply Step.load); exact rfl; (focus (decide +kernel)); exact rfl; (focus (first | exact Rd.new rfl rfl | exact Rd.old _ (by assumption)))) | ((with_reducible apply Step.loadL (n := 2)); exact rfl; (focus (decide +kernel)); (focus (decide +kernel)); exact rfl; (focus (assumption)); exact rfl; exact rfl) | ((with_reducible apply Step.ix1); exact rfl; (focus (first | assumption | exact Sl.mk (by omega))); exact rfl; (focus (decide +kernel)); exact rfl; (focus (omega))) | ((with_reducible apply Step.ixz (s := 2)); exact rfl; (focus (exact Sl.mk (by omega))); exact rfl; (focus (decide +kernel)); exact rfl; (focus (omega))) | ((with_reducible apply Step.field (k := 1)); exact rfl; (focus (decide +kernel)); exact rfl) | ((with_reducible apply Step.shl1); exact rfl; exact rfl; (focus (omega)); exact rfl) | ((with_reducible apply Step.shrN); exact rfl; exact rfl; (focus (omega)); exact rfl) | ((with_reducible apply Step.and1); exact rfl; exact rfl; (focus (omega)); exact rfl) | ((with_reducible apply Step.andnN); exact rfl; exact rfl; (focus (omega)); (focus (omega)); exact rfl) | ((with_reducible apply Step.add); exact rfl; exact rfl; (focus (omega)); exact rfl) | ((with_reducible apply Step.lss); exact rfl; exact rfl; exact rfl) | ((with_reducible apply Step.eql); exact rfl; exact rfl; exact rfl) | ((with_reducible apply Step.alloc 2); exact rfl; exact ze132; exact rfl; (focus (first | (simp only [List.nil_append, List.cons_append, List.set_cons_zero, List.set_cons_succ, iv_set, bv_set, iv_rep, bv_rep]; done) | (simp only [List.nil_append, List.cons_append, List.set_cons_zero, List.set_cons_succ, iv_set, bv_set, iv_rep, bv_rep]; rfl) | rfl))) | ((with_reducible apply Step.storeA (k := 2) (n := 2)); exact rfl; exact rfl; exact rfl; exact rfl; (focus (decide +kernel)); exact rfl; (focus (kernel_rfl)); exact rfl; (focus (first | (simp only [List.nil_append, List.cons_append, List.set_cons_zero, List.set_cons_succ, iv_set, bv_set, iv_rep, bv_rep]; done) | (simp only [List.nil_append, List.cons_append, List.set_cons_zero, List.set_cons_succ, iv_set, bv_set, iv_rep, bv_rep]; rfl) | rfl)))) | (with_reducible refine AWo.nil ?_) | ((with_reducible apply AW.seq)) | ((with_reducible apply Then.n)) | ((with_reducible apply AW.regL)) | ((with_reducible apply AW.block)) | ((with_reducible apply AW.skip)) | ((with_reducible apply AW.condT); exact rfl; (focus ((simp only [decide_eq_true_eq, decide_eq_false_iff_not, Bool.not_eq_true', Bool.not_eq_false', Bool.not_true, Bool.not_false]; first | assumption | omega)))) | ((with_reducible apply AW.condF); exact rfl; (focus ((simp only [decide_eq_true_eq, decide_eq_false_iff_not, Bool.not_eq_true', Bool.not_eq_false', Bool.not_true, Bool.not_false]; first | assumption | omega))))))
                ((with_reducible apply Step.store (k := 2)); exact rfl; exact rfl; exact rfl; exact rfl; (focus (decide +kernel)); exact rfl; exact rfl; exact (Nat.le_of_ble_eq_true rfl); exact (show _ = [some { cells := lpv Tb }, some { cells := [.int .i64 (c1 : Nat), .int .i64 c2] }, some { cells := [.int .i64 (q1 : Nat), .int .i64 (q2 + p i)] }] from rfl))
                (repeat (first | (with_reducible refine AWo.cons ?_) | ((with_reducible refine Step.id ?_); first | ((with_reducible apply Step.gdT); exact rfl; exact rfl; (focus ((simp only [decide_eq_true_eq, decide_eq_false_iff_not, Bool.not_eq_true', Bool.not_eq_false', Bool.not_true, Bool.not_false]; first | assumption | omega)))) | ((with_reducible apply Step.move); exact rfl; exact rfl) | ((with_reducible apply Step.load); exact rfl; (focus (decide +kernel)); exact rfl; (focus (exact Rd.new rfl rfl))) | ((with_reducible apply Step.loadL (n := 2)); exact rfl; (focus (decide +kernel)); (focus (decide +kernel)); exact rfl; (focus (exact RdL.new rfl rfl)); exact rfl; exact rfl) | ((with_reducible apply Step.field0); exact rfl; (focus (decide +kernel)); exact rfl) | ((with_reducible apply Step.field (k := 1)); exact rfl; (focus (decide +kernel)); exact rfl) | ((with_reducible apply Step.add); exact rfl; exact rfl; (focus (omega)); exact rfl) | ((with_reducible apply Step.lss); exact rfl; exact rfl; exact rfl) | ((with_reducible apply Step.gtr); exact rfl; exact rfl; exact rfl) | ((with_reducible apply Step.eql); exact rfl; exact rfl; exact rfl) | ((with_reducible apply Step.pickT); exact rfl; exact rfl; exact rfl; exact rfl; (focus ((simp only [decide_eq_true_eq, decide_eq_false_iff_not, Bool.not_eq_true', Bool.not_eq_false', Bool.not_true, Bool.not_false]; first | assumption | omega)))) | ((with_reducible apply Step.pickF); exact rfl; exact rfl; exact rfl; exact rfl; (focus ((simp only [decide_eq_true_eq, decide_eq_false_iff_not, Bool.not_eq_true', Bool.not_eq_false', Bool.not_true, Bool.not_false]; first | assumption | omega)))) | ((with_reducible apply Step.storeA (k := 1) (n := 2)); exact rfl; exact rfl; exact rfl; exact rfl; (focus (decide +kernel)); exact rfl; (focus (kernel_rfl)); exact rfl; (focus (first | (simp only [List.nil_append, List.cons_append, List.set_cons_zero, List.set_cons_succ, iv_set, bv_set, iv_rep, bv_rep]; done) | (simp only [List.nil_append, List.cons_append, List.set_cons_zero, List.set_cons_succ, iv_set, bv_set, iv_rep, bv_rep]; rfl) | rfl)))) | (with_reducible refine AWo.nil ?_) | ((with_reducible apply AW.seq)) | ((with_reducible apply Then.n)) | ((with_reducible apply AW.regL)) | ((with_reducible apply InBlk.n)) | ((with_reducible apply AW.skip)) | ((with_reducible apply AW.condT); exact rfl; (focus ((simp only [decide_eq_true_eq, decide_eq_false_iff_not, Bool.not_eq_true', Bool.not_eq_false', Bool.not_true, Bool.not_false]; first | assumption | omega)))) | ((with_reducible apply AW.condF); exact rfl; (focus ((simp only [decide_eq_true_eq, decide_eq_false_iff_not, Bool.not_eq_true', Bool.not_eq_false', Bool.not_true, Bool.not_false]; first | assumption | omega))))))
                exact ⟨_, [(0, .int .i64 n), (1, v), (6, .slice (some ⟨m.length + 0, 0, none⟩) N N), (7, .int .i64 (s : Nat)), (8, .pointer (some ⟨m.length + 1, 0, none⟩)), (34, v), (35, .int .i64 (l.length : Nat)), (36, .int .i64 (i + 1 : Nat))], [some { cells := lpv Tb }, some { cells := [.int .i64 (q1 : Nat), .int .i64 (q2 + p i)] }], by omega, (Back.trim rfl rfl (by repeat (first | exact CellsOk.nil | refine CellsOk.cons (by assumption) ?_)) (by repeat (first | exact trivial | (refine And.intro ⟨rfl, by (first | exact .int _ _ | exact .slice _ _ _ _ (by first | (simp; done) | omega | (simp; omega)) | exact .ptr _ _ (by first | (simp; done) | omega | (simp; omega)) | exact Ren.of_sl (by assumption) (by first | omega | (simp; omega)))⟩ ?_)))), i + 1, rfl, by omega, by rw [hc', hR']; rfl, rfl⟩
              · have hR' : c' = (c1, c2) := by rw [hR, if_neg (by simp [d2, d3])]
                (repeat (first | (with_reducible refine AWo.cons ?_) | ((with_reducible refine Step.id ?_); first | ((with_reducible apply Step.move); exact rfl; exact rfl) | ((with_reducible apply Step.assign); exact rfl; exact rfl) | ((with_reducible apply Step.load); exact rfl; (focus (decide +kernel)); exact rfl; (focus (first | exact Rd.new rfl rfl | exact Rd.old _ (by assumption)))) | ((with_reducible apply Step.loadL (n := 2)); exact rfl; (focus (decide +kernel)); (focus (decide +kernel)); exact rfl; (focus (assumption)); exact rfl; exact rfl) | ((with_reducible apply Step.ix1); exact rfl; (focus (first | assumption | exact Sl.mk (by omega))); exact rfl; (focus (decide +kernel)); exact rfl; (focus (omega))) | ((with_reducible apply Step.ixz (s := 2)); exact rfl; (focus (exact Sl.mk (by omega))); exact rfl; (focus (decide +kernel)); exact rfl; (focus (omega))) | ((with_reducible apply Step.field (k := 1)); exact rfl; (focus (decide +kernel)); exact rfl) | ((with_reducible apply Step.shl1); exact rfl; exact rfl; (focus (omega)); exact rfl) | ((with_reducible apply Step.shrN); exact rfl; exact rfl; (focus (omega)); exact rfl) | ((with_reducible apply Step.and1); exact rfl; exact rfl; (focus (omega)); exact rfl) | ((with_reducible apply Step.andnN); exact rfl; exact rfl; (focus (omega)); (focus (omega)); exact rfl) | ((with_reducible apply Step.add); exact rfl; exact rfl; (focus (omega)); exact rfl) | ((with_reducible apply Step.lss); exact rfl; exact rfl; exact rfl) | ((with_reducible apply Step.eql); exact rfl; exact rfl; exact rfl) | ((with_reducible apply Step.alloc 2); exact rfl; exact ze132; exact rfl; (focus (first | (simp only [List.nil_append, List.cons_append, List.set_cons_zero, List.set_cons_succ, iv_set, bv_set, iv_rep, bv_rep]; done) | (simp only [List.nil_append, List.cons_append, List.set_cons_zero, List.set_cons_succ, iv_set, bv_set, iv_rep, bv_rep]; rfl) | rfl))) | ((with_reducible apply Step.storeA (k := 2) (n := 2)); exact rfl; exact rfl; exact rfl; exact rfl; (focus (decide +kernel)); exact rfl; (focus (kernel_rfl)); exact rfl; (focus (first | (simp only [List.nil_append, List.cons_append, List.set_cons_zero, List.set_cons_succ, iv_set, bv_set, iv_rep, bv_rep]; done) | (simp only [List.nil_append, List.cons_append, List.set_cons_zero, List.set_cons_succ, iv_set, bv_set, iv_rep, bv_rep]; rfl) | rfl)))) | (with_reducible refine AWo.nil ?_) | ((with_reducible apply AW.seq)) | ((with_reducible apply Then.n)) | ((with_reducible apply AW.regL)) | ((with_reducible apply AW.block)) | ((with_reducible apply AW.skip)) | ((with_reducible apply AW.condT); exact rfl; (focus ((simp only [decide_eq_true_eq, decide_eq_false_iff_not, Bool.not_eq_true', Bool.not_eq_false', Bool.not_true, Bool.not_false]; first | assumption | omega)))) | ((with_reducible apply AW.condF); exact rfl; (focus ((simp only [decide_eq_true_eq, decide_eq_false_iff_not, Bool.not_eq_true', Bool.not_eq_false', Bool.not_true, Bool.not_false]; first | assumption | omega))))))
                ((with_reducible apply Step.store (k := 2)); exact rfl; exact rfl; exact rfl; exact rfl; (focus (decide +kernel)); exact rfl; exact rfl; exact (Nat.le_of_ble_eq_true rfl); exact (show _ = [some { cells := lpv Tb }, some { cells := [.int .i64 (c1 : Nat), .int .i64 c2] }, some { cells := [.int .i64 (q1 : Nat), .int .i64 (q2 + p i)] }] from rfl))
                (repeat (first | (with_reducible refine AWo.cons ?_) | ((with_reducible refine Step.id ?_); first | ((with_reducible apply Step.gdT); exact rfl; exact rfl; (focus ((simp only [decide_eq_true_eq, decide_eq_false_iff_not, Bool.not_eq_true', Bool.not_eq_false', Bool.not_true, Bool.not_false]; first | assumption | omega)))) | ((with_reducible apply Step.move); exact rfl; exact rfl) | ((with_reducible apply Step.load); exact rfl; (focus (decide +kernel)); exact rfl; (focus (exact Rd.new rfl rfl))) | ((with_reducible apply Step.field0); exact rfl; (focus (decide +kernel)); exact rfl) | ((with_reducible apply Step.field (k := 1)); exact rfl; (focus (decide +kernel)); exact rfl) | ((with_reducible apply Step.add); exact rfl; exact rfl; (focus (omega)); exact rfl) | ((with_reducible apply Step.lss); exact rfl; exact rfl; exact rfl) | ((with_reducible apply Step.gtr); exact rfl; exact rfl; exact rfl) | ((with_reducible apply Step.eql); exact rfl; exact rfl; exact rfl) | ((with_reducible apply Step.pickT); exact rfl; exact rfl; exact rfl; exact rfl; (focus ((simp only [decide_eq_true_eq, decide_eq_false_iff_not, Bool.not_eq_true', Bool.not_eq_false', Bool.not_true, Bool.not_false]; first | assumption | omega)))) | ((with_reducible apply Step.pickF); exact rfl; exact rfl; exact rfl; exact rfl; (focus ((simp only [decide_eq_true_eq, decide_eq_false_iff_not, Bool.not_eq_true', Bool.not_eq_false', Bool.not_true, Bool.not_false]; first | assumption | omega))))) | (with_reducible refine AWo.nil ?_) | ((with_reducible apply AW.seq)) | ((with_reducible apply Then.n)) | ((with_reducible apply AW.regL)) | ((with_reducible apply InBlk.n)) | ((with_reducible apply AW.skip)) | ((with_reducible apply AW.condF); exact rfl; (focus ((simp only [decide_eq_true_eq, decide_eq_false_iff_not, Bool.not_eq_true', Bool.not_eq_false', Bool.not_true, Bool.not_false]; first | assumption | omega))))))
                exact ⟨_, [(0, .int .i64 n), (1, v), (6, .slice (some ⟨m.length + 0, 0, none⟩) N N), (7, .int .i64 (s : Nat)), (8, .pointer (some ⟨m.length + 1, 0, none⟩)), (34, v), (35, .int .i64 (l.length : Nat)), (36, .int .i64 (i + 1 : Nat))], [some { cells := lpv Tb }, some { cells := [.int .i64 (c1 : Nat), .int .i64 c2] }], by omega, (Back.trim rfl rfl (by repeat (first | exact CellsOk.nil | refine CellsOk.cons (by assumption) ?_)) (by repeat (first | exact trivial | (refine And.intro ⟨rfl, by (first | exact .int _ _ | exact .slice _ _ _ _ (by first | (simp; done) | omega | (simp; omega)) | exact .ptr _ _ (by first | (simp; done) | omega | (simp; omega)) | exact Ren.of_sl (by assumption) (by first | omega | (simp; omega)))⟩ ?_)))), i + 1, rfl, by omega, by rw [hc', hR']; rfl, rfl⟩
            · have hR' : c' = (c1, c2) := by rw [hR, if_neg (by simp [d1, d2])]
              (repeat (first | (with_reducible refine AWo.cons ?_) | ((with_reducible refine Step.id ?_); first | ((with_reducible apply Step.move); exact rfl; exact rfl) | ((with_reducible apply Step.assign); exact rfl; exact rfl) | ((with_reducible apply Step.load); exact rfl; (focus (decide +kernel)); exact rfl; (focus (first | exact Rd.new rfl rfl | exact Rd.old _ (by assumption)))) | ((with_reducible apply Step.loadL (n := 2)); exact rfl; (focus (decide +kernel)); (focus (decide +kernel)); exact rfl; (focus (assumption)); exact rfl; exact rfl) | ((with_reducible apply Step.ix1); exact rfl; (focus (first | assumption | exact Sl.mk (by omega))); exact rfl; (focus (decide +kernel)); exact rfl; (focus (omega))) | ((with_reducible apply Step.ixz (s := 2)); exact rfl; (focus (exact Sl.mk (by omega))); exact rfl; (focus (decide +kernel)); exact rfl; (focus (omega))) | ((with_reducible apply Step.field (k := 1)); exact rfl; (focus (decide +kernel)); exact rfl) | ((with_reducible apply Step.shl1); exact rfl; exact rfl; (focus (omega)); exact rfl) | ((with_reducible apply Step.shrN); exact rfl; exact rfl; (focus (omega)); exact rfl) | ((with_reducible apply Step.and1); exact rfl; exact rfl; (focus (omega)); exact rfl) | ((with_reducible apply Step.andnN); exact rfl; exact rfl; (focus (omega)); (focus (omega)); exact rfl) | ((with_reducible apply Step.add); exact rfl; exact rfl; (focus (omega)); exact rfl) | ((with_reducible apply Step.lss); exact rfl; exact rfl; exact rfl) | ((with_reducible apply Step.eql); exact rfl; exact rfl; exact rfl) | ((with_reducible apply Step.alloc 2); exact rfl; exact ze132; exact rfl; (focus (first | (simp only [List.nil_append, List.cons_append, List.set_cons_zero, List.set_cons_succ, iv_set, bv_set, iv_rep, bv_rep]; done) | (simp only [List.nil_append, List.cons_append, List.set_cons_zero, List.set_cons_succ, iv_set, bv_set, iv_rep, bv_rep]; rfl) | rfl))) | ((with_reducible apply Step.storeA (k := 2) (n := 2)); exact rfl; exact rfl; exact rfl; exact rfl; (focus (decide +kernel)); exact rfl; (focus (kernel_rfl)); exact rfl; (focus (first | (simp only [List.nil_append, List.cons_append, List.set_cons_zero, List.set_cons_succ, iv_set, bv_set, iv_rep, bv_rep]; done) | (simp only [List.nil_append, List.cons_append, List.set_cons_zero, List.set_cons_succ, iv_set, bv_set, iv_rep, bv_rep]; rfl) | rfl)))) | (with_reducible refine AWo.nil ?_) | ((with_reducible apply AW.seq)) | ((with_reducible apply Then.n)) | ((with_reducible apply AW.regL)) | ((with_reducible apply AW.block)) | ((with_reducible apply AW.skip)) | ((with_reducible apply AW.condT); exact rfl; (focus ((simp only [decide_eq_true_eq, decide_eq_false_iff_not, Bool.not_eq_true', Bool.not_eq_false', Bool.not_true, Bool.not_false]; first | assumption | omega)))) | ((with_reducible apply AW.condF); exact rfl; (focus ((simp only [decide_eq_true_eq, decide_eq_false_iff_not, Bool.not_eq_true', Bool.not_eq_false', Bool.not_true, Bool.not_false]; first | assumption | omega))))))
              ((with_reducible apply Step.store (k := 2)); exact rfl; exact rfl; exact rfl; exact rfl; (focus (decide +kernel)); exact rfl; exact rfl; exact (Nat.le_of_ble_eq_true rfl); exact (show _ = [some { cells := lpv Tb }, some { cells := [.int .i64 (c1 : Nat), .int .i64 c2] }, some { cells := [.int .i64 (q1 : Nat), .int .i64 (q2 + p i)] }] from rfl))
              (repeat (first | (with_reducible refine AWo.cons ?_) | ((with_reducible refine Step.id ?_); first | ((with_reducible apply Step.gdT); exact rfl; exact rfl; (focus ((simp only [decide_eq_true_eq, decide_eq_false_iff_not, Bool.not_eq_true', Bool.not_eq_false', Bool.not_true, Bool.not_false]; first | assumption | omega)))) | ((with_reducible apply Step.gdF); exact rfl; exact rfl; (focus ((simp only [decide_eq_true_eq, decide_eq_false_iff_not, Bool.not_eq_true', Bool.not_eq_false', Bool.not_true, Bool.not_false]; first | assumption | omega)))) | ((with_reducible apply Step.move); exact rfl; exact rfl) | ((with_reducible apply Step.load); exact rfl; (focus (decide +kernel)); exact rfl; (focus (exact Rd.new rfl rfl))) | ((with_reducible apply Step.field0); exact rfl; (focus (decide +kernel)); exact rfl) | ((with_reducible apply Step.field (k := 1)); exact rfl; (focus (decide +kernel)); exact rfl) | ((with_reducible apply Step.add); exact rfl; exact rfl; (focus (omega)); exact rfl) | ((with_reducible apply Step.lss); exact rfl; exact rfl; exact rfl) | ((with_reducible apply Step.gtr); exact rfl; exact rfl; exact rfl) | ((with_reducible apply Step.eql); exact rfl; exact rfl; exact rfl) | ((with_reducible apply Step.pickF); exact rfl; exact rfl; exact rfl; exact rfl; (focus ((simp only [decide_eq_true_eq, decide_eq_false_iff_not, Bool.not_eq_true', Bool.not_eq_false', Bool.not_true, Bool.not_false]; first | assumption | omega))))) | (with_reducible refine AWo.nil ?_) | ((with_reducible apply AW.seq)) | ((with_reducible apply Then.n)) | ((with_reducible apply AW.regL)) | ((with_reducible apply InBlk.n)) | ((with_reducible apply AW.skip)) | ((with_reducible apply AW.condF); exact rfl; (focus (first | rfl | (simp only [decide_eq_true_eq, decide_eq_false_iff_not, Bool.not_eq_true', Bool.not_eq_false', Bool.not_true, Bool.not_false]; first | assumption | omega))))))
              exact ⟨_, [(0, .int .i64 n), (1, v), (6, .slice (some ⟨m.length + 0, 0, none⟩) N N), (7, .int .i64 (s : Nat)), (8, .pointer (some ⟨m.length + 1, 0, none⟩)), (34, v), (35, .int .i64 (l.length : Nat)), (36, .int .i64 (i + 1 : Nat))], [some { cells := lpv Tb }, some { cells := [.int .i64 (c1 : Nat), .int .i64 c2] }], by omega, (Back.trim rfl rfl (by repeat (first | exact CellsOk.nil | refine CellsOk.cons (by assumption) ?_)) (by repeat (first | exact trivial | (refine And.intro ⟨rfl, by (first | exact .int _ _ | exact .slice _ _ _ _ (by first | (simp; done) | omega | (simp; omega)) | exact .ptr _ _ (by first | (simp; done) | omega | (simp; omega)) | exact Ren.of_sl (by assumption) (by first | omega | (simp; omega)))⟩ ?_)))), i + 1, rfl, by omega, by rw [hc', hR']; rfl, rfl⟩
    · obtain rfl : i = l.length := by omega
      rw [hR2 s hlt (by omega)]
      have hset := tb2_set (n := n) (p := p) (k := l.length) (N := N) hlt
      generalize hTb' : tb2 n p l.length N (s + 1) = Tb' at *
      generalize tb2 n p l.length N s = Tb at *
      generalize l2 (pkD n p l.length s) = w at *
      have gT := g0_lpv Tb'
      have gw := g0_lpc w
      (repeat (first | (with_reducible refine AWo.cons ?_) | ((with_reducible refine Step.id ?_); first | ((with_reducible apply Step.move); exact rfl; exact rfl) | ((with_reducible apply Step.loadL (n := 2)); exact rfl; (focus (decide +kernel)); (focus (decide +kernel)); exact rfl; (focus (exact RdL.new rfl rfl)); exact rfl; exact rfl) | ((with_reducible apply Step.ixz (s := 2)); exact rfl; (focus (exact Sl.mk (by omega))); exact rfl; (focus (decide +kernel)); exact rfl; (focus (omega))) | ((with_reducible apply Step.lss); exact rfl; exact rfl; exact rfl)) | (with_reducible refine AWo.nil ?_) | ((with_reducible apply AW.seq)) | ((with_reducible apply Then.n)) | ((with_reducible apply AW.regL)) | ((with_reducible apply AW.exit)) | ((with_reducible apply InBlk.hit)) | ((with_reducible apply Then.e)) | ((with_reducible apply AW.condF); exact rfl; (focus ((simp only [decide_eq_true_eq, decide_eq_false_iff_not, Bool.not_eq_true', Bool.not_eq_false', Bool.not_true, Bool.not_false]; first | assumption | omega))))))
      ((with_reducible apply Step.storeLp (k := 0) (i := s) (l := w)); exact rfl; exact rfl; exact rfl; (focus (decide +kernel)); (focus (omega)); (focus (first | (simp only [List.nil_append, List.cons_append, List.set_cons_zero, List.set_cons_succ, iv_set, bv_set, iv_rep, bv_rep]; done) | (simp only [List.nil_append, List.cons_append, List.set_cons_zero, List.set_cons_succ, iv_set, bv_set, iv_rep, bv_rep]; rfl) | rfl)))
      rw [hset]
      (repeat (first | (with_reducible refine AWo.cons ?_) | ((with_reducible refine Step.id ?_); first | ((with_reducible apply Step.move); exact rfl; exact rfl) | ((with_reducible apply Step.assign); exact rfl; exact rfl) | ((with_reducible apply Step.add); exact rfl; exact rfl; (focus (omega)); exact rfl)) | (with_reducible refine AWo.nil ?_) | ((with_reducible apply Then.n)) | ((with_reducible apply AW.regL)) | ((with_reducible apply InBlk.n))))
      exact ⟨_, _, [some { cells := lpv Tb' }], by omega, (Back.trim rfl rfl (by repeat (first | exact CellsOk.nil | refine CellsOk.cons (by assumption) ?_)) (by repeat (first | exact trivial | (refine And.intro ⟨rfl, by (first | exact .int _ _ | exact .slice _ _ _ _ (by first | (simp; done) | omega | (simp; omega)) | exact Ren.of_sl (by assumption) (by first | omega | (simp; omega)))⟩ ?_)))), s + 1, rfl, by omega, by omega, by rw [hTb'], rfl⟩
  · obtain rfl : s = N := by omega
    have hTl := tb2_len (n := n) (p := p) (k := l.length) (N := s) (s := s) (Nat.le_refl _)
    have hTg := tb2_old (n := n) (p := p) (k := l.length) (N := s) (s := s) (j := s - 1) (by omega)
    generalize tb2 n p l.length s s = Tb at *
    generalize pkD n p l.length (s - 1) = d at *
    have e1 : ((s : Nat) : Int) - 1 = ((s - 1 : Nat) : Int) := by omega
    have r1 : RdL (m ++ [some { cells := lpv Tb }]) (m.length + 0) ((s - 1) * 2) (lpc (l2 d)) := by
      rw [← hTg]
      exact rdl_lp rfl (by omega)
    (repeat (first | (with_reducible refine AWo.cons ?_) | ((with_reducible refine Step.id ?_); first | ((with_reducible apply Step.move); exact rfl; exact rfl) | ((with_reducible apply Step.assign); exact rfl; exact rfl) | ((with_reducible apply Step.load); exact rfl; (focus (decide +kernel)); exact rfl; (focus (exact r1.at_ 0 rfl))) | ((with_reducible apply Step.ixz (s := 2)); exact rfl; (focus (exact Sl.mk (by omega))); exact rfl; (focus (decide +kernel)); exact rfl; (focus (omega))) | ((with_reducible apply Step.field0); exact rfl; (focus (decide +kernel)); exact rfl) | ((with_reducible apply Step.subE); exact rfl; exact rfl; (focus (assumption)); (focus (omega)); exact rfl) | ((with_reducible apply Step.lss); exact rfl; exact rfl; exact rfl) | ((with_reducible apply Step.len); exact rfl; (focus (exact Sl.mk (by omega))); (focus (decide +kernel)); exact rfl)) | (with_reducible refine AWo.nil ?_) | ((with_reducible apply AW.seq)) | ((with_reducible apply Then.n)) | ((with_reducible apply AW.regL)) | ((with_reducible apply AW.exit)) | ((with_reducible apply InBlk.hit)) | ((with_reducible apply Then.e)) | ((with_reducible apply AW.condF); exact rfl; (focus ((simp only [decide_eq_true_eq, decide_eq_false_iff_not, Bool.not_eq_true', Bool.not_eq_false', Bool.not_true, Bool.not_false]; first | assumption | omega))))))
    (refine AW.retD (l := [(4, _), (5, _)]) (by repeat (first | exact trivial | (refine And.intro ⟨rfl, by (exact .int _ _)⟩ ?_))) ?_; (repeat (first | refine Then.r ?_ | refine InBlk.r ?_)))
    exact ⟨_, rfl, rfl, rfl⟩
end Go.Proofs.YtibhgdglbillaaaDoor.Abs
namespace Go.Proofs.YtibhgdglbillaaaDoor.Abs
set_option linter.unusedSimpArgs false
set_option linter.unusedVariables false
open Go.RowKit
open Go.Proofs.YtibhgdglbillaaaDoor.Sim
open Go.Proofs
/-- The strips that have a bar: those that are not in the set. -/
def oS (A : Nat → Nat) (k s : Nat) : List Int := (List.range k).map fun j => if s.testBit j then 0 else (A j : Int)
theorem oS_len (A : Nat → Nat) (k s : Nat) : (oS A k s).length = k := by simp [oS]
theorem oS_set {A : Nat → Nat} {k s i : Nat} : (oS A k s).set i (A i : Nat) = oS A k (andn s (2 ^ i)) := by
  apply List.ext_getElem?
  intro j
  rw [List.getElem?_set]
  by_cases h : j < k
  · by_cases e : i = j
    · subst e
      rw [if_pos rfl, if_pos (by rw [oS_len]; exact h)]
      simp [oS, h, andn_at]
    · rw [if_neg e]
      simp [oS, h, andn_at, e]
  · have h1 : (oS A k s)[j]? = none := List.getElem?_eq_none (by rw [oS_len]; omega)
    have h2 : (oS A k (andn s (2 ^ i)))[j]? = none := List.getElem?_eq_none (by rw [oS_len]; omega)
    rw [h1, h2]
    split
    · rw [if_neg (by rw [oS_len]; omega)]
    · rfl
theorem oS_full (A : Nat → Nat) (k : Nat) : List.replicate k (0 : Int) = oS A k (2 ^ k - 1) := by
  apply List.ext_getElem?
  intro j
  by_cases h : j < k
  · simp [oS, h, Nat.testBit_two_pow_sub_one]
  · rw [List.getElem?_eq_none (by simp; omega), List.getElem?_eq_none (by rw [oS_len]; omega)]
theorem oS_get {A : Nat → Nat} {k j : Nat} (h : j < k) : (oS A k 0).getD j 0 = (A j : Nat) := by simp [oS, h]
theorem asg_at {D : Nat → Ld} {f s j : Nat} (h0 : s ≠ 0) : asg D (f + 1) s j = if j = (D s).2.2 then (D s).1 - 1 else asg D f (andn s (2 ^ (D s).2.2)) j := by
  simp only [asg, if_neg h0]
set_option maxRecDepth 100000 in
theorem Bins_no {m : AM} {v : Value} {l : List Int} {n : Int} (hl : Ints m v l) (hlen : l.length ≤ 9223372036854775807) (hok : stripsB n l = false) : ACall Tryd.prog 45 #[.int .i64 n, v] m (Ret (.tuple #[.slice none 0 0, .int .i64 2]) m) := by
  refine ACall.start Tryd.func45 rfl rfl ?_
  (repeat (first | (with_reducible refine AWo.cons ?_) | ((with_reducible refine Step.id ?_); first | ((with_reducible apply Step.move); exact rfl; exact rfl) | ((with_reducible apply Step.assign); exact rfl; exact rfl) | ((with_reducible apply Step.not); exact rfl; exact rfl) | ((with_reducible apply Step.callR fit); exact rfl; exact Tryd.func88; exact rfl; exact rfl; exact (valid_ok (hl.old []) hlen hok))) | (with_reducible refine AWo.nil ?_) | ((with_reducible apply AW.seq)) | ((with_reducible apply Then.n)) | ((with_reducible apply AW.regL)) | ((with_reducible apply AW.condT); exact rfl; (focus (rfl)))))
  (refine AW.retD (l := [(4, _), (5, _)]) (by repeat (first | exact trivial | (refine And.intro ⟨rfl, by (first | exact .int _ _ | exact Ren.of_g0 rfl)⟩ ?_))) ?_; (repeat (first | refine Then.r ?_ | refine InBlk.r ?_)))
  exact ⟨_, rfl, rfl, rfl⟩
set_option maxHeartbeats 8000000 in
set_option maxRecDepth 100000 in
theorem Bins_ok {m : AM} {v : Value} {l : List Int} {n : Int} (hl : Ints m v l) (hok : stripsB n l = true) :
    ACall Tryd.prog 45 #[.int .i64 n, v] m (NewT (fun N => .tuple #[.slice (some ⟨N, 0, none⟩) l.length l.length, .int .i64 0]) (some { cells := iv (oS (binOf n (fun i => l.getD i 0) l.length) l.length 0) }) m) := by
  have h := SpOk.of hok
  have hn1 := h.n1
  have hl14 := h.len
  obtain ⟨a, o, h1, h2, h3⟩ := id hl
  obtain ⟨p, hp⟩ : ∃ p : Nat → Int, p = fun i => l.getD i 0 := ⟨_, rfl⟩
  have hpb : ∀ i, i < l.length → 1 ≤ p i ∧ p i ≤ n := by rw [hp]; exact h.at_
  have hN : 2 ^ l.length ≤ 16384 := by
    have : 2 ^ l.length ≤ 2 ^ 14 := Nat.pow_le_pow_right (by omega) hl14
    omega
  have hN1 : 1 ≤ 2 ^ l.length := Nat.one_le_two_pow
  have pw : ∀ i, i ≤ l.length → 2 ^ i ≤ 16384 := fun i hi => Nat.le_trans (Nat.pow_le_pow_right (by omega) hi) hN
  have hK : ∀ T, ACall Tryd.prog 89 #[.int .i64 n, v] (m ++ T) (New (some { cells := lvc (pkT n p l.length (2 ^ l.length)) }) (2 ^ l.length) (m ++ T)) := by
    rw [hp]; exact fun T => packed_ok (hl.old T) hok
  rw [← hp]
  have hT := pkT_len (n := n) (p := p) (k := l.length) (2 ^ l.length)
  have hTg := fun s (hs : s < 2 ^ l.length) => pkT_get (n := n) (p := p) (k := l.length) hs
  have hbin : binOf n p l.length = asg (pkD n p l.length) (2 ^ l.length - 1) (2 ^ l.length - 1) := rfl
  have hfull := oS_full (binOf n p l.length) l.length
  have hC := fun s (hs : s < 2 ^ l.length) => pkD_cnt (n := n) (p := p) s hs
  have hC2 := fun s => cntS_le (k := l.length) s
  have hex := fun s (hs : s < 2 ^ l.length) (h0 : s ≠ 0) => pkD_ex (n := n) (p := p) hs h0
  have hasg := fun s (hs : s < 2 ^ l.length) => asg_ok hpb (by omega) s hs s (Nat.le_refl _)
  generalize hA : binOf n p l.length = A at *
  generalize pkT n p l.length (2 ^ l.length) = Q at *
  have gQ := g0_lvc Q
  refine ACall.start Tryd.func45 rfl rfl ?_
  (repeat (first | (with_reducible refine AWo.cons ?_) | ((with_reducible refine Step.id ?_); first | ((with_reducible apply Step.move); exact rfl; exact rfl) | ((with_reducible apply Step.assign); exact rfl; exact rfl) | ((with_reducible apply Step.not); exact rfl; exact rfl) | ((with_reducible apply Step.callR fit); exact rfl; exact Tryd.func88; exact rfl; exact rfl; exact (valid_ok (hl.old []) (by omega) hok))) | (with_reducible refine AWo.nil ?_) | ((fail_if_success (with_reducible refine AW.atR (id := 3) ?_)); ((with_reducible apply AW.seq))) | ((with_reducible apply Then.n)) | ((with_reducible apply AW.regL)) | ((with_reducible apply AW.skip)) | ((with_reducible apply AW.condF); exact rfl; (focus (rfl)))))
  generalize hN2 : 2 ^ l.length = N at *
  refine AW.joinG (fr [(0, .int .i64 n), (1, v), (6, .slice (some ⟨m.length + 0, 0, none⟩) N N), (7, .slice (some ⟨m.length + 1, 0, none⟩) l.length l.length)]) (m ++ [some { cells := lvc Q }, some { cells := iv (List.replicate l.length 0) }]) ?_ ?_
  · (repeat' (first | ((with_reducible refine Step.id ?_); first | ((with_reducible apply Step.move); exact rfl; exact rfl) | ((with_reducible apply Step.assign); exact rfl; exact rfl) | ((with_reducible apply Step.len); exact rfl; (focus (assumption)); (focus (decide +kernel)); exact rfl) | ((with_reducible apply Step.callN fit (k := 0)); exact rfl; exact rfl; exact Tryd.func89; exact rfl; exact rfl; exact (hK _); (focus (first | (simp only [List.nil_append, List.cons_append, List.set_cons_zero, List.set_cons_succ, iv_set, bv_set, iv_rep, bv_rep]; done) | (simp only [List.nil_append, List.cons_append, List.set_cons_zero, List.set_cons_succ, iv_set, bv_set, iv_rep, bv_rep]; rfl) | rfl))) | ((with_reducible apply Step.callN fit (k := 1)); exact rfl; exact rfl; exact Tryd.func89; exact rfl; exact rfl; exact (hK _); (focus (first | (simp only [List.nil_append, List.cons_append, List.set_cons_zero, List.set_cons_succ, iv_set, bv_set, iv_rep, bv_rep]; done) | (simp only [List.nil_append, List.cons_append, List.set_cons_zero, List.set_cons_succ, iv_set, bv_set, iv_rep, bv_rep]; rfl) | rfl))) | ((with_reducible apply Step.make1 0); exact rfl; exact rfl; exact rfl; exact el47; (focus (omega)); exact rfl; (focus (first | (simp only [List.nil_append, List.cons_append, List.set_cons_zero, List.set_cons_succ, iv_set, bv_set, iv_rep, bv_rep]; done) | (simp only [List.nil_append, List.cons_append, List.set_cons_zero, List.set_cons_succ, iv_set, bv_set, iv_rep, bv_rep]; rfl) | rfl))) | ((with_reducible apply Step.make1 1); exact rfl; exact rfl; exact rfl; exact el47; (focus (omega)); exact rfl; (focus (first | (simp only [List.nil_append, List.cons_append, List.set_cons_zero, List.set_cons_succ, iv_set, bv_set, iv_rep, bv_rep]; done) | (simp only [List.nil_append, List.cons_append, List.set_cons_zero, List.set_cons_succ, iv_set, bv_set, iv_rep, bv_rep]; rfl) | rfl)))) | ((with_reducible apply Then.n)) | ((with_reducible apply AW.drawT fit (T := (.step 0 (.step 1 (.step 3 (.step 4 (.both (.step 2 (.step 6 (.step 5 (.step 7 .done)))) (.step 5 (.step 2 (.step 6 (.step 7 .done))))))))))); (focus (decide +kernel))) | ((with_reducible apply AWt.step); exact rfl) | ((with_reducible apply AWt.done)) | refine AWt.both ?_ ?_))
    all_goals first | (refine Gc.perm [0,1] rfl (by decide) ?_ (CellsOk.ren ?_) ?_; (focus (intro p hp; rcases p with _ | _ | p <;> first | rfl | exact absurd hp (lenB (n := 2) rfl))); (focus (repeat (first | exact CellsOk.nil | refine CellsOk.cons (by first | assumption | exact g0_iv _) ?_))); (focus ((repeat (first | exact trivial | (refine And.intro ⟨_, rfl, ?_⟩ ?_; (focus (first | exact .int _ _ | (refine Ren.slice_sg ?_; (focus (first | (simp; done) | omega | (simp; omega)))) | (refine Ren.of_sl_sg (by assumption) ?_ ?_; (focus (first | (simp; done) | omega | (simp; omega))); (focus (simp; done)))))))); done))) | (refine Gc.perm [1,0] rfl (by decide) ?_ (CellsOk.ren ?_) ?_; (focus (intro p hp; rcases p with _ | _ | p <;> first | rfl | exact absurd hp (lenB (n := 2) rfl))); (focus (repeat (first | exact CellsOk.nil | refine CellsOk.cons (by first | assumption | exact g0_iv _) ?_))); (focus ((repeat (first | exact trivial | (refine And.intro ⟨_, rfl, ?_⟩ ?_; (focus (first | exact .int _ _ | (refine Ren.slice_sg ?_; (focus (first | (simp; done) | omega | (simp; omega)))) | (refine Ren.of_sl_sg (by assumption) ?_ ?_; (focus (first | (simp; done) | omega | (simp; omega))); (focus (simp; done)))))))); done)))
  have e1 : ((N : Nat) : Int) - 1 = ((N - 1 : Nat) : Int) := by omega
  rw [hfull]
  (repeat (first | (with_reducible refine AWo.cons ?_) | ((with_reducible refine Step.id ?_); first | ((with_reducible apply Step.move); exact rfl; exact rfl) | ((with_reducible apply Step.assign); exact rfl; exact rfl) | ((with_reducible apply Step.subE); exact rfl; exact rfl; (focus (assumption)); (focus (omega)); exact rfl) | ((with_reducible apply Step.len); exact rfl; (focus (exact Sl.mk (by omega))); (focus (decide +kernel)); exact rfl)) | (with_reducible refine AWo.nil ?_) | ((with_reducible apply AW.seq)) | ((with_reducible apply Then.n)) | ((with_reducible apply AW.regL)) | ((with_reducible apply AW.block))))
  refine AW.loopT (fun q t L => ∃ s f : Nat, q = s ∧ s < N ∧ s ≤ f ∧ (∀ j, j < l.length → s.testBit j = true → A j = asg (pkD n p l.length) f s j) ∧ L = [some { cells := lvc Q }, some { cells := iv (oS A l.length s) }] ∧
    t = [(0, .int .i64 n), (1, v), (6, .slice (some ⟨m.length + 0, 0, none⟩) N N), (7, .slice (some ⟨m.length + 1, 0, none⟩) l.length l.length), (8, .int .i64 (s : Nat))]) ⟨_, _, _, (Or.inl ⟨rfl, (by repeat (first | exact trivial | (refine And.intro rfl ?_)))⟩), N - 1, N - 1, rfl, by omega, Nat.le_refl _, fun j _ _ => by rw [hbin], rfl, rfl⟩ ?_
  rintro s t L ⟨_, f, rfl, hs, hf, hAs, rfl, rfl⟩
  by_cases h0 : s = 0
  · subst h0
    (repeat (first | (with_reducible refine AWo.cons ?_) | ((with_reducible refine Step.id ?_); first | ((with_reducible apply Step.move); exact rfl; exact rfl) | ((with_reducible apply Step.assign); exact rfl; exact rfl) | ((with_reducible apply Step.gtr); exact rfl; exact rfl; exact rfl)) | (with_reducible refine AWo.nil ?_) | ((with_reducible apply AW.seq)) | ((with_reducible apply Then.n)) | ((with_reducible apply AW.regL)) | ((with_reducible apply AW.exit)) | ((with_reducible apply InBlk.hit)) | ((with_reducible apply Then.e)) | ((with_reducible apply AW.condF); exact rfl; (focus (rfl)))))
    refine AW.retB (l := [(4, .slice (some ⟨m.length + 0, 0, none⟩) l.length l.length), (5, .int .i64 0)]) (L1 := [some { cells := iv (oS A l.length 0) }]) (Back.mv 0 1 rfl rfl rfl rfl (by intro j b hj h; rcases j with _ | _ | _ | _ | _ | _ | j <;> simp_all) (by repeat (first | exact CellsOk.nil | refine CellsOk.cons (by exact g0_iv _) ?_)) (by repeat (first | exact trivial | (refine And.intro ⟨_, rfl, by (first | exact .int _ _ | exact Ren.slice_mv (by first | (simp; done) | omega | (simp; omega)))⟩ ?_)))) ?_
    exact ⟨_, rfl, rfl, rfl⟩
  · obtain ⟨i, hi, hb, e⟩ := hex s hs h0
    have hj := andn_lt hb
    have hg := hTg s hs
    obtain ⟨_, _, as3⟩ := hasg s hs
    obtain ⟨b1, _⟩ := as3 h0
    have hCs := hC s hs
    have hCk := hC2 s
    have el : (pkD n p l.length s).2.2 = i := by rw [e, wth_last]
    obtain ⟨f, rfl⟩ : ∃ g, f = g + 1 := ⟨f - 1, by omega⟩
    have hAi : A i = (pkD n p l.length s).1 - 1 := by
      rw [hAs i hi hb, asg_at h0, if_pos el.symm]
    have hAr : ∀ j, j < l.length → (andn s (2 ^ i)).testBit j = true → A j = asg (pkD n p l.length) f (andn s (2 ^ i)) j := fun j hj hbj => by
      rw [andn_at, Bool.and_eq_true] at hbj
      have hne : ¬ j = i := fun q => by rw [q] at hbj; simp at hbj
      rw [hAs j hj hbj.1, asg_at h0, el, if_neg hne]
    have hset := oS_set (A := A) (k := l.length) (s := s) (i := i)
    rw [hAi] at hset
    clear hAs hasg hex hfull hbin hC hC2 hTg
    have r1 : RdL (m ++ [some { cells := lvc Q }, some { cells := iv (oS A l.length s) }]) (m.length + 0) (s * 3) (ldc (pkD n p l.length s)) := by
      rw [← hg]
      exact rdl_ld rfl (by omega)
    generalize pkD n p l.length s = d at *
    obtain ⟨d1, d2, d3⟩ := d
    simp only at el hCs b1 hset
    subst el
    have e2 : ((d1 : Nat) : Int) - 1 = ((d1 - 1 : Nat) : Int) := by omega
    have lo := oS_len A l.length s
    have pwi := pw d3 (by omega)
    have hd62 : d3 ≤ 62 := by omega
    change RdL _ _ _ [.int .i64 (d1 : Nat), .int .i64 d2, .int .i64 (d3 : Nat)] at r1
    (repeat (first | (with_reducible refine AWo.cons ?_) | ((with_reducible refine Step.id ?_); first | ((with_reducible apply Step.move); exact rfl; exact rfl) | ((with_reducible apply Step.assign); exact rfl; exact rfl) | ((with_reducible apply Step.load); exact rfl; (focus (decide +kernel)); exact rfl; (focus (exact Rd.new rfl rfl))) | ((with_reducible apply Step.loadL (n := 3)); exact rfl; (focus (decide +kernel)); (focus (decide +kernel)); exact rfl; (focus (assumption)); exact rfl; exact rfl) | ((with_reducible apply Step.ix1z); exact rfl; (focus (exact Sl.mk (by omega))); exact rfl; (focus (decide +kernel)); exact rfl; (focus (omega))) | ((with_reducible apply Step.ixz (s := 3)); exact rfl; (focus (exact Sl.mk (by omega))); exact rfl; (focus (decide +kernel)); exact rfl; (focus (omega))) | ((with_reducible apply Step.field0); exact rfl; (focus (decide +kernel)); exact rfl) | ((with_reducible apply Step.field (k := 2)); exact rfl; (focus (decide +kernel)); exact rfl) | ((with_reducible apply Step.subE); exact rfl; exact rfl; (focus (assumption)); (focus (omega)); exact rfl) | ((with_reducible apply Step.shl1); exact rfl; exact rfl; (focus (omega)); exact rfl) | ((with_reducible apply Step.andnN); exact rfl; exact rfl; (focus (omega)); (focus (omega)); exact rfl) | ((with_reducible apply Step.gtr); exact rfl; exact rfl; exact rfl) | ((with_reducible apply Step.store (k := 1)); exact rfl; exact rfl; exact rfl; exact rfl; (focus (decide +kernel)); exact rfl; exact rfl; (focus (first | omega | (simp [iv, bv]; done) | (simp [iv, bv]; omega))); (focus (first | (simp only [List.nil_append, List.cons_append, List.set_cons_zero, List.set_cons_succ, iv_set, bv_set, iv_rep, bv_rep]; done) | (simp only [List.nil_append, List.cons_append, List.set_cons_zero, List.set_cons_succ, iv_set, bv_set, iv_rep, bv_rep]; rfl) | rfl))) | ((with_reducible apply Step.alloc 2); exact rfl; exact ze129; exact rfl; (focus (first | (simp only [List.nil_append, List.cons_append, List.set_cons_zero, List.set_cons_succ, iv_set, bv_set, iv_rep, bv_rep]; done) | (simp only [List.nil_append, List.cons_append, List.set_cons_zero, List.set_cons_succ, iv_set, bv_set, iv_rep, bv_rep]; rfl) | rfl))) | ((with_reducible apply Step.storeA (k := 2) (n := 3)); exact rfl; exact rfl; exact rfl; exact rfl; (focus (decide +kernel)); exact rfl; (focus (kernel_rfl)); exact rfl; (focus (first | (simp only [List.nil_append, List.cons_append, List.set_cons_zero, List.set_cons_succ, iv_set, bv_set, iv_rep, bv_rep]; done) | (simp only [List.nil_append, List.cons_append, List.set_cons_zero, List.set_cons_succ, iv_set, bv_set, iv_rep, bv_rep]; rfl) | rfl)))) | (with_reducible refine AWo.nil ?_) | ((with_reducible apply AW.seq)) | ((with_reducible apply Then.n)) | ((with_reducible apply AW.regL)) | ((with_reducible apply AW.block)) | ((with_reducible apply InBlk.n)) | ((with_reducible apply AW.skip)) | ((with_reducible apply AW.condT); exact rfl; (focus ((simp only [decide_eq_true_eq, decide_eq_false_iff_not, Bool.not_eq_true', Bool.not_eq_false', Bool.not_true, Bool.not_false]; first | assumption | omega))))))
    exact ⟨_, _, [some { cells := lvc Q }, some { cells := iv ((oS A l.length s).set d3 (d1 - 1 : Nat)) }], hj, (Back.trim rfl rfl (by repeat (first | exact CellsOk.nil | refine CellsOk.cons (by first | assumption | exact g0_iv _) ?_)) (by repeat (first | exact trivial | (refine And.intro ⟨rfl, by (first | exact .int _ _ | exact .slice _ _ _ _ (by first | (simp; done) | omega | (simp; omega)) | exact Ren.of_sl (by assumption) (by first | omega | (simp; omega)))⟩ ?_)))), _, f, rfl, by omega, by omega, hAr, by rw [hset], rfl⟩
end Go.Proofs.YtibhgdglbillaaaDoor.Abs
namespace Go.Proofs.YtibhgdglbillaaaDoor.Abs
set_option linter.unusedSimpArgs false
set_option linter.unusedVariables false
open Go.RowKit
open Go.Proofs.YtibhgdglbillaaaDoor.Sim
open Go.Proofs
/-- The loads of the bars after the first i strips. -/
def fuL (p : Nat → Int) (A : Nat → Nat) (m i : Nat) : List Int := (List.range m).map fun b => ld p A i b
theorem fuL_len (p : Nat → Int) (A : Nat → Nat) (m i : Nat) : (fuL p A m i).length = m := by simp [fuL]
theorem fuL_zero (p : Nat → Int) (A : Nat → Nat) (m : Nat) : List.replicate m (0 : Int) = fuL p A m 0 := by
  apply List.ext_getElem?
  intro j
  by_cases h : j < m
  · simp [fuL, h, ld, sm]
  · rw [List.getElem?_eq_none (by simp; omega), List.getElem?_eq_none (by rw [fuL_len]; omega)]
theorem fuL_get {p : Nat → Int} {A : Nat → Nat} {m i b : Nat} (h : b < m) : (fuL p A m i).getD b 0 = ld p A i b := by simp [fuL, h]
theorem fuL_set {p : Nat → Int} {A : Nat → Nat} {m i : Nat} : (fuL p A m i).set (A i) (ld p A i (A i) + p i) = fuL p A m (i + 1) := by
  apply List.ext_getElem?
  intro j
  rw [List.getElem?_set]
  by_cases h : j < m
  · by_cases e : A i = j
    · subst e
      rw [if_pos rfl, if_pos (by rw [fuL_len]; exact h)]
      simp [fuL, h, ld_succ]
    · rw [if_neg e]
      simp [fuL, h, ld_succ, e]
  · have h1 : (fuL p A m i)[j]? = none := List.getElem?_eq_none (by rw [fuL_len]; omega)
    have h2 : (fuL p A m (i + 1))[j]? = none := List.getElem?_eq_none (by rw [fuL_len]; omega)
    rw [h1, h2]
    split
    · rw [if_neg (by rw [fuL_len]; omega)]
    · rfl
set_option maxHeartbeats 8000000 in
set_option maxRecDepth 100000 in
theorem CutBins_ok {m : AM} {v : Value} {l : List Int} {n : Int} (hl : Ints m v l) (hlen : l.length ≤ 9223372036854775807) : ACall Tryd.prog 12 #[.int .i64 n, v] m (Ret (.bool true) m) := by
  obtain ⟨a, o, h1, h2, h3⟩ := id hl
  cases hok : stripsB n l with
  | false =>
    refine ACall.start Tryd.func12 rfl rfl ?_
    (repeat (first | (with_reducible refine AWo.cons ?_) | ((with_reducible refine Step.id ?_); first | ((with_reducible apply Step.gdT); exact rfl; exact rfl; (focus (rfl))) | ((with_reducible apply Step.move); exact rfl; exact rfl) | ((with_reducible apply Step.assign); exact rfl; exact rfl) | ((with_reducible apply Step.eql); exact rfl; exact rfl; exact rfl) | ((with_reducible apply Step.neq); exact rfl; exact rfl; exact rfl) | ((with_reducible apply Step.len); exact rfl; (focus (exact Sl.nil 0 0)); (focus (decide +kernel)); exact rfl) | ((with_reducible apply Step.not); exact rfl; exact rfl) | ((with_reducible apply Step.extract); exact rfl; exact rfl; exact rfl) | ((with_reducible apply Step.pickF); exact rfl; exact rfl; exact rfl; exact rfl; (focus (rfl))) | ((with_reducible apply Step.callR fit); exact rfl; exact Tryd.func43; exact rfl; exact rfl; exact (Fewest_no (hl.old _) hlen hok)) | ((with_reducible apply Step.callR fit); exact rfl; exact Tryd.func44; exact rfl; exact rfl; exact (RFewest_no (hl.old _) hlen hok)) | ((with_reducible apply Step.callR fit); exact rfl; exact Tryd.func45; exact rfl; exact rfl; exact (Bins_no (hl.old _) hlen hok)) | ((with_reducible apply Step.callR fit); exact rfl; exact Tryd.func21; exact rfl; exact rfl; exact (awake_ok))) | (with_reducible refine AWo.nil ?_) | ((with_reducible apply AW.seq)) | ((with_reducible apply Then.n)) | ((with_reducible apply AW.regL)) | ((with_reducible apply AW.skip)) | ((with_reducible apply AW.condT); exact rfl; (focus (rfl))) | ((with_reducible apply AW.condF); exact rfl; (focus (rfl)))))
    (refine AW.retD (l := [(4, _)]) (by repeat (first | exact trivial | (refine And.intro ⟨rfl, by (exact .bool _)⟩ ?_))) ?_; (repeat (first | refine Then.r ?_ | refine InBlk.r ?_)))
    exact ⟨_, rfl, rfl, rfl⟩
  | true =>
    have h := SpOk.of hok
    have hn1 := h.n1
    have hn2 := h.n2
    have hl14 := h.len
    have hF := fun T => Fewest_ok (hl.old T) hok
    have hR := fun T => RFewest_ok (hl.old T) hok
    have hB := fun T => Bins_ok (hl.old T) hok
    have hP := fewest_ok (n := n) h.at_ (by omega)
    have hat := h.at_
    have hA0 : ∀ j, j < l.length → (oS (binOf n (fun i => l.getD i 0) l.length) l.length 0).getD j 0 = (binOf n (fun i => l.getD i 0) l.length j : Nat) := fun j hj => oS_get hj
    have hAl := oS_len (binOf n (fun i => l.getD i 0) l.length) l.length 0
    have hfk : fewest n (fun i => l.getD i 0) l.length ≤ 14 := by
      have := pkD_cnt (n := n) (p := fun i => l.getD i 0) (k := l.length) (2 ^ l.length - 1) (by have := Nat.two_pow_pos l.length; omega)
      have := cntS_le (k := l.length) (2 ^ l.length - 1)
      unfold fewest
      omega
    generalize hfe : fewest n (fun i => l.getD i 0) l.length = w at *
    generalize binOf n (fun i => l.getD i 0) l.length = A at *
    generalize oS A l.length 0 = out at *
    refine ACall.start Tryd.func12 rfl rfl ?_
    (repeat (first | (with_reducible refine AWo.cons ?_) | ((with_reducible refine Step.id ?_); first | ((with_reducible apply Step.gdT); exact rfl; exact rfl; (focus (first | rfl | (simp; done)))) | ((with_reducible apply Step.move); exact rfl; exact rfl) | ((with_reducible apply Step.assign); exact rfl; exact rfl) | ((with_reducible apply Step.neq); exact rfl; exact rfl; exact rfl) | ((with_reducible apply Step.len); exact rfl; (focus (first | assumption | exact Sl.mk (by omega))); (focus (decide +kernel)); exact rfl) | ((with_reducible apply Step.not); exact rfl; exact rfl) | ((with_reducible apply Step.extract); exact rfl; exact rfl; exact rfl) | ((with_reducible apply Step.pickF); exact rfl; exact rfl; exact rfl; exact rfl; (focus (first | rfl | (simp; done)))) | ((with_reducible apply Step.callR fit); exact rfl; exact Tryd.func43; exact rfl; exact rfl; exact (hF _)) | ((with_reducible apply Step.callR fit); exact rfl; exact Tryd.func44; exact rfl; exact rfl; exact (hR _)) | ((with_reducible apply Step.callT fit (k := 0)); exact rfl; exact rfl; exact Tryd.func45; exact rfl; exact rfl; exact (hB _); (focus (first | (simp only [List.nil_append, List.cons_append, List.set_cons_zero, List.set_cons_succ, iv_set, bv_set, iv_rep, bv_rep]; done) | (simp only [List.nil_append, List.cons_append, List.set_cons_zero, List.set_cons_succ, iv_set, bv_set, iv_rep, bv_rep]; rfl) | rfl))) | ((with_reducible apply Step.callR fit); exact rfl; exact Tryd.func21; exact rfl; exact rfl; exact (awake_ok)) | ((with_reducible apply Step.make1 1); exact rfl; exact rfl; exact rfl; exact el47; (focus (omega)); exact rfl; (focus (first | (simp only [List.nil_append, List.cons_append, List.set_cons_zero, List.set_cons_succ, iv_set, bv_set, iv_rep, bv_rep]; done) | (simp only [List.nil_append, List.cons_append, List.set_cons_zero, List.set_cons_succ, iv_set, bv_set, iv_rep, bv_rep]; rfl) | rfl)))) | (with_reducible refine AWo.nil ?_) | ((with_reducible apply AW.seq)) | ((with_reducible apply Then.n)) | ((with_reducible apply AW.regL)) | ((with_reducible apply AW.block)) | ((with_reducible apply AW.skip)) | ((with_reducible apply AW.condF); exact rfl; (focus (first | rfl | (simp; done))))))
    rw [fuL_zero (fun i => l.getD i 0) A w]
    refine AW.loopT (fun q t L => ∃ i : Nat, q = l.length - i ∧ i ≤ l.length ∧ L = [some { cells := iv out }, some { cells := iv (fuL (fun i => l.getD i 0) A w i) }] ∧
      t = [(0, .int .i64 n), (1, v), (5, .int .i64 (w : Nat)), (11, .slice (some ⟨m.length + 1, 0, none⟩) w w), (61, .slice (some ⟨m.length + 0, 0, none⟩) l.length l.length), (62, .int .i64 (l.length : Nat)), (63, .int .i64 (i : Nat))]) ⟨_, _, _, (Or.inl ⟨rfl, (by repeat (first | exact trivial | (refine And.intro rfl ?_)))⟩), 0, rfl, Nat.zero_le _, rfl, rfl⟩ ?_
    rintro q t L ⟨i, rfl, hi, rfl, rfl⟩
    rcases Nat.lt_or_ge i l.length with hil | hil
    · have hr := h3 i hil
      have hx := hat i hil
      have hbar := hP.bar i hil
      have hl1 := hP.load (A i)
      have hA := hA0 i hil
      have hmono := ld_mono (p := fun i => l.getD i 0) (f := A) (b := A i) (show i + 1 ≤ l.length by omega) (fun j hj => by have := hat j hj; omega)
      have hset := fuL_set (p := fun i => l.getD i 0) (A := A) (m := w) (i := i)
      have hsuc := ld_succ (fun i => l.getD i 0) A i (A i)
      have hget := fuL_get (p := fun i => l.getD i 0) (A := A) (i := i) hbar
      have hnn := ld_nn (p := fun i => l.getD i 0) (F := A) (k := i) (fun j hj => by have := hat j (by omega); omega) (A i)
      have lfu := fuL_len (fun i => l.getD i 0) A w i
      rw [if_pos rfl] at hsuc
      have r1 : Rd (m ++ [some { cells := iv out }, some { cells := iv (fuL (fun i => l.getD i 0) A w i) }]) (m.length + 0) i (.int .i64 (A i : Nat)) := by
        rw [← hA]; exact Rd.new rfl (iv_get (by omega))
      have r2 : Rd (m ++ [some { cells := iv out }, some { cells := iv (fuL (fun i => l.getD i 0) A w i) }]) (m.length + 1) (A i) (.int .i64 (ld (fun i => l.getD i 0) A i (A i))) := by
        rw [← hget]; exact Rd.new rfl (iv_get (by omega))
      have r3 : Rd (m ++ [some { cells := iv out }, some { cells := iv (fuL (fun i => l.getD i 0) A w (i + 1)) }]) (m.length + 1) (A i) (.int .i64 (ld (fun i => l.getD i 0) A (i + 1) (A i))) := by
        rw [← fuL_get (p := fun i => l.getD i 0) (A := A) (i := i + 1) hbar]; exact Rd.new rfl (iv_get (by rw [fuL_len]; omega))
      rw [← hset] at r3
      rw [hsuc] at hmono r3
      generalize ld (fun i => l.getD i 0) A i (A i) = y at *
      generalize ld (fun i => l.getD i 0) A l.length (A i) = z at *
      generalize fuL (fun i => l.getD i 0) A w i = Q at *
      clear hR hB hF hP hA0 hget
      (repeat (first | (with_reducible refine AWo.cons ?_) | ((with_reducible refine Step.id ?_); first | ((with_reducible apply Step.gdT); exact rfl; exact rfl; (focus (rfl))) | ((with_reducible apply Step.move); exact rfl; exact rfl) | ((with_reducible apply Step.assign); exact rfl; exact rfl) | ((with_reducible apply Step.load); exact rfl; (focus (decide +kernel)); exact rfl; (focus (first | assumption | exact Rd.old _ (by assumption)))) | ((with_reducible apply Step.ix1z); exact rfl; (focus (exact Sl.mk (by omega))); exact rfl; (focus (decide +kernel)); exact rfl; (focus (omega))) | ((with_reducible apply Step.ix1); exact rfl; (focus (assumption)); exact rfl; (focus (decide +kernel)); exact rfl; (focus (omega))) | ((with_reducible apply Step.add); exact rfl; exact rfl; (focus (omega)); exact rfl) | ((with_reducible apply Step.lss); exact rfl; exact rfl; exact rfl) | ((with_reducible apply Step.gtr); exact rfl; exact rfl; exact rfl) | ((with_reducible apply Step.geq); exact rfl; exact rfl; exact rfl) | ((with_reducible apply Step.pickF); exact rfl; exact rfl; exact rfl; exact rfl; (focus (rfl))) | ((with_reducible apply Step.store (k := 1)); exact rfl; exact rfl; exact rfl; exact rfl; (focus (decide +kernel)); exact rfl; exact rfl; (focus (first | omega | (simp [iv, bv]; done) | (simp [iv, bv]; omega))); (focus (first | (simp only [List.nil_append, List.cons_append, List.set_cons_zero, List.set_cons_succ, iv_set, bv_set, iv_rep, bv_rep]; done) | (simp only [List.nil_append, List.cons_append, List.set_cons_zero, List.set_cons_succ, iv_set, bv_set, iv_rep, bv_rep]; rfl) | rfl)))) | (with_reducible refine AWo.nil ?_) | ((with_reducible apply AW.seq)) | ((with_reducible apply Then.n)) | ((with_reducible apply AW.regL)) | ((with_reducible apply AW.block)) | ((with_reducible apply AW.drawL fit); (focus (decide +kernel))) | ((with_reducible apply InBlk.n)) | ((with_reducible apply AW.skip)) | ((with_reducible apply AW.condT); exact rfl; (focus ((simp only [decide_eq_true_eq, decide_eq_false_iff_not, Bool.not_eq_true', Bool.not_eq_false', Bool.not_true, Bool.not_false]; first | assumption | omega)))) | ((with_reducible apply AW.condF); exact rfl; (focus ((simp only [decide_eq_true_eq, decide_eq_false_iff_not, Bool.not_eq_true', Bool.not_eq_false', Bool.not_true, Bool.not_false]; first | assumption | omega))))))
      exact ⟨_, _, _, by omega, (Or.inl ⟨rfl, (by repeat (first | exact trivial | (refine And.intro rfl ?_)))⟩), i + 1, rfl, by omega, by rw [hset], rfl⟩
    · obtain rfl : i = l.length := by omega
      (repeat (first | (with_reducible refine AWo.cons ?_) | ((with_reducible refine Step.id ?_); first | ((with_reducible apply Step.assign); exact rfl; exact rfl) | ((with_reducible apply Step.lss); exact rfl; exact rfl; exact rfl)) | (with_reducible refine AWo.nil ?_) | ((with_reducible apply AW.seq)) | ((with_reducible apply Then.n)) | ((with_reducible apply AW.regL)) | ((with_reducible apply AW.exit)) | ((with_reducible apply InBlk.hit)) | ((with_reducible apply Then.e)) | ((with_reducible apply AW.condF); exact rfl; (focus ((simp only [decide_eq_true_eq, decide_eq_false_iff_not, Bool.not_eq_true', Bool.not_eq_false', Bool.not_true, Bool.not_false]; first | assumption | omega))))))
      (refine AW.retD (l := [(4, _)]) (by repeat (first | exact trivial | (refine And.intro ⟨rfl, by (exact .bool _)⟩ ?_))) ?_; (repeat (first | refine Then.r ?_ | refine InBlk.r ?_)))
      exact ⟨_, rfl, rfl, rfl⟩
end Go.Proofs.YtibhgdglbillaaaDoor.Abs
namespace Go.Proofs.YtibhgdglbillaaaDoor.Abs
set_option linter.unusedSimpArgs false
set_option linter.unusedVariables false
open Go.RowKit
open Go.Proofs.YtibhgdglbillaaaDoor.Sim
open Go.ChangeShapes Go.WideShapes Go.Deep
def RelSelf (v : Value) : Prop := ∃ c, v = .agg c ∧ ∀ R, Rel R (.agg c) (.agg c)
def Okarg3 (W : World) (a : AR) : Prop := Okarg W a ∨ RelSelf a.1
theorem top_call3 {P : Program} {f : FuncId} {W : World} (ars : List AR) (h : ∀ a ∈ ars, Okarg3 W a) (hc : ACall P f (mkVs 0 ars).toArray (ars.map mkB) (Ret (.bool true) (ars.map mkB))) :
    Calls P f (ars.map (·.1)).toArray W fun e w' => e = .returned (.bool true) ∧ Below W.heap.size W w' := by
  let R : Pl := fun i => (ars[i]?).bind mkP
  have hm : MRep W.heap.size R (ars.map mkB) W := by
    refine ⟨fun i hi => ?_, fun i b hi => ?_, fun i j b c p q hi hj hb _ _ _ _ => ?_⟩
    · simp only [List.length_map] at hi
      simp [R, List.getElem?_eq_none hi]
    · rw [List.getElem?_map] at hi
      cases ha : ars[i]? with
      | none => rw [ha] at hi; cases hi
      | some a =>
        rw [ha] at hi
        simp only [Option.map_some, Option.some.injEq] at hi
        obtain ⟨v, c⟩ := a
        rcases h _ (List.mem_of_getElem? ha) with (h1 | ⟨bb, o, n, cap, h1, h2, h3, h4, h5⟩) | ⟨l, h1, hl⟩
        · simp only at h1
          cases v with
          | slice x n cap => cases x with
            | none => simp [mkB] at hi
            | some x => simp [g0] at h1
          | _ => simp [mkB] at hi
        · simp only at h1
          subst h1
          simp only [mkB, Option.some.injEq] at hi
          subst hi
          refine ⟨⟨bb, o, cap - n⟩, by simp [R, ha, mkP], h3, ?_⟩
          refine ⟨fun e => by simp at e, fun j x hj => ⟨x, h4 j x hj, g0_rel (h5 x (List.mem_of_getElem? hj))⟩⟩
        · simp only at h1
          subst h1
          simp [mkB] at hi
    · rw [List.getElem?_map] at hi
      cases ha : ars[i]? with
      | none => rw [ha] at hi; cases hi
      | some a =>
        rw [ha] at hi
        simp only [Option.map_some, Option.some.injEq] at hi
        obtain ⟨v, c'⟩ := a
        cases v with
        | slice x n cap => cases x with
          | none => simp [mkB] at hi
          | some x => simp only [mkB, Option.some.injEq] at hi; subst hi; cases hb
        | _ => simp [mkB] at hi
  have hargs : Rels R (mkVs 0 ars).toArray (ars.map (·.1)).toArray := by
    refine ⟨by simp [mkVs_len], fun i hi => ?_⟩
    simp only [List.size_toArray, mkVs_len] at hi
    have ha : ars[i]? = some ars[i] := List.getElem?_eq_getElem hi
    have e1 : (mkVs 0 ars).toArray.getD i undef = mkV i ars[i].1 := by
      simp [mkVs_get, ha]
    have e2 : (ars.map (·.1)).toArray.getD i undef = ars[i].1 := by simp [hi]
    rw [e1, e2]
    generalize ars[i] = a at ha
    obtain ⟨v, c⟩ := a
    rcases h _ (List.mem_of_getElem? ha) with (h1 | ⟨bb, o, n, cap, h1, h2, h3, h4, h5⟩) | ⟨l, h1, hl⟩
    · simp only at h1 ⊢
      cases v with
      | slice x n cap => cases x with
        | none => exact g0_rel h1
        | some x => simp [g0] at h1
      | _ => exact g0_rel h1
    · simp only at h1 ⊢
      subst h1
      have := Rel.slice (R := R) i 0 n n ⟨bb, o, cap - n⟩ (by simp [R, ha, mkP]) (Nat.le_refl _)
      rw [show n + (cap - n) = cap by omega] at this
      simpa [mkV] using this
    · simp only at h1 ⊢
      subst h1
      exact hl R
  refine (hc W.heap.size R W _ (Nat.le_refl _) hm hargs).mono ?_
  rintro e w' ⟨v, v', R', m', rfl, k1, k2, rfl, rfl⟩
  cases k1
  exact ⟨rfl, k2.below hm (Nat.le_refl _)⟩
theorem RelSelf.rect (r : Rc) : RelSelf r.v := ⟨_, rfl, fun R => rel_aggI R [r.x, r.y, r.w, r.h]⟩
theorem RelSelf.kind (k : Kd) : RelSelf k.v := ⟨_, rfl, fun R => .agg _ _ rfl fun i hi => by
  simp at hi
  rcases (show i = 0 ∨ i = 1 ∨ i = 2 ∨ i = 3 ∨ i = 4 by omega) with rfl | rfl | rfl | rfl | rfl
  · exact .int _ _
  · exact .int _ _
  · exact .int _ _
  · exact .int _ _
  · exact .bool _⟩
def sv (l : List ByteArray) : List Value := l.map .string
section
variable {H : Type} {enc : TypeId × Value → H} {P : Program} {w : World} {base : Nat} {spare : Nat → Bool} {held : Bool}
def kv (l : List Kd) : List Value := l.flatMap Kd.cells
end
end Go.Proofs.YtibhgdglbillaaaDoor.Abs
namespace Go.Proofs.YtibhgdglbillaaaDoor.Abs
set_option linter.unusedSimpArgs false
set_option linter.unusedVariables false
open Go.RowKit
open Go.Proofs.YtibhgdglbillaaaDoor.Sim
open Go.Proofs
section
variable (leaf : R4 → Int) (w h : Nat) (t : List Int)
end
section
variable {leaf : R4 → Int} {w h : Nat} {t : List Int}
end
/-- The memory in which block q holds some cells. -/
def MC (m : AM) (q : Nat) (c : List Value) : AM := m.set q (some { cells := c })
section
variable {m : AM} {q : Nat} {c c' : List Value}
theorem MC.len : (MC m q c).length = m.length := by simp [MC]
theorem MC.at (hq : q < m.length) : (MC m q c)[q]? = some (some { cells := c }) := by unfold MC; exact List.getElem?_set_self hq
theorem MC.ne {a : Nat} (h : a ≠ q) : (MC m q c)[a]? = m[a]? := by unfold MC; exact List.getElem?_set_ne (fun e => h e.symm)
theorem MC.set (hq : q < m.length) (T : AM) : (MC m q c ++ T).set q (some { cells := c' }) = MC m q c' ++ T := by
  unfold MC
  rw [List.set_append_left _ _ (by simpa using hq), List.set_set]
theorem MC.rd {a o : Nat} {x : Value} (h : a ≠ q) (hr : Rd m a o x) : Rd (MC m q c) a o x := by
  obtain ⟨b, h1, h2⟩ := hr
  exact ⟨b, by rw [MC.ne h]; exact h1, h2⟩
theorem MC.ints {v : Value} {l : List Int} {m1 N : AM} (hm : m = m1 ++ N) (hq1 : m1.length ≤ q) (h : Ints m1 v l) : Ints (MC m q c) v l := by
  subst hm
  obtain ⟨N', hN'⟩ := set_high (N := N) hq1 (some { cells := c })
  unfold MC
  rw [hN']
  exact h.old _
/-- A turned block of flat cells: what may be let go behind it. -/
theorem MC.cut (hq : q < m.length) (hg : ∀ x ∈ c', g0 x = true) (T X : AM) (hX : ∀ b, some b ∈ X → isMapK b.kind = false ∧ ∀ x ∈ b.cells, g0 x = true) (n j : Nat) (b : Blk) (h : (MC m q c' ++ (T ++ X))[j]? = some (some b)) :
    (j < (MC m q c ++ T).length ∧ (MC m q c ++ T)[j]? = some (some b)) ∨ (isMapK b.kind = false ∧ ∀ x ∈ b.cells, Ren rid n x x) := by
  have e : (MC m q c').length = (MC m q c).length := by rw [MC.len, MC.len]
  rcases Nat.lt_or_ge j (MC m q c').length with hj | hj
  · rw [List.getElem?_append_left hj] at h
    by_cases ej : j = q
    · subst ej
      rw [MC.at hq] at h
      simp only [Option.some.injEq] at h
      subst h
      exact .inr ⟨rfl, fun x hx => Ren.of_g0 (hg x hx)⟩
    · rw [MC.ne ej] at h
      refine .inl ⟨by rw [List.length_append]; omega, ?_⟩
      rw [List.getElem?_append_left (by omega), MC.ne ej]
      exact h
  · rw [List.getElem?_append_right hj] at h
    rcases Nat.lt_or_ge (j - (MC m q c').length) T.length with hj2 | hj2
    · rw [List.getElem?_append_left hj2] at h
      refine .inl ⟨by rw [List.length_append]; omega, ?_⟩
      rw [List.getElem?_append_right (by omega), ← e]
      exact h
    · rw [List.getElem?_append_right hj2] at h
      obtain ⟨h1, h2⟩ := hX b (List.mem_of_getElem? h)
      exact .inr ⟨h1, fun x hx => Ren.of_g0 (h2 x hx)⟩
end
end Go.Proofs.YtibhgdglbillaaaDoor.Abs
namespace Go.Proofs.YtibhgdglbillaaaDoor.Abs
set_option linter.unusedSimpArgs false
set_option linter.unusedVariables false
open Go.RowKit
open Go.Proofs.YtibhgdglbillaaaDoor.Sim
open Go.Proofs
def I64s (t : List Int) : Prop := ∀ i, -9223372036854775808 ≤ t.getD i 0 ∧ t.getD i 0 ≤ 9223372036854775807
end Go.Proofs.YtibhgdglbillaaaDoor.Abs
namespace Go.Proofs.YtibhgdglbillaaaDoor.Abs
set_option linter.unusedSimpArgs false
set_option linter.unusedVariables false
open Go.RowKit
open Go.Proofs.YtibhgdglbillaaaDoor.Sim
open Go.ChangeShapes Go.WideShapes Go.Deep
section
variable {H : Type} {enc : TypeId × Value → H} {P : Program} {w : World} {base : Nat} {spare : Nat → Bool} {held : Bool}
theorem arg_ints64 {r : Reach} {b0 : Nat} {T e : TypeId} {a : Option Addr} {n c : Nat} {d : DataW H} {p : List MemPlace} (ht : P.underlying T = some (.slice e)) (he : P.underlying e = some (.int .i64)) (hce : P.cellsOf e = 1) (hok : Value.okWide P w r b0 T (.slice a n c)) (h : DataW.Trod enc P w base spare held T (.slice a n c) d p) :
    ∃ l : List Int, l.length = n ∧ n ≤ maxLen ∧ Okarg w (.slice a n c, iv l) ∧ (∀ M : AM, ∀ i, M[i]? = some (mkB (.slice a n c, iv l)) → Ints M (mkV i (.slice a n c)) l) ∧ I64s l := by
  obtain ⟨fuel, h⟩ := h
  rcases ok_slice ht hok with ⟨rfl, rfl, rfl⟩ | ⟨b, o, rfl, hle, hlt⟩
  · exact ⟨[], rfl, by unfold maxLen; omega, .inl rfl, fun M i hi => ⟨i, 0, .inl ⟨rfl, rfl⟩, (List.getElem?_eq_some_iff.1 hi).1, fun k hk => by simp at hk⟩, fun i => by simp⟩
  · rcases open_ints ht he hce h with ⟨hcs, _⟩ | ⟨x, l, c', zs, hcs, _, hl, hm, hz, _, hcell, hwf⟩
    · simp [Value.cells] at hcs
    · simp [Value.cells] at hcs
      obtain ⟨rfl, rfl, rfl⟩ := hcs
      have hzl : n ≤ zs.length := by rw [hz]; split <;> omega
      have hlen : (zs.take n).length = n := by simp; omega
      refine ⟨zs.take n, hlen, by omega, .inr ⟨b, o, n, c, rfl, hle, hlt, fun j x hj => ?_, g0_iv _⟩, fun M i hi => ?_, fun i => ?_⟩
      · simp only [iv, List.getElem?_map] at hj
        by_cases hjn : j < n
        · rw [List.getElem?_take, if_pos hjn, List.getElem?_eq_getElem (by omega)] at hj
          simp only [Option.map_some, Option.some.injEq] at hj
          have := hcell j (by omega)
          rw [Addr.add_lit] at this
          rw [this, ← hj]
          simp [show j < zs.length by omega]
        · rw [List.getElem?_take, if_neg hjn] at hj
          cases hj
      · simp only [mkB] at hi
        exact ints_at hi rfl n hlen.symm
      · by_cases hi : i < (zs.take n).length
        · rw [getD_in _ _ hi]
          have := hwf _ (List.mem_of_mem_take (List.getElem_mem hi))
          simp only [Lit.wf, Bool.and_eq_true, decide_eq_true_eq, IntKind.min, IntKind.max, IntKind.signed, IntKind.bits] at this
          simpa using this
        · rw [List.getD_eq_getElem?_getD, List.getElem?_eq_none (by omega)]
          simp
end
end Go.Proofs.YtibhgdglbillaaaDoor.Abs
