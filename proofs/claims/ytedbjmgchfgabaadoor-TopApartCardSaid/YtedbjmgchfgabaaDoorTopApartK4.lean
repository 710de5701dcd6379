/- Proved here: what the proof of TopApart rests on, part 4 of 4. Conditions: those that each theorem names. -/
import Derived.Test.YtedbjmgchfgabaaDoorTopApartK3
namespace Go.Proofs.YtedbjmgchfgabaaDoor.Abs
set_option linter.unusedSimpArgs false
set_option linter.unusedVariables false
open Go.RowKit
open Go.Proofs.YtedbjmgchfgabaaDoor.Sim
open Go.Proofs
def inG (B : Brd) (c : Cell) : Prop := 0 ≤ c.1 ∧ 0 ≤ c.2 ∧ c.1 < (bw B : Int) ∧ c.2 < (bh B : Int)
instance (B : Brd) (c : Cell) : Decidable (inG B c) := by unfold inG; infer_instance
def grz (B : Brd) (c : Cell) : Int := if inG B c then gr B c.1.toNat c.2.toNat else 0
theorem usB_eq (B : Brd) (c : Cell) : usB B c = decide (1 ≤ grz B c) := by
 unfold usB grz
 by_cases h : inG B c
 ·rw [if_pos h]
  exact decide_eq_decide.2 ⟨fun e => e.2.2.2.2, fun e => ⟨h.1, h.2.1, h.2.2.1, h.2.2.2, e⟩⟩
 ·rw [if_neg h]
  exact decide_eq_decide.2 ⟨fun e => absurd ⟨e.1, e.2.1, e.2.2.1, e.2.2.2.1⟩ h, fun e => by omega⟩
set_option maxRecDepth 100000 in
theorem grade_no {m : AM} {sv : Value} {B : Brd} (hs : Strs m sv B) (hv : skinB B = true) {x y : Int} (h : ¬ inG B (x, y)) :
  ACall Tryd.prog 40 #[sv, .int .i64 x, .int .i64 y] m (Ret (.int .i64 0) m) := by
 obtain ⟨A, O, sl, la, rd⟩ := hs
 refine ACall.start Tryd.func40 rfl rfl ?_
 unfold inG bh at h
 simp only at h
 by_cases c1 : y < 0
 ·(repeat (first|(with_reducible refine AWo.cons ?_)|((with_reducible refine Step.id ?_);first|((with_reducible apply Step.gdF);exact rfl;exact rfl;((first|rfl|(simp only [zq1, zq2, zq3, zq4, zq5, zq6];first|assumption|omega))))|((with_reducible apply Step.move);exact rfl;exact rfl)|((with_reducible apply Step.assign);exact rfl;exact rfl)|((with_reducible apply Step.lss);exact rfl;exact rfl;exact rfl)|((with_reducible apply Step.pickT);exact rfl;exact rfl;exact rfl;exact rfl;((first|rfl|(simp only [zq1, zq2, zq3, zq4, zq5, zq6];first|assumption|omega)))))|(with_reducible first|apply AWo.nil|apply AW.seq|apply Then.n|apply AW.regL)|((with_reducible apply AW.condT);exact rfl;((rfl)))))
  (refine AW.retD (l := [(6, _)]) (by repeat (first | exact trivial | (refine And.intro ⟨rfl, by (exact .int _ _)⟩ ?_))) ?_; (repeat (first | refine Then.r ?_ | refine InBlk.r ?_)))
  exact ⟨_, rfl, rfl, rfl⟩
 ·obtain ⟨y', rfl⟩ := Int.eq_ofNat_of_zero_le (show 0 ≤ y by omega)
  by_cases c2 : y' < B.length
  ·have rk := rd y' c2
   obtain ⟨z1, _⟩ := skin_row hv c2
   by_cases c3 : x < 0
   ·(repeat (first|(with_reducible refine AWo.cons ?_)|((with_reducible refine Step.id ?_);first|((with_reducible apply Step.gdT);exact rfl;exact rfl;((first|rfl|(simp only [zq1, zq2, zq3, zq4, zq5, zq6];first|assumption|omega))))|((with_reducible apply Step.gdF);exact rfl;exact rfl;(((simp only [zq1, zq2, zq3, zq4, zq5, zq6];first|assumption|omega))))|((with_reducible apply Step.move);exact rfl;exact rfl)|((with_reducible apply Step.assign);exact rfl;exact rfl)|((with_reducible apply Step.lss);exact rfl;exact rfl;exact rfl)|((with_reducible apply Step.geq);exact rfl;exact rfl;exact rfl)|((with_reducible apply Step.len);exact rfl;((assumption));((decide +kernel));exact rfl)|((with_reducible apply Step.pickT);exact rfl;exact rfl;exact rfl;exact rfl;(((simp only [zq1, zq2, zq3, zq4, zq5, zq6];first|assumption|omega))))|((with_reducible apply Step.pickF);exact rfl;exact rfl;exact rfl;exact rfl;((first|rfl|(simp only [zq1, zq2, zq3, zq4, zq5, zq6];first|assumption|omega)))))|(with_reducible first|apply AWo.nil|apply AW.seq|apply Then.n|apply AW.regL)|((with_reducible apply AW.condT);exact rfl;((rfl)))))
    (refine AW.retD (l := [(6, _)]) (by repeat (first | exact trivial | (refine And.intro ⟨rfl, by (exact .int _ _)⟩ ?_))) ?_; (repeat (first | refine Then.r ?_ | refine InBlk.r ?_)))
    exact ⟨_, rfl, rfl, rfl⟩
   ·(repeat (first|(with_reducible refine AWo.cons ?_)|((with_reducible refine Step.id ?_);first|((with_reducible apply Step.gdT);exact rfl;exact rfl;((first|rfl|(simp only [zq1, zq2, zq3, zq4, zq5, zq6];first|assumption|omega))))|((with_reducible apply Step.move);exact rfl;exact rfl)|((with_reducible apply Step.assign);exact rfl;exact rfl)|((with_reducible apply Step.load);exact rfl;((decide +kernel));exact rfl;((exact Rd.old _ (by assumption))))|((with_reducible apply Step.ix1);exact rfl;((assumption));exact rfl;((decide +kernel));exact rfl;((omega)))|((with_reducible apply Step.lenS);exact rfl;exact un9;exact rfl)|((with_reducible apply Step.lss);exact rfl;exact rfl;exact rfl)|((with_reducible apply Step.geq);exact rfl;exact rfl;exact rfl)|((with_reducible apply Step.len);exact rfl;((assumption));((decide +kernel));exact rfl)|((with_reducible apply Step.pickF);exact rfl;exact rfl;exact rfl;exact rfl;((first|rfl|(simp only [zq1, zq2, zq3, zq4, zq5, zq6];first|assumption|omega)))))|(with_reducible first|apply AWo.nil|apply AW.seq|apply Then.n|apply AW.regL)|((with_reducible apply AW.condT);exact rfl;(((simp only [zq1, zq2, zq3, zq4, zq5, zq6];first|assumption|omega))))))
    (refine AW.retD (l := [(6, _)]) (by repeat (first | exact trivial | (refine And.intro ⟨rfl, by (exact .int _ _)⟩ ?_))) ?_; (repeat (first | refine Then.r ?_ | refine InBlk.r ?_)))
    exact ⟨_, rfl, rfl, rfl⟩
  ·(repeat (first|(with_reducible refine AWo.cons ?_)|((with_reducible refine Step.id ?_);first|((with_reducible apply Step.gdT);exact rfl;exact rfl;((rfl)))|((with_reducible apply Step.gdF);exact rfl;exact rfl;((first|rfl|(simp only [zq1, zq2, zq3, zq4, zq5, zq6];first|assumption|omega))))|((with_reducible apply Step.move);exact rfl;exact rfl)|((with_reducible apply Step.assign);exact rfl;exact rfl)|((with_reducible apply Step.lss);exact rfl;exact rfl;exact rfl)|((with_reducible apply Step.geq);exact rfl;exact rfl;exact rfl)|((with_reducible apply Step.len);exact rfl;((assumption));((decide +kernel));exact rfl)|((with_reducible apply Step.pickT);exact rfl;exact rfl;exact rfl;exact rfl;((first|rfl|(simp only [zq1, zq2, zq3, zq4, zq5, zq6];first|assumption|omega))))|((with_reducible apply Step.pickF);exact rfl;exact rfl;exact rfl;exact rfl;((rfl))))|(with_reducible first|apply AWo.nil|apply AW.seq|apply Then.n|apply AW.regL)|((with_reducible apply AW.condT);exact rfl;((rfl)))))
   (refine AW.retD (l := [(6, _)]) (by repeat (first | exact trivial | (refine And.intro ⟨rfl, by (exact .int _ _)⟩ ?_))) ?_; (repeat (first | refine Then.r ?_ | refine InBlk.r ?_)))
   exact ⟨_, rfl, rfl, rfl⟩
theorem grade_any {m : AM} {sv : Value} {B : Brd} (hs : Strs m sv B) (hv : skinB B = true) (x y : Int) :
  ACall Tryd.prog 40 #[sv, .int .i64 x, .int .i64 y] m (Ret (.int .i64 (grz B (x, y))) m) := by
 unfold grz
 by_cases h : inG B (x, y)
 ·rw [if_pos h]
  obtain ⟨h1, h2, h3, h4⟩ := h
  simp only at h1 h2 h3 h4
  obtain ⟨x', rfl⟩ := Int.eq_ofNat_of_zero_le h1
  obtain ⟨y', rfl⟩ := Int.eq_ofNat_of_zero_le h2
  exact grade_ok hs hv (by omega) (by omega)
 ·rw [if_neg h]
  exact grade_no hs hv h
set_option maxRecDepth 100000 in
theorem RGrade_no {m : AM} {sv : Value} {B : Brd} (hs : Strs m sv B) (hv : skinB B = true) {x y : Int} (h : ¬ inG B (x, y)) :
  ACall Tryd.prog 15 #[sv, .int .i64 x, .int .i64 y] m (Ret (.int .i64 0) m) := by
 obtain ⟨A, O, sl, la, rd⟩ := hs
 have h0 : 0 < B.length := by
  have : 1 ≤ B.length := by simp only [skinB, Bool.and_eq_true, decide_eq_true_eq] at hv; exact hv.1.1
  omega
 have r0 := rd 0 h0
 have z4 : (rowOf B 0).size = bw B := rfl
 refine ACall.start Tryd.func15 rfl rfl ?_
 unfold inG bh at h
 simp only at h
 by_cases c1 : y < 0
 ·(repeat (first|(with_reducible refine AWo.cons ?_)|((with_reducible refine Step.id ?_);first|((with_reducible apply Step.gdF);exact rfl;exact rfl;((first|rfl|(simp only [zq1, zq2, zq3, zq4, zq5, zq6];first|assumption|omega))))|((with_reducible apply Step.move);exact rfl;exact rfl)|((with_reducible apply Step.assign);exact rfl;exact rfl)|((with_reducible apply Step.lss);exact rfl;exact rfl;exact rfl)|((with_reducible apply Step.pickT);exact rfl;exact rfl;exact rfl;exact rfl;((first|rfl|(simp only [zq1, zq2, zq3, zq4, zq5, zq6];first|assumption|omega)))))|(with_reducible first|apply AWo.nil|apply AW.seq|apply Then.n|apply AW.regL)|((with_reducible apply AW.condT);exact rfl;((rfl)))))
  (refine AW.retD (l := [(6, _)]) (by repeat (first | exact trivial | (refine And.intro ⟨rfl, by (exact .int _ _)⟩ ?_))) ?_; (repeat (first | refine Then.r ?_ | refine InBlk.r ?_)))
  exact ⟨_, rfl, rfl, rfl⟩
 ·obtain ⟨y', rfl⟩ := Int.eq_ofNat_of_zero_le (show 0 ≤ y by omega)
  by_cases c2 : y' < B.length
  ·by_cases c3 : x < 0
   ·(repeat (first|(with_reducible refine AWo.cons ?_)|((with_reducible refine Step.id ?_);first|((with_reducible apply Step.gdT);exact rfl;exact rfl;((first|rfl|(simp only [zq1, zq2, zq3, zq4, zq5, zq6];first|assumption|omega))))|((with_reducible apply Step.gdF);exact rfl;exact rfl;(((simp only [zq1, zq2, zq3, zq4, zq5, zq6];first|assumption|omega))))|((with_reducible apply Step.move);exact rfl;exact rfl)|((with_reducible apply Step.assign);exact rfl;exact rfl)|((with_reducible apply Step.lss);exact rfl;exact rfl;exact rfl)|((with_reducible apply Step.geq);exact rfl;exact rfl;exact rfl)|((with_reducible apply Step.len);exact rfl;((assumption));((decide +kernel));exact rfl)|((with_reducible apply Step.pickT);exact rfl;exact rfl;exact rfl;exact rfl;(((simp only [zq1, zq2, zq3, zq4, zq5, zq6];first|assumption|omega))))|((with_reducible apply Step.pickF);exact rfl;exact rfl;exact rfl;exact rfl;((first|rfl|(simp only [zq1, zq2, zq3, zq4, zq5, zq6];first|assumption|omega)))))|(with_reducible first|apply AWo.nil|apply AW.seq|apply Then.n|apply AW.regL)|((with_reducible apply AW.condT);exact rfl;((rfl)))))
    (refine AW.retD (l := [(6, _)]) (by repeat (first | exact trivial | (refine And.intro ⟨rfl, by (exact .int _ _)⟩ ?_))) ?_; (repeat (first | refine Then.r ?_ | refine InBlk.r ?_)))
    exact ⟨_, rfl, rfl, rfl⟩
   ·(repeat (first|(with_reducible refine AWo.cons ?_)|((with_reducible refine Step.id ?_);first|((with_reducible apply Step.gdT);exact rfl;exact rfl;((first|rfl|(simp only [zq1, zq2, zq3, zq4, zq5, zq6];first|assumption|omega))))|((with_reducible apply Step.move);exact rfl;exact rfl)|((with_reducible apply Step.assign);exact rfl;exact rfl)|((with_reducible apply Step.load);exact rfl;((decide +kernel));exact rfl;((exact Rd.old _ (by assumption))))|((with_reducible apply Step.ix1);exact rfl;((assumption));exact rfl;((decide +kernel));exact rfl;((omega)))|((with_reducible apply Step.lenS);exact rfl;exact un9;exact rfl)|((with_reducible apply Step.lss);exact rfl;exact rfl;exact rfl)|((with_reducible apply Step.geq);exact rfl;exact rfl;exact rfl)|((with_reducible apply Step.len);exact rfl;((assumption));((decide +kernel));exact rfl)|((with_reducible apply Step.pickF);exact rfl;exact rfl;exact rfl;exact rfl;((first|rfl|(simp only [zq1, zq2, zq3, zq4, zq5, zq6];first|assumption|omega)))))|(with_reducible first|apply AWo.nil|apply AW.seq|apply Then.n|apply AW.regL)|((with_reducible apply AW.condT);exact rfl;(((simp only [zq1, zq2, zq3, zq4, zq5, zq6];first|assumption|omega))))))
    (refine AW.retD (l := [(6, _)]) (by repeat (first | exact trivial | (refine And.intro ⟨rfl, by (exact .int _ _)⟩ ?_))) ?_; (repeat (first | refine Then.r ?_ | refine InBlk.r ?_)))
    exact ⟨_, rfl, rfl, rfl⟩
  ·(repeat (first|(with_reducible refine AWo.cons ?_)|((with_reducible refine Step.id ?_);first|((with_reducible apply Step.gdT);exact rfl;exact rfl;((rfl)))|((with_reducible apply Step.gdF);exact rfl;exact rfl;((first|rfl|(simp only [zq1, zq2, zq3, zq4, zq5, zq6];first|assumption|omega))))|((with_reducible apply Step.move);exact rfl;exact rfl)|((with_reducible apply Step.assign);exact rfl;exact rfl)|((with_reducible apply Step.lss);exact rfl;exact rfl;exact rfl)|((with_reducible apply Step.geq);exact rfl;exact rfl;exact rfl)|((with_reducible apply Step.len);exact rfl;((assumption));((decide +kernel));exact rfl)|((with_reducible apply Step.pickT);exact rfl;exact rfl;exact rfl;exact rfl;((first|rfl|(simp only [zq1, zq2, zq3, zq4, zq5, zq6];first|assumption|omega))))|((with_reducible apply Step.pickF);exact rfl;exact rfl;exact rfl;exact rfl;((rfl))))|(with_reducible first|apply AWo.nil|apply AW.seq|apply Then.n|apply AW.regL)|((with_reducible apply AW.condT);exact rfl;((rfl)))))
   (refine AW.retD (l := [(6, _)]) (by repeat (first | exact trivial | (refine And.intro ⟨rfl, by (exact .int _ _)⟩ ?_))) ?_; (repeat (first | refine Then.r ?_ | refine InBlk.r ?_)))
   exact ⟨_, rfl, rfl, rfl⟩
theorem RGrade_any {m : AM} {sv : Value} {B : Brd} (hs : Strs m sv B) (hv : skinB B = true) (x y : Int) :
  ACall Tryd.prog 15 #[sv, .int .i64 x, .int .i64 y] m (Ret (.int .i64 (grz B (x, y))) m) := by
 unfold grz
 by_cases h : inG B (x, y)
 ·rw [if_pos h]
  obtain ⟨h1, h2, h3, h4⟩ := h
  simp only at h1 h2 h3 h4
  obtain ⟨x', rfl⟩ := Int.eq_ofNat_of_zero_le h1
  obtain ⟨y', rfl⟩ := Int.eq_ofNat_of_zero_le h2
  exact RGrade_ok hs hv (by omega) (by omega)
 ·rw [if_neg h]
  exact RGrade_no hs hv h
set_option maxRecDepth 100000 in
theorem Usable_ok {m : AM} {sv : Value} {B : Brd} {b1 b2 : Nat} (hs : Strs m sv B) (hv : skinB B = true) (h1 : m[b1]? = some (some { cells := [sv] })) (h2 : m[b2]? = some (some { cells := [.int .i64 1] })) (x y : Int) :
  ACall Tryd.prog 39 #[.agg #[.int .i64 x, .int .i64 y], .pointer (some ⟨b1, 0, none⟩), .pointer (some ⟨b2, 0, none⟩)] m (Ret (.bool (usB B (x, y))) m) := by
 rw [usB_eq]
 have r1 : ∀ T, Rd (m ++ T) b1 0 sv := fun T => Rd.old T ⟨_, h1, rfl⟩
 have r2 : ∀ T, Rd (m ++ T) b2 0 (.int .i64 1) := fun T => Rd.old T ⟨_, h2, rfl⟩
 have hg := fun T => grade_any (hs.old T) hv x y
 refine ACall.drop (.bool _) ?_
 refine ACall.start Tryd.func39 rfl rfl ?_
 (repeat' (first|(with_reducible refine AWo.cons ?_)|((with_reducible refine Step.id ?_);first|((with_reducible apply Step.assign);exact rfl;exact rfl)|((with_reducible apply Step.load);exact rfl;((decide +kernel));exact rfl;((first|exact r1 _|exact r2 _|exact Rd.new rfl rfl)))|((with_reducible apply Step.field0);exact rfl;((decide +kernel));exact rfl)|((with_reducible apply Step.field (k := 1));exact rfl;((decide +kernel));exact rfl)|((with_reducible apply Step.geq);exact rfl;exact rfl;exact rfl)|((with_reducible apply Step.callR fit);exact rfl;exact Tryd.func40;exact rfl;exact rfl;exact (hg _))|((with_reducible apply Step.box 0);exact rfl;exact rfl;((kernel_rfl));exact rfl;((first|(simp only [zq7, zq8, zq9, zq0, iv_set, bv_set, iv_rep, bv_rep] <;> rfl)|rfl))))|(with_reducible first|apply AWo.nil|apply AW.seq|apply Then.n|apply AW.regL)|((with_reducible apply AW.drawT fit (T := (.step 0 (.step 1 (.step 2 (.step 3 (.step 4 (.both (.step 5 (.step 6 (.step 7 (.step 8 .done)))) (.step 6 (.step 5 (.step 7 (.step 8 .done))))))))))));((decide +kernel)))|((with_reducible apply AWt.step);exact rfl)|(with_reducible apply AWt.done)|refine AWt.both ?_ ?_))
 all_goals
  (refine AW.ret ?_; (repeat (first | refine Then.r ?_ | refine InBlk.r ?_)))
  exact ⟨_, rfl, rfl, _, rfl⟩
def freeB (E : Ents) (a b c d : Int) (z : Cell) : Bool := !valE E z && (decide (a - 1 ≤ z.1) && (decide (z.1 ≤ c + 1) && (decide (b - 1 ≤ z.2) && decide (z.2 ≤ d + 1))))
set_option maxHeartbeats 8000000 in
set_option maxRecDepth 100000 in
theorem Free_ok {m : AM} {mb qb q : Nat} {E : Ents} {a b c d x y : Int} (h1 : m[mb]? = some (some { cells := [.map (some q)] })) (hq : m[q]? = some (some (mapB E))) (h2 : m[qb]? = some (some { cells := [.int .i64 a, .int .i64 b, .int .i64 c, .int .i64 d] }))
  (hb : -1000 ≤ a ∧ a ≤ 1000 ∧ -1000 ≤ b ∧ b ≤ 1000 ∧ -1000 ≤ c ∧ c ≤ 1000 ∧ -1000 ≤ d ∧ d ≤ 1000) :
  ACall Tryd.prog 70 #[.agg #[.int .i64 x, .int .i64 y], .pointer (some ⟨mb, 0, none⟩), .pointer (some ⟨qb, 0, none⟩)] m (Ret (.bool (freeB E a b c d (x, y))) m) := by
 obtain ⟨a1, a2, b1, b2, c1, c2, d1, d2⟩ := hb
 have r1 : ∀ T, Rd (m ++ T) mb 0 (.map (some q)) := fun T => Rd.old T ⟨_, h1, rfl⟩
 have r2 : ∀ T, Rd (m ++ T) qb (0 + 0) (.int .i64 a) ∧ Rd (m ++ T) qb (0 + 1) (.int .i64 b) ∧ Rd (m ++ T) qb (0 + 2) (.int .i64 c) ∧ Rd (m ++ T) qb (0 + 3) (.int .i64 d) := fun T => ⟨Rd.old T ⟨_, h2, rfl⟩, Rd.old T ⟨_, h2, rfl⟩, Rd.old T ⟨_, h2, rfl⟩, Rd.old T ⟨_, h2, rfl⟩⟩
 unfold freeB
 refine ACall.drop (.bool _) ?_
 refine ACall.start Tryd.func70 rfl rfl ?_
 (repeat (first|(with_reducible refine AWo.cons ?_)|((with_reducible refine Step.id ?_);first|((with_reducible apply Step.assign);exact rfl;exact rfl)|((with_reducible apply Step.load);exact rfl;((decide +kernel));exact rfl;((exact r1 _)))|((with_reducible apply Step.loadL (n := 2));exact rfl;((decide +kernel));((decide +kernel));exact rfl;((exact RdL.new rfl rfl));exact rfl;exact rfl)|((with_reducible apply Step.box 0);exact rfl;exact rfl;((kernel_rfl));exact rfl;((first|(simp only [zq7, zq8, zq9, zq0, iv_set, bv_set, iv_rep, bv_rep] <;> rfl)|rfl))))|(with_reducible first|apply AWo.nil|apply AW.seq|apply Then.n|apply AW.regL)))
 ((with_reducible apply Step.mapLook (k := (x, y)));exact rfl;exact rfl;exact (get_old _ hq);exact rfl)
 cases hv : valE E (x, y) with
 | true =>
  (repeat (first|(with_reducible refine AWo.cons ?_)|((with_reducible refine Step.id ?_);first|((with_reducible apply Step.gdF);exact rfl;exact rfl;((rfl)))|((with_reducible apply Step.move);exact rfl;exact rfl)|((with_reducible apply Step.assign);exact rfl;exact rfl)|((with_reducible apply Step.not);exact rfl;exact rfl)|((with_reducible apply Step.pickF);exact rfl;exact rfl;exact rfl;exact rfl;((rfl))))|(with_reducible first|apply AWo.nil|apply Then.n)))
  (refine AW.ret ?_; (repeat (first | refine Then.r ?_ | refine InBlk.r ?_)))
  exact ⟨_, rfl, rfl, _, rfl⟩
 | false =>
  by_cases e1 : a - 1 ≤ x
  ·by_cases e2 : x ≤ c + 1
   ·by_cases e3 : b - 1 ≤ y
    ·(repeat (first|(with_reducible refine AWo.cons ?_)|((with_reducible refine Step.id ?_);first|((with_reducible apply Step.gdT);exact rfl;exact rfl;((first|rfl|(simp only [zq1, zq2, zq3, zq4, zq5, zq6];first|assumption|omega))))|((with_reducible apply Step.move);exact rfl;exact rfl)|((with_reducible apply Step.assign);exact rfl;exact rfl)|((with_reducible apply Step.load);exact rfl;((decide +kernel));exact rfl;((first|exact (r2 _).1|exact (r2 _).2.1|exact (r2 _).2.2.1|exact (r2 _).2.2.2|exact Rd.new rfl rfl)))|((with_reducible apply Step.field0);exact rfl;((decide +kernel));exact rfl)|((with_reducible apply Step.field (k := 1));exact rfl;((decide +kernel));exact rfl)|((with_reducible apply Step.field (k := 2));exact rfl;((decide +kernel));exact rfl)|((with_reducible apply Step.field (k := 3));exact rfl;((decide +kernel));exact rfl)|((with_reducible apply Step.add);exact rfl;exact rfl;((omega));exact rfl)|((with_reducible apply Step.sub);exact rfl;exact rfl;((omega));exact rfl)|((with_reducible apply Step.leq);exact rfl;exact rfl;exact rfl)|((with_reducible apply Step.geq);exact rfl;exact rfl;exact rfl)|((with_reducible apply Step.not);exact rfl;exact rfl)|((with_reducible apply Step.pickT);exact rfl;exact rfl;exact rfl;exact rfl;((first|rfl|(simp only [zq1, zq2, zq3, zq4, zq5, zq6];first|assumption|omega)))))|(with_reducible first|apply AWo.nil|apply Then.n)))
     (refine AW.ret ?_; (repeat (first | refine Then.r ?_ | refine InBlk.r ?_)))
     exact ⟨_, rfl, by simp [e1, e2, e3], _, rfl⟩
    ·(repeat (first|(with_reducible refine AWo.cons ?_)|((with_reducible refine Step.id ?_);first|((with_reducible apply Step.gdT);exact rfl;exact rfl;((first|rfl|(simp only [zq1, zq2, zq3, zq4, zq5, zq6];first|assumption|omega))))|((with_reducible apply Step.gdF);exact rfl;exact rfl;(((simp only [zq1, zq2, zq3, zq4, zq5, zq6];first|assumption|omega))))|((with_reducible apply Step.move);exact rfl;exact rfl)|((with_reducible apply Step.assign);exact rfl;exact rfl)|((with_reducible apply Step.load);exact rfl;((decide +kernel));exact rfl;((first|exact (r2 _).1|exact (r2 _).2.1|exact (r2 _).2.2.1|exact Rd.new rfl rfl)))|((with_reducible apply Step.field0);exact rfl;((decide +kernel));exact rfl)|((with_reducible apply Step.field (k := 1));exact rfl;((decide +kernel));exact rfl)|((with_reducible apply Step.field (k := 2));exact rfl;((decide +kernel));exact rfl)|((with_reducible apply Step.add);exact rfl;exact rfl;((omega));exact rfl)|((with_reducible apply Step.sub);exact rfl;exact rfl;((omega));exact rfl)|((with_reducible apply Step.leq);exact rfl;exact rfl;exact rfl)|((with_reducible apply Step.geq);exact rfl;exact rfl;exact rfl)|((with_reducible apply Step.not);exact rfl;exact rfl)|((with_reducible apply Step.pickT);exact rfl;exact rfl;exact rfl;exact rfl;((first|rfl|(simp only [zq1, zq2, zq3, zq4, zq5, zq6];first|assumption|omega))))|((with_reducible apply Step.pickF);exact rfl;exact rfl;exact rfl;exact rfl;(((simp only [zq1, zq2, zq3, zq4, zq5, zq6];first|assumption|omega)))))|(with_reducible first|apply AWo.nil|apply Then.n)))
     (refine AW.ret ?_; (repeat (first | refine Then.r ?_ | refine InBlk.r ?_)))
     exact ⟨_, rfl, by simp [e1, e2, e3], _, rfl⟩
   ·(repeat (first|(with_reducible refine AWo.cons ?_)|((with_reducible refine Step.id ?_);first|((with_reducible apply Step.gdT);exact rfl;exact rfl;((first|rfl|(simp only [zq1, zq2, zq3, zq4, zq5, zq6];first|assumption|omega))))|((with_reducible apply Step.gdF);exact rfl;exact rfl;((first|rfl|(simp only [zq1, zq2, zq3, zq4, zq5, zq6];first|assumption|omega))))|((with_reducible apply Step.move);exact rfl;exact rfl)|((with_reducible apply Step.assign);exact rfl;exact rfl)|((with_reducible apply Step.load);exact rfl;((decide +kernel));exact rfl;((first|exact (r2 _).1|exact (r2 _).2.2.1|exact Rd.new rfl rfl)))|((with_reducible apply Step.field0);exact rfl;((decide +kernel));exact rfl)|((with_reducible apply Step.field (k := 2));exact rfl;((decide +kernel));exact rfl)|((with_reducible apply Step.add);exact rfl;exact rfl;((omega));exact rfl)|((with_reducible apply Step.sub);exact rfl;exact rfl;((omega));exact rfl)|((with_reducible apply Step.leq);exact rfl;exact rfl;exact rfl)|((with_reducible apply Step.geq);exact rfl;exact rfl;exact rfl)|((with_reducible apply Step.not);exact rfl;exact rfl)|((with_reducible apply Step.pickT);exact rfl;exact rfl;exact rfl;exact rfl;((first|rfl|(simp only [zq1, zq2, zq3, zq4, zq5, zq6];first|assumption|omega))))|((with_reducible apply Step.pickF);exact rfl;exact rfl;exact rfl;exact rfl;((first|rfl|(simp only [zq1, zq2, zq3, zq4, zq5, zq6];first|assumption|omega)))))|(with_reducible first|apply AWo.nil|apply Then.n)))
    (refine AW.ret ?_; (repeat (first | refine Then.r ?_ | refine InBlk.r ?_)))
    exact ⟨_, rfl, by simp [e1, e2], _, rfl⟩
  ·(repeat (first|(with_reducible refine AWo.cons ?_)|((with_reducible refine Step.id ?_);first|((with_reducible apply Step.gdT);exact rfl;exact rfl;((rfl)))|((with_reducible apply Step.gdF);exact rfl;exact rfl;((first|rfl|(simp only [zq1, zq2, zq3, zq4, zq5, zq6];first|assumption|omega))))|((with_reducible apply Step.move);exact rfl;exact rfl)|((with_reducible apply Step.assign);exact rfl;exact rfl)|((with_reducible apply Step.load);exact rfl;((decide +kernel));exact rfl;((first|exact (r2 _).1|exact Rd.new rfl rfl)))|((with_reducible apply Step.field0);exact rfl;((decide +kernel));exact rfl)|((with_reducible apply Step.sub);exact rfl;exact rfl;((omega));exact rfl)|((with_reducible apply Step.geq);exact rfl;exact rfl;exact rfl)|((with_reducible apply Step.not);exact rfl;exact rfl)|((with_reducible apply Step.pickT);exact rfl;exact rfl;exact rfl;exact rfl;((rfl)))|((with_reducible apply Step.pickF);exact rfl;exact rfl;exact rfl;exact rfl;((first|rfl|(simp only [zq1, zq2, zq3, zq4, zq5, zq6];first|assumption|omega)))))|(with_reducible first|apply AWo.nil|apply Then.n)))
   (refine AW.ret ?_; (repeat (first | refine Then.r ?_ | refine InBlk.r ?_)))
   exact ⟨_, rfl, by simp [e1], _, rfl⟩
theorem idxE_eq (E : Ents) (d : Cell) : idxE E d = (E.map Prod.fst).findIdx? (fun e => d == e) := by
 unfold idxE
 rw [List.findIdx?_map]
 rfl
theorem valE_set (E : Ents) (k d : Cell) : valE (setE E k true) d = true ↔ d = k ∨ valE E d = true := by
 unfold setE
 cases h : idxE E k with
 | some j =>
  obtain ⟨b, hb⟩ := idxE_some h
  have hjl := (List.getElem?_eq_some_iff.1 hb).1
  simp only
  have hi : idxE (E.set j (k, true)) d = idxE E d := by rw [idxE_eq, idxE_eq, mem_set_fst hb]
  unfold valE
  rw [hi]
  cases hd : idxE E d with
  | none =>
   simp only [Bool.false_eq_true, or_false, false_iff]
   rintro rfl
   rw [h] at hd; cases hd
  | some j' =>
   obtain ⟨b', hb'⟩ := idxE_some hd
   simp only
   by_cases e : j = j'
   ·subst e
    rw [hb] at hb'
    injection hb' with hb'
    injection hb' with e1 e2
    simp [hjl, e1]
   ·rw [List.getElem?_set_ne e]
    refine ⟨.inr, fun q => q.elim (fun q => ?_) id⟩
    subst q
    rw [h] at hd; injection hd with hd
    exact absurd hd e
 | none =>
  simp only
  have hi : idxE (E ++ [(k, true)]) d = (idxE E d).or (if d = k then some E.length else none) := by
   unfold idxE
   rw [List.findIdx?_append]
   congr 1
   by_cases e : d = k
   ·subst e; simp [List.findIdx?_cons]
   ·simp [List.findIdx?_cons, e]
  unfold valE
  rw [hi]
  cases hd : idxE E d with
  | none =>
   by_cases e : d = k
   ·simp [e]
   ·simp [e]
  | some j' =>
   obtain ⟨b', hb'⟩ := idxE_some hd
   have hl := (List.getElem?_eq_some_iff.1 hb').1
   have ho : (some j').or (if d = k then some E.length else none) = some j' := rfl
   rw [ho]
   simp only
   rw [List.getElem?_append_left hl]
   refine ⟨.inr, fun q => q.elim (fun q => ?_) id⟩
   subst q
   rw [h] at hd; cases hd
theorem nd_le : ∀ (l u : List Cell), l.Nodup → (∀ d ∈ l, d ∈ u) → l.length ≤ u.length
 | [], _, _, _ => Nat.zero_le _
 | c :: l, u, h, hu => by
  have hc := hu c (.head _)
  have ih := nd_le l (u.erase c) (List.nodup_cons.1 h).2 fun d hd => (List.mem_erase_of_ne (fun e => (List.nodup_cons.1 h).1 (by rw [← e]; exact hd))).2 (hu d (.tail _ hd))
  rw [List.length_erase_of_mem hc] at ih
  have := List.length_pos_of_mem hc
  simp only [List.length_cons]
  omega
structure Fld (m : AM) (q : Nat) (E : Ents) (fst : Cell) (isF : Cell → Bool) (nx : Cell → List Cell) (M : AM) (r : Value) (l : List Cell) (E' : Ents) : Prop where
 row : Row M m.length 2 r (cellcs l) l.length
 map : M[q]? = some (some (mapB E'))
 len : m.length ≤ M.length
 keep : ∀ j, j < m.length → j ≠ q → M[j]? = m[j]?
 one : fst ∈ l
 nd : l.Nodup
 isf : ∀ d ∈ l, d = fst ∨ isF d = true
 new : ∀ d ∈ l, valE E d = false
 val : ∀ d, valE E' d = true ↔ valE E d = true ∨ d ∈ l
 rch : ∀ p : Cell → Prop, p fst → (∀ d, p d → ∀ e ∈ nx d, isF e = true → p e) → ∀ d ∈ l, p d
namespace Fld
variable {m : AM} {q : Nat} {E : Ents} {fst : Cell} {isF : Cell → Bool} {nx : Cell → List Cell} {M : AM} {r : Value} {l : List Cell} {E' : Ents}
theorem qlt (h : Fld m q E fst isF nx M r l E') (hq : q < m.length) : q < M.length := by have := h.len; omega
theorem old (h : Fld m q E fst isF nx M r l E') (hq : q < m.length) (T : AM) : Fld m q E fst isF nx (M ++ T) r l E' :=
 {h with
  row := h.row.old T
  map := by rw [List.getElem?_append_left (h.qlt hq)]; exact h.map
  len := by rw [List.length_append]; have := h.len; omega
  keep := fun j hj hn => by rw [List.getElem?_append_left (by have := h.len; omega)]; exact h.keep j hj hn }
theorem le (h : Fld m q E fst isF nx M r l E') {Uni : List Cell} (hU : ∀ c, isF c = true → c ∈ Uni) : l.length ≤ Uni.length + 1 := by
 have := nd_le l (fst :: Uni) h.nd fun d hd => (h.isf d hd).elim (fun e => by rw [e]; exact .head _) fun e => .tail _ (hU d e)
 simpa using this
theorem grow (h : Fld m q E fst isF nx M r l E') {c k : Cell} (hk : k ∈ l) (hc : c ∈ nx k) (hi : isF c = true) (hv : valE E' c = false) {M' : AM} {r' : Value} (hr : Row M' m.length 2 r' (cellcs (l ++ [c])) (l ++ [c]).length) (hm : M'[q]? = some (some (mapB (setE E' c true)))) (hl : m.length ≤ M'.length) (hkp : ∀ j, j < m.length → j ≠ q → M'[j]? = m[j]?) :
  Fld m q E fst isF nx M' r' (l ++ [c]) (setE E' c true) := by
 have hne : ¬ (valE E c = true ∨ c ∈ l) := fun e => by have := (h.val c).2 e; rw [hv] at this; cases this
 refine ⟨hr, hm, hl, hkp, List.mem_append_left _ h.one, ?_, ?_, ?_, ?_, ?_⟩
 ·refine List.nodup_append.2 ⟨h.nd, by simp, fun a ha b hb e => ?_⟩
  rw [List.mem_singleton] at hb
  subst hb; subst e
  exact hne (.inr ha)
 ·intro d hd
  rcases List.mem_append.1 hd with hd | hd
  ·exact h.isf d hd
  ·rw [List.mem_singleton] at hd; subst hd; exact .inr hi
 ·intro d hd
  rcases List.mem_append.1 hd with hd | hd
  ·exact h.new d hd
  ·rw [List.mem_singleton] at hd; subst hd
   cases e : valE E d with
   | false => rfl
   | true => exact absurd (.inl e) hne
 ·intro d
  rw [valE_set, h.val d, List.mem_append, List.mem_singleton]
  constructor
  ·rintro (e | e | e)
   ·exact .inr (.inr e)
   ·exact .inl e
   ·exact .inr (.inl e)
  ·rintro (e | e | e)
   ·exact .inr (.inl e)
   ·exact .inr (.inr e)
   ·exact .inl e
 ·intro p p0 ps d hd
  rcases List.mem_append.1 hd with hd | hd
  ·exact h.rch p p0 ps d hd
  ·rw [List.mem_singleton] at hd; subst hd
   exact ps k (h.rch p p0 ps k hk) d hc hi
end Fld
def FldEnd (m : AM) (q : Nat) (E : Ents) (fst : Cell) (isF : Cell → Bool) (nx : Cell → List Cell) (r : Value) (M : AM) : Prop :=
 ∃ l E', Fld m q E fst isF nx M r l E' ∧ ∀ d ∈ l, ∀ e ∈ nx d, isF e = true → valE E' e = true
theorem cellcs_get {l : List Cell} {i : Nat} {c : Cell} (h : l[i]? = some c) : ∀ (j : Nat) (v : Value), [Value.int .i64 c.1, Value.int .i64 c.2][j]? = some v → (cellcs l)[i * 2 + j]? = some v := by
 induction l generalizing i with
 | nil => simp at h
 | cons d l ih =>
  have e : cellcs (d :: l) = .int .i64 d.1 :: .int .i64 d.2 :: cellcs l := by simp [cellcs]
  rw [e]
  cases i with
  | zero =>
   simp at h; subst h
   intro j v hj
   rcases j with _ | _ | j
   ·exact hj
   ·exact hj
   ·simp at hj
  | succ i =>
   intro j v hj
   have := ih (i := i) (by simpa using h) j v hj
   rw [show (i + 1) * 2 + j = i * 2 + j + 1 + 1 by omega]
   exact this
theorem set_old {M T : AM} {q : Nat} {b : Option Blk} (h : q < M.length) : (M ++ T).set q b = M.set q b ++ T := List.set_append_left _ _ h
theorem zc88 : zeroB Tryd.prog 88 = some #[.int .i64 0, .int .i64 0] := by kernel_rfl
set_option maxHeartbeats 16000000 in
set_option maxRecDepth 100000 in
theorem Flood_ok {m : AM} {q F G : Nat} {E : Ents} {fst : Cell} {isF : Cell → Bool} {nx : Cell → List Cell} {caps : Array Value} {fnF fnG : Func} {bF bG : Code} {Uni : List Cell}
  (hq : m[q]? = some (some (mapB E))) (h0 : valE E fst = false)
  (hfF : Tryd.prog.funcs[F]? = some fnF) (hbF : fnF.body = some bF) (hfG : Tryd.prog.funcs[G]? = some fnG) (hbG : fnG.body = some bG)
  (hF : ∀ c, (c = fst ∨ isF c = true) → ∀ M, ACall Tryd.prog F #[.agg #[.int .i64 c.1, .int .i64 c.2]] M (More (fun M' r => Row M' M.length 2 r (cellcs (nx c)) (nx c).length) M))
  (hn : ∀ c, (c = fst ∨ isF c = true) → 0 < (nx c).length ∧ (nx c).length ≤ 8)
  (hG : ∀ (c : Cell) (M : AM), m.length ≤ M.length → (∀ j, j < m.length → j ≠ q → M[j]? = m[j]?) → ACall Tryd.prog G (#[.agg #[.int .i64 c.1, .int .i64 c.2]] ++ caps) M (Ret (.bool (isF c)) M))
  (hU : ∀ c, isF c = true → c ∈ Uni) (hUn : Uni.length ≤ 10000) :
  ACall Tryd.prog 42 #[.agg #[.int .i64 fst.1, .int .i64 fst.2], .map (some q), .func (.func F) #[] #[], .func (.func G) #[] caps] m (fun r M => FldEnd m q E fst isF nx r M) := by
 have hql := (List.getElem?_eq_some_iff.1 hq).1
 refine ACall.start Tryd.func42 rfl rfl ?_
 (repeat (first|(with_reducible refine AWo.cons ?_)|((with_reducible refine Step.id ?_);first|((with_reducible apply Step.move);exact rfl;exact rfl)|((with_reducible apply Step.assign);exact rfl;exact rfl)|((with_reducible apply Step.loadL (n := 2));exact rfl;((decide +kernel));((decide +kernel));exact rfl;((exact RdL.new rfl rfl));exact rfl;exact rfl)|((with_reducible apply Step.box 0);exact rfl;exact rfl;((kernel_rfl));exact rfl;((first|(simp only [zq7, zq8, zq9, zq0, iv_set, bv_set, iv_rep, bv_rep] <;> rfl)|rfl))))|(with_reducible first|apply AWo.nil|apply AW.seq|apply Then.n|apply AW.regL)))
 ((with_reducible apply Step.mapSetP (u := fst.1) (v := fst.2));exact rfl;exact rfl;exact rfl;exact (get_old _ hq))
 rw [set_old hql]
 obtain ⟨X, hX⟩ : ∃ X : AM, X = m.set q (some (mapB (setE E (fst.1, fst.2) true))) ++ [some { cells := [.int .i64 fst.1, .int .i64 fst.2] }] := ⟨_, rfl⟩
 have hXl : X.length = m.length + 1 := by rw [hX, List.length_append, List.length_set]; rfl
 have rX : ∀ T, RdL (X ++ T) (m.length + 0) 0 [.int .i64 fst.1, .int .i64 fst.2] := fun T => RdL.old T (by
  rw [hX, show m.length + 0 = (m.set q (some (mapB (setE E (fst.1, fst.2) true)))).length + 0 by rw [List.length_set]]
  exact RdL.new rfl rfl)
 have hXq : X[q]? = some (some (mapB (setE E fst true))) := by
  rw [hX, List.getElem?_append_left (by rw [List.length_set]; exact hql), List.getElem?_set_self hql]
 have hXk : ∀ j, j < m.length → j ≠ q → X[j]? = m[j]? := fun j hj hn => by
  rw [hX, List.getElem?_append_left (by rw [List.length_set]; exact hj), List.getElem?_set_ne (fun e => hn e.symm)]
 rw [show (m.set q (some (mapB (setE E (fst.1, fst.2) true))) ++ [some { cells := (Value.agg #[.int .i64 fst.1, .int .i64 fst.2]).cells.toList }] : AM) = X from hX.symm]
 generalize m.length + 0 = bx at *
 clear hX
 rw [← List.append_nil X]
 (repeat (first|(with_reducible refine AWo.cons ?_)|((with_reducible refine Step.id ?_);first|((with_reducible apply Step.assign);exact rfl;exact rfl)|((with_reducible apply Step.loadL (n := 2));exact rfl;((decide +kernel));((decide +kernel));exact rfl;((exact rX _));exact rfl;exact rfl)|((with_reducible apply Step.buildS 0);exact rfl;exact rfl;exact (fun _ _ => bs92);exact rfl;((first|(simp only [zq7, zq8, zq9, zq0, iv_set, bv_set, iv_rep, bv_rep] <;> rfl)|rfl))))|(with_reducible first|apply AWo.nil|apply AW.seq|apply Then.n|apply AW.regL|apply AW.block)))
 have hst : Fld m q E fst isF nx (X ++ [some { cells := [.int .i64 fst.1, .int .i64 fst.2] }]) (.slice (some ⟨X.length + 0, 0, none⟩) 1 1) [fst] (setE E fst true) := by
  refine ⟨.inr ⟨X.length + 0, .own, _, by omega, rfl, by rw [get_app]; rfl, rfl, .inl rfl⟩, by rw [List.getElem?_append_left (by omega)]; exact hXq, by simp; omega, fun j hj hn => by rw [List.getElem?_append_left (by omega)]; exact hXk j hj hn, .head _, by simp, fun d hd => .inl (by simpa using hd), fun d hd => by rw [List.mem_singleton] at hd; rw [hd]; exact h0, fun d => by rw [valE_set, List.mem_singleton]; exact or_comm, fun p p0 _ d hd => by rw [List.mem_singleton] at hd; rw [hd]; exact p0⟩
 refine AW.midX 0 (fun t' M => ∃ r l E', Fld m q E fst isF nx M r l E' ∧ (∀ d ∈ l, ∀ e ∈ nx d, isF e = true → valE E' e = true) ∧ All (fun i v => t' i = some v) [(9, r)]) ?_ ?_
 ·refine AW.loopW (fun z t M => ∃ (i : Nat) (r : Value) (l : List Cell) (E' : Ents), z = Uni.length + 1 - i ∧ i ≤ l.length ∧ Fld m q E fst isF nx M r l E' ∧ (∀ d ∈ l.take i, ∀ e ∈ nx d, isF e = true → valE E' e = true) ∧
   t = fr [(1, .map (some q)), (2, .func (.func F) #[] #[]), (3, .func (.func G) #[] caps), (9, r), (10, .int .i64 ((i : Nat) : Int))]) ⟨_, [(1, .map (some q)), (2, .func (.func F) #[] #[]), (3, .func (.func G) #[] caps), (9, .slice (some ⟨X.length + 0, 0, none⟩) 1 1), (10, .int .i64 ((0 : Nat) : Int))], (by repeat (first | exact trivial | (refine And.intro rfl ?_))), 0, _, [fst], _, rfl, Nat.zero_le _, hst, fun d hd => by simp at hd, rfl⟩ ?_
  rintro z t M ⟨i, r, l, E', rfl, hi, hf, hd, rfl⟩
  have hle := hf.le hU
  have hpos : 0 < l.length := List.length_pos_of_mem hf.one
  obtain ⟨a, kd, sz, ha1, ha2, rfl, hra⟩ := hf.row.pos hpos
  rcases Nat.lt_or_ge i l.length with hlt | hge
  ·obtain ⟨c, hc⟩ : ∃ c, l[i]? = some c := ⟨_, List.getElem?_eq_getElem hlt⟩
   have hcl : c ∈ l := List.mem_of_getElem? hc
   have rc : ∀ T, RdL (M ++ T) a (i * 2) [.int .i64 c.1, .int .i64 c.2] := fun T => RdL.old T ⟨_, hra, fun j v hj => cellcs_get hc j v hj⟩
   have hcF := hF c (hf.isf c hcl)
   obtain ⟨hn0, hn8⟩ := hn c (hf.isf c hcl)
   refine AW.rebase ?_
   (repeat (first|(with_reducible refine AWo.cons ?_)|((with_reducible refine Step.id ?_);first|((with_reducible apply Step.move);exact rfl;exact rfl)|((with_reducible apply Step.loadL (n := 2));exact rfl;((decide +kernel));((decide +kernel));exact rfl;((exact rc _));exact rfl;exact rfl)|((with_reducible apply Step.ixz (s := 2));exact rfl;((exact Sl.mk (by omega)));exact rfl;((decide +kernel));exact rfl;((omega)))|((with_reducible apply Step.lss);exact rfl;exact rfl;exact rfl)|((with_reducible apply Step.len);exact rfl;((exact Sl.mk (by omega)));((decide +kernel));exact rfl))|(with_reducible first|apply AWo.nil|apply AW.seq|apply Then.n|apply AW.regL|apply AW.block|apply AW.skip)|((with_reducible apply AW.condT);exact rfl;(((simp only [zq1, zq2, zq3, zq4, zq5, zq6];first|assumption|omega))))))
   ((with_reducible apply Step.call fit);exact rfl;exact rfl;exact hfF;exact hbF;exact rfl;((simpa using hcF _)))
   rintro u M0 ⟨N, rfl, hu⟩
   obtain ⟨a2, kd2, sz2, hb1, hb2, rfl, hrb⟩ := hu.pos hn0
   obtain ⟨Y, hY⟩ : ∃ Y : AM, Y = M ++ N := ⟨_, rfl⟩
   have hfY : Fld m q E fst isF nx Y (.slice (some ⟨a, 0, none⟩) l.length l.length) l E' := by rw [hY]; exact hf.old hql N
   have hna : NotOf (.slice (some ⟨a, 0, none⟩) l.length l.length) a2 := by
    intro n' c' e
    simp only [Value.slice.injEq, Option.some.injEq, Addr.mk.injEq] at e
    omega
   rw [← hY] at hrb ⊢
   clear hY hu hb1 hb2
   rw [← List.append_nil Y]
   (repeat (first|(with_reducible refine AWo.cons ?_)|((with_reducible refine Step.id ?_);first|((with_reducible apply Step.move);exact rfl;exact rfl)|((with_reducible apply Step.len);exact rfl;((exact Sl.mk (by omega)));((decide +kernel));exact rfl))|(with_reducible first|apply AWo.nil|apply Then.n|apply AW.block)))
   refine AW.midX 2 (fun t' M' => ∃ r' l' E'', Fld m q E fst isF nx M' r' l' E'' ∧ (∃ l2, l' = l ++ l2) ∧ (∀ e ∈ nx c, isF e = true → valE E'' e = true) ∧ All (fun i v => t' i = some v) [(1, .map (some q)), (2, .func (.func F) #[] #[]), (3, .func (.func G) #[] caps), (9, r'), (10, .int .i64 ((i : Nat) : Int))]) ?_ ?_
   ·refine AW.loopW (fun z t M => ∃ (k : Nat) (r : Value) (l' : List Cell) (E'' : Ents), z = (nx c).length - k ∧ k ≤ (nx c).length ∧ Fld m q E fst isF nx M r l' E'' ∧ (∃ l2, l' = l ++ l2) ∧ NotOf r a2 ∧ M[a2]? = some (some { cells := cellcs (nx c), kind := kd2, size := sz2 }) ∧ (∀ e ∈ (nx c).take k, isF e = true → valE E'' e = true) ∧
      t = fr [(1, .map (some q)), (2, .func (.func F) #[] #[]), (3, .func (.func G) #[] caps), (9, r), (10, .int .i64 ((i : Nat) : Int)), (28, .slice (some ⟨a2, 0, none⟩) (nx c).length (nx c).length), (29, .int .i64 ((nx c).length : Int)), (30, .int .i64 ((k : Nat) : Int))]) ⟨_, [(1, .map (some q)), (2, .func (.func F) #[] #[]), (3, .func (.func G) #[] caps), (9, .slice (some ⟨a, 0, none⟩) l.length l.length), (10, .int .i64 ((i : Nat) : Int)), (28, .slice (some ⟨a2, 0, none⟩) (nx c).length (nx c).length), (29, .int .i64 ((nx c).length : Int)), (30, .int .i64 ((0 : Nat) : Int))], (by repeat (first | exact trivial | (refine And.intro rfl ?_))), 0, _, l, E', rfl, Nat.zero_le _, by rw [List.append_nil]; exact hfY, ⟨[], by simp⟩, hna, by rw [List.append_nil]; exact hrb, fun d hd => by simp at hd, rfl⟩ ?_
    clear hrb hfY hna
    rintro z t M1 ⟨k, r, l', E'', rfl, hk, hf1, ⟨l2, hl2⟩, hnr, hrb, hd1, rfl⟩
    have hle1 := hf1.le hU
    have hml := hf1.len
    have hqM := hf1.qlt hql
    rcases Nat.lt_or_ge k (nx c).length with hlt' | hge'
    ·obtain ⟨d, hdk⟩ : ∃ d, (nx c)[k]? = some d := ⟨_, List.getElem?_eq_getElem hlt'⟩
     have hdc : d ∈ nx c := List.mem_of_getElem? hdk
     have rd : ∀ T, RdL (M1 ++ T) a2 (k * 2) [.int .i64 d.1, .int .i64 d.2] := fun T => RdL.old T ⟨_, hrb, fun j v hj => cellcs_get hdk j v hj⟩
     have htk : (nx c).take (k + 1) = (nx c).take k ++ [d] := by rw [List.take_succ_eq_append_getElem hlt']; congr 2; rw [List.getElem?_eq_getElem hlt'] at hdk; injection hdk
     refine AW.rebase ?_
     (repeat (first|(with_reducible refine AWo.cons ?_)|((with_reducible refine Step.id ?_);first|((with_reducible apply Step.move);exact rfl;exact rfl)|((with_reducible apply Step.loadL (n := 2));exact rfl;((decide +kernel));((decide +kernel));exact rfl;((first|exact RdL.new rfl rfl|exact rd _));exact rfl;exact rfl)|((with_reducible apply Step.ixz (s := 2));exact rfl;((exact Sl.mk (by omega)));exact rfl;((decide +kernel));exact rfl;((omega)))|((with_reducible apply Step.lss);exact rfl;exact rfl;exact rfl)|((with_reducible apply Step.alloc 0);exact rfl;exact zc88;exact rfl;((first|(simp only [zq7, zq8, zq9, zq0, iv_set, bv_set, iv_rep, bv_rep] <;> rfl)|rfl)))|((with_reducible apply Step.storeA (k := 0) (n := 2));exact rfl;exact rfl;exact rfl;exact rfl;((decide +kernel));exact rfl;((kernel_rfl));exact rfl;((first|(simp only [zq7, zq8, zq9, zq0, iv_set, bv_set, iv_rep, bv_rep] <;> rfl)|rfl))))|(with_reducible first|apply AWo.nil|apply AW.seq|apply Then.n|apply AW.regL|apply AW.block|apply AW.skip)|((with_reducible apply AW.condT);exact rfl;(((simp only [zq1, zq2, zq3, zq4, zq5, zq6];first|assumption|omega))))))
     ((with_reducible apply Step.mapLook (k := d));exact rfl;exact rfl;exact (get_old _ hf1.map);exact rfl)
     cases hv : valE E'' d with
     | true =>
      (repeat (first|(with_reducible refine AWo.cons ?_)|((with_reducible refine Step.id ?_);first|((with_reducible apply Step.gdF);exact rfl;exact rfl;((rfl)))|((with_reducible apply Step.move);exact rfl;exact rfl)|((with_reducible apply Step.add);exact rfl;exact rfl;((omega));exact rfl)|((with_reducible apply Step.not);exact rfl;exact rfl)|((with_reducible apply Step.pickF);exact rfl;exact rfl;exact rfl;exact rfl;((rfl))))|(with_reducible first|apply AWo.nil|apply Then.n|apply AW.regL|apply InBlk.n|apply AW.skip)|((with_reducible apply AW.condF);exact rfl;((rfl)))))
      exact ⟨_, [(1, .map (some q)), (2, .func (.func F) #[] #[]), (3, .func (.func G) #[] caps), (9, r), (10, .int .i64 ((i : Nat) : Int)), (28, .slice (some ⟨a2, 0, none⟩) (nx c).length (nx c).length), (29, .int .i64 ((nx c).length : Int)), (30, .int .i64 ((k + 1 : Nat) : Int))], by omega, (by repeat (first | exact trivial | (refine And.intro rfl ?_))), k + 1, r, l', E'', rfl, by omega, hf1.old hql _, ⟨l2, hl2⟩, hnr, get_old _ hrb, fun e he hie => by rw [htk, List.mem_append, List.mem_singleton] at he; rcases he with he | rfl; exact hd1 e he hie; exact hv, rfl⟩
     | false =>
      (repeat (first|(with_reducible refine AWo.cons ?_)|((with_reducible refine Step.id ?_);first|((with_reducible apply Step.gdT);exact rfl;exact rfl;((rfl)))|((with_reducible apply Step.move);exact rfl;exact rfl)|((with_reducible apply Step.loadL (n := 2));exact rfl;((decide +kernel));((decide +kernel));exact rfl;((exact RdL.new rfl rfl));exact rfl;exact rfl)|((with_reducible apply Step.not);exact rfl;exact rfl))))
      have hcG := fun T => hG d (M1 ++ T) (by rw [List.length_append]; omega) fun j hj hn => by rw [List.getElem?_append_left (by omega)]; exact hf1.keep j hj hn
      ((with_reducible apply Step.call fit);exact rfl;exact rfl;exact hfG;exact hbG;exact rfl;((simpa [Value.cells] using hcG _)))
      rintro _ _ ⟨rfl, rfl⟩
      cases hi : isF d with
      | false =>
       (repeat (first|(with_reducible refine AWo.cons ?_)|((with_reducible refine Step.id ?_);first|((with_reducible apply Step.move);exact rfl;exact rfl)|((with_reducible apply Step.add);exact rfl;exact rfl;((omega));exact rfl)|((with_reducible apply Step.pickT);exact rfl;exact rfl;exact rfl;exact rfl;((rfl))))|(with_reducible first|apply AWo.nil|apply Then.n|apply AW.regL|apply InBlk.n|apply AW.skip)|((with_reducible apply AW.condF);exact rfl;((rfl)))))
       exact ⟨_, [(1, .map (some q)), (2, .func (.func F) #[] #[]), (3, .func (.func G) #[] caps), (9, r), (10, .int .i64 ((i : Nat) : Int)), (28, .slice (some ⟨a2, 0, none⟩) (nx c).length (nx c).length), (29, .int .i64 ((nx c).length : Int)), (30, .int .i64 ((k + 1 : Nat) : Int))], by omega, (by repeat (first | exact trivial | (refine And.intro rfl ?_))), k + 1, r, l', E'', rfl, by omega, hf1.old hql _, ⟨l2, hl2⟩, hnr, get_old _ hrb, fun e he hie => by rw [htk, List.mem_append, List.mem_singleton] at he; rcases he with he | rfl; exact hd1 e he hie; exact absurd (hi.symm.trans hie) (by simp), rfl⟩
      | true =>
       (repeat (first|(with_reducible refine AWo.cons ?_)|((with_reducible refine Step.id ?_);first|((with_reducible apply Step.move);exact rfl;exact rfl)|((with_reducible apply Step.loadL (n := 2));exact rfl;((decide +kernel));((decide +kernel));exact rfl;((exact RdL.new rfl rfl));exact rfl;exact rfl)|((with_reducible apply Step.pickT);exact rfl;exact rfl;exact rfl;exact rfl;((rfl))))|(with_reducible first|apply AWo.nil|apply AW.seq|apply Then.n|apply AW.regL)|((with_reducible apply AW.condT);exact rfl;((rfl)))))
       ((with_reducible apply Step.mapSetP (u := d.1) (v := d.2));exact rfl;exact rfl;exact rfl;exact (get_old _ hf1.map))
       rw [set_old hqM]
       obtain ⟨Z, hZ⟩ : ∃ Z : AM, Z = M1.set q (some (mapB (setE E'' (d.1, d.2) true))) ++ [some { cells := [.int .i64 d.1, .int .i64 d.2] }] := ⟨_, rfl⟩
       have hZl : Z.length = M1.length + 1 := by rw [hZ, List.length_append, List.length_set]; rfl
       have rZ : ∀ T, RdL (Z ++ T) (M1.length + 0) 0 [.int .i64 d.1, .int .i64 d.2] := fun T => RdL.old T (by
        rw [hZ, show M1.length + 0 = (M1.set q (some (mapB (setE E'' (d.1, d.2) true)))).length + 0 by rw [List.length_set]]
        exact RdL.new rfl rfl)
       have hZq : Z[q]? = some (some (mapB (setE E'' d true))) := by
        rw [hZ, List.getElem?_append_left (by rw [List.length_set]; exact hqM), List.getElem?_set_self hqM]
       have hZk : ∀ j, j < M1.length → j ≠ q → Z[j]? = M1[j]? := fun j hj hn => by
        rw [hZ, List.getElem?_append_left (by rw [List.length_set]; exact hj), List.getElem?_set_ne (fun e => hn e.symm)]
       have hZr : Row Z m.length 2 r (cellcs l') l'.length := by rw [hZ]; exact (hf1.row.set (NotOf.row hf1.row hql)).old _
       have ha2l := (List.getElem?_eq_some_iff.1 hrb).1
       have ha2q : a2 ≠ q := fun e => by
        rw [e, hf1.map] at hrb
        injection hrb with hrb
        injection hrb with hrb
        have h2 := congrArg Blk.cells hrb
        change [] = cellcs (nx c) at h2
        have h3 := cellcs_len (nx c)
        rw [← h2] at h3
        simp only [List.length_nil] at h3
        omega
       rw [← hZ]
       generalize M1.length + 0 = bz at *
       clear hZ
       rw [← List.append_nil Z]
       (repeat (first|(with_reducible refine AWo.cons ?_)|((with_reducible refine Step.id ?_);first|((with_reducible apply Step.move);exact rfl;exact rfl)|((with_reducible apply Step.loadL (n := 2));exact rfl;((decide +kernel));((decide +kernel));exact rfl;((exact rZ _));exact rfl;exact rfl)|((with_reducible apply Step.buildS 0);exact rfl;exact rfl;exact (fun _ _ => bs92);exact rfl;((first|(simp only [zq7, zq8, zq9, zq0, iv_set, bv_set, iv_rep, bv_rep] <;> rfl)|rfl))))|(with_reducible first|apply AWo.nil|apply Then.n|apply AW.regL)))
       ((with_reducible apply Step.appRow2 (s := 2) (n := l'.length) (xl := 1) (b0 := m.length) (c := cellcs l') (new := [.int .i64 d.1, .int .i64 d.2]));exact rfl;exact rfl;exact (hZr.old _);exact (Sl.mk (Nat.le_refl _));exact (fun _ => RdL.new rfl rfl);exact el92;exact un92;exact rfl;exact rfl;exact rfl;((omega));exact rfl;((simp only [List.length_append];omega)))
       intro r2 M2 hr2 hml2 hk2 hno2
       have hcs : cellcs l' ++ [.int .i64 d.1, .int .i64 d.2] = cellcs (l' ++ [d]) := by rw [cellcs_app]; rfl
       rw [hcs, show l'.length + 1 = (l' ++ [d]).length by simp] at hr2
       have hgr : ∀ j, j < Z.length → NotOf r j → M2[j]? = Z[j]? := fun j hj hn => by rw [hk2 j (by rw [List.length_append]; omega) hn, List.getElem?_append_left hj]
       have hf2 := hf1.grow (M' := M2) (r' := r2) (by rw [hl2]; exact List.mem_append_left _ hcl) hdc hi hv hr2 (by rw [hgr q (by omega) (NotOf.row hf1.row hql)]; exact hZq) (by rw [List.length_append] at hml2; omega) (fun j hj hn => by rw [hgr j (by omega) (NotOf.row hf1.row hj), hZk j (by omega) hn]; exact hf1.keep j hj hn)
       rw [← List.append_nil M2]
       (repeat (first|(with_reducible refine AWo.cons ?_)|((with_reducible refine Step.id ?_);first|((with_reducible apply Step.move);exact rfl;exact rfl)|((with_reducible apply Step.assign);exact rfl;exact rfl)|((with_reducible apply Step.add);exact rfl;exact rfl;((omega));exact rfl))|(with_reducible first|apply AWo.nil|apply Then.n|apply AW.regL|apply InBlk.n)))
       exact ⟨_, [(1, .map (some q)), (2, .func (.func F) #[] #[]), (3, .func (.func G) #[] caps), (9, r2), (10, .int .i64 ((i : Nat) : Int)), (28, .slice (some ⟨a2, 0, none⟩) (nx c).length (nx c).length), (29, .int .i64 ((nx c).length : Int)), (30, .int .i64 ((k + 1 : Nat) : Int))], by omega, (by repeat (first | exact trivial | (refine And.intro rfl ?_))), k + 1, r2, l' ++ [d], _, rfl, by omega, hf2.old hql _, ⟨l2 ++ [d], by rw [hl2, List.append_assoc]⟩, hno2 a2 (by rw [List.length_append]; omega) hnr, by rw [List.append_nil, hgr a2 (by omega) hnr, hZk a2 ha2l ha2q]; exact hrb, fun e he hie => by rw [htk, List.mem_append, List.mem_singleton] at he; rcases he with he | rfl; exact (valE_set ..).2 (.inr (hd1 e he hie)); exact (valE_set ..).2 (.inl rfl), rfl⟩
    ·obtain rfl : k = (nx c).length := by omega
     refine AW.rebase ?_
     (repeat (first|(with_reducible refine AWo.cons ?_)|((with_reducible refine Step.id ?_);((with_reducible apply Step.lss);exact rfl;exact rfl;exact rfl))|(with_reducible first|apply AWo.nil|apply AW.seq|apply Then.n|apply AW.regL|apply AW.exit|apply Then.e)|((with_reducible apply AW.condF);exact rfl;(((simp only [zq1, zq2, zq3, zq4, zq5, zq6];first|assumption|omega))))))
     exact ⟨rfl, r, l', E'', hf1.old hql _, ⟨l2, hl2⟩, fun e he => hd1 e (by rw [List.take_length]; exact he), (by repeat (first | exact trivial | (refine And.intro rfl ?_)))⟩
   ·rintro t' M1 ⟨r1, l1, E1, hf1, ⟨l2, hl2⟩, hd1, hsl⟩
    refine InBlk.hit ?_
    refine InBlk.n ?_
    refine Then.n ?_
    refine AW.weak (fr_all hsl) ?_
    clear hsl
    rw [← List.append_nil M1]
    (repeat (first|(with_reducible refine AWo.cons ?_)|((with_reducible refine Step.id ?_);first|((with_reducible apply Step.move);exact rfl;exact rfl)|((with_reducible apply Step.assign);exact rfl;exact rfl)|((with_reducible apply Step.add);exact rfl;exact rfl;((omega));exact rfl))|(with_reducible first|apply AWo.nil|apply Then.n|apply AW.regL)))
    have hmono : ∀ d, valE E' d = true → valE E1 d = true := fun d h => (hf1.val d).2 (((hf.val d).1 h).elim .inl fun h => .inr (by rw [hl2]; exact List.mem_append_left _ h))
    exact ⟨_, [(1, .map (some q)), (2, .func (.func F) #[] #[]), (3, .func (.func G) #[] caps), (9, r1), (10, .int .i64 ((i + 1 : Nat) : Int))], by omega, (by repeat (first | exact trivial | (refine And.intro rfl ?_))), i + 1, r1, l1, E1, rfl, by rw [hl2, List.length_append]; omega, hf1.old hql _, fun d hdi e he hie => by
     rw [hl2, List.take_append_of_le_length (by omega), List.take_succ_eq_append_getElem hlt, List.mem_append, List.mem_singleton] at hdi
     rcases hdi with hdi | hdi
     ·exact hmono e (hd d hdi e he hie)
     ·have : d = c := by rw [List.getElem?_eq_getElem hlt] at hc; injection hc with hc; rw [hdi, hc]
      subst this
      exact hd1 e he hie, rfl⟩
  ·obtain rfl : i = l.length := by omega
   refine AW.rebase ?_
   (repeat (first|(with_reducible refine AWo.cons ?_)|((with_reducible refine Step.id ?_);first|((with_reducible apply Step.move);exact rfl;exact rfl)|((with_reducible apply Step.lss);exact rfl;exact rfl;exact rfl)|((with_reducible apply Step.len);exact rfl;((exact Sl.mk (by omega)));((decide +kernel));exact rfl))|(with_reducible first|apply AWo.nil|apply AW.seq|apply Then.n|apply AW.regL|apply AW.exit|apply Then.e)|((with_reducible apply AW.condF);exact rfl;(((simp only [zq1, zq2, zq3, zq4, zq5, zq6];first|assumption|omega))))))
   exact ⟨rfl, _, l, E', hf.old hql _, fun d hdl => hd d (by rw [List.take_length]; exact hdl), (by repeat (first | exact trivial | (refine And.intro rfl ?_)))⟩
 ·rintro t' M ⟨r, l, E', hf, hd, hsl⟩
  refine InBlk.hit ?_
  refine Then.n ?_
  refine AW.weak (fr_all hsl) ?_
  clear hsl
  rw [← List.append_nil M]
  (repeat (first|(with_reducible refine AWo.cons ?_)|((with_reducible refine Step.id ?_);first|((with_reducible apply Step.move);exact rfl;exact rfl)|((with_reducible apply Step.assign);exact rfl;exact rfl))|(with_reducible first|apply AWo.nil|apply AW.seq|apply Then.n|apply AW.regL)))
  (refine AW.ret ?_; (repeat (first | refine Then.r ?_ | refine InBlk.r ?_)))
  exact ⟨_, rfl, l, E', by rw [List.append_nil]; exact hf, hd⟩
section
variable {P : Program} {nt : Nat} {ops : Array Oper} {t : Fm} {m : AM} {K : Fm → AM → Prop} {d T : Nat} {p : String} {af : Array Edge}
theorem Step.indexW {x y : Operand} {X e n k s : Nat} {c v : List Value} {kk : IntKind} (hx : evo t x = some (.agg c.toArray)) (hy : evo t y = some (.int kk ((k : Nat) : Int))) (hX : P.underlying X = some (.array n e)) (hsz : szB P e = some s) (hg : aggB P e = some true) (hk : k < n) (hv : (c.drop (k * s)).take s = v)
  (hlt : Nat.blt d nt = true) (hK : K (put t d (.agg v.toArray)) m) : Step P nt ops ⟨some d, .index X x y, T, p, af, none⟩ t m K := by
 subst hv
 refine .q (v := .agg ((c.drop (k * s)).take s).toArray) rfl rfl hlt (by simp [Op.operands, hx, hy]) ?_ hK
 simp only [aquiet, evD_of hx, evD_of hy, aindexOf, hX, hsz]
 rw [if_pos (by omega)]
 have : c.toArray.extract (k * s) (k * s + s) = ((c.drop (k * s)).take s).toArray := by
  apply Array.ext'
  simp [List.extract_eq_take_drop]
 simp [apart_, hg, hsz, this]
theorem Step.storeL {x y : Operand} {ty : TypeId} {a o n sz : Nat} {c v : List Value} {kd : Kind} (hx : evo t x = some (.pointer (some ⟨a, o, none⟩))) (hy : evo t y = some (.agg v.toArray)) (hb : m[a]? = some (some { cells := c, kind := kd, size := sz })) (hs : kd.solid = true) (hz : szB P ty = some n) (hc : v.length = n) (h1 : v.all (·.oneCell') = true) (ho : o + n ≤ c.length)
  (hK : K t (m.set a (some { cells := splice c o v, kind := kd, size := sz }))) : Step P nt ops ⟨none, .store ty x y, T, p, af, none⟩ t m K := by
 have hv : (Value.agg v.toArray).cells = v.toArray := rfl
 have := Step.stores (P := P) (nt := nt) (ops := ops) (T := T) (p := p) (af := af) (M := []) (L := m) (k := a) (ty := ty) (K := K) (n := n) (by simpa using hx) hy hb hs hz (by rw [hv]; simpa using hc) (by rw [hv]; simpa using h1) ho rfl (by simpa [hv] using hK)
 simpa using this
end
def i4 (a b c d : Int) : List Value := [.int .i64 a, .int .i64 b, .int .i64 c, .int .i64 d]
structure PS (m : AM) (M : AM) (E : Ents) (a b c d : Int) : Prop where
 len : m.length + 4 ≤ M.length
 keep : ∀ j, j < m.length → M[j]? = m[j]?
 res : M[m.length + 0]? = some (some { cells := [.int .i64 0, .int .i64 0, .int .i64 0, .int .i64 0, .int .i64 0, .int .i64 0, .int .i64 0] })
 map : M[m.length + 1]? = some (some (mapB E))
 bx : M[m.length + 2]? = some (some { cells := [.map (some (m.length + 1))] })
 box : M[m.length + 3]? = some (some { cells := i4 a b c d })
 okb : -1 ≤ a ∧ a ≤ 48 ∧ -1 ≤ b ∧ b ≤ 48 ∧ -1 ≤ c ∧ c ≤ 48 ∧ -1 ≤ d ∧ d ≤ 48
namespace PS
variable {m M : AM} {E : Ents} {a b c d : Int}
theorem stay (h : PS m M E a b c d) {M' : AM} (hl : m.length + 4 ≤ M'.length) (hk : ∀ j, j < m.length + 4 → M'[j]? = M[j]?) : PS m M' E a b c d :=
 ⟨hl, fun j hj => by rw [hk j (by omega)]; exact h.keep j hj, by rw [hk _ (by omega)]; exact h.res, by rw [hk _ (by omega)]; exact h.map, by rw [hk _ (by omega)]; exact h.bx, by rw [hk _ (by omega)]; exact h.box, h.okb⟩
theorem old (h : PS m M E a b c d) (T : AM) : PS m (M ++ T) E a b c d :=
 h.stay (by rw [List.length_append]; have := h.len; omega) fun j hj => List.getElem?_append_left (by have := h.len; omega)
theorem put (h : PS m M E a b c d) (E' : Ents) : PS m (M.set (m.length + 1) (some (mapB E'))) E' a b c d := by
 have hl := h.len
 refine ⟨by rw [List.length_set]; exact hl, fun j hj => ?_, ?_, List.getElem?_set_self (by omega), ?_, ?_, h.okb⟩
 ·rw [List.getElem?_set_ne (by omega)]; exact h.keep j hj
 ·rw [List.getElem?_set_ne (by omega)]; exact h.res
 ·rw [List.getElem?_set_ne (by omega)]; exact h.bx
 ·rw [List.getElem?_set_ne (by omega)]; exact h.box
theorem setb (h : PS m M E a b c d) {a' b' c' d' : Int} (ho : -1 ≤ a' ∧ a' ≤ 48 ∧ -1 ≤ b' ∧ b' ≤ 48 ∧ -1 ≤ c' ∧ c' ≤ 48 ∧ -1 ≤ d' ∧ d' ≤ 48) : PS m (M.set (m.length + 3) (some { cells := i4 a' b' c' d' })) E a' b' c' d' := by
 have hl := h.len
 refine ⟨by rw [List.length_set]; exact hl, fun j hj => ?_, ?_, ?_, ?_, List.getElem?_set_self (by omega), ho⟩
 ·rw [List.getElem?_set_ne (by omega)]; exact h.keep j hj
 ·rw [List.getElem?_set_ne (by omega)]; exact h.res
 ·rw [List.getElem?_set_ne (by omega)]; exact h.map
 ·rw [List.getElem?_set_ne (by omega)]; exact h.bx
theorem setp (h : PS m M E a b c d) {j : Nat} {x : Option Blk} (hj : m.length + 4 ≤ j) : PS m (M.set j x) E a b c d :=
 h.stay (by rw [List.length_set]; exact h.len) fun k hk => List.getElem?_set_ne (by omega)
end PS
theorem cellcs_drop {l : List Cell} {i : Nat} {c : Cell} (h : l[i]? = some c) : ((cellcs l).drop (i * 2)).take 2 = [Value.int .i64 c.1, Value.int .i64 c.2] := by
 induction l generalizing i with
 | nil => simp at h
 | cons d l ih =>
  have e : cellcs (d :: l) = .int .i64 d.1 :: .int .i64 d.2 :: cellcs l := by simp [cellcs]
  rw [e]
  cases i with
  | zero => simp at h; subst h; rfl
  | succ i =>
   have := ih (i := i) (by simpa using h)
   rw [show (i + 1) * 2 = i * 2 + 1 + 1 by omega]
   exact this
def pc (n e h x y w z : Int) : List Value := [.int .i64 n, .int .i64 e, .int .i64 h, .int .i64 x, .int .i64 y, .int .i64 w, .int .i64 z]
theorem PS.other {m M : AM} {E : Ents} {a b c d : Int} {pb : Nat} {L : List Value} (h : PS m M E a b c d) (hp : m.length + 4 ≤ pb) (hb : M[pb]? = some (some { cells := L })) (L' : List Value) : PS m (M.set pb (some { cells := L' })) E a b c d ∧ (M.set pb (some { cells := L' }))[pb]? = some (some { cells := L' }) :=
 ⟨h.setp hp, List.getElem?_set_self (List.getElem?_eq_some_iff.1 hb).1⟩
def Frm : List Cell := (List.range 60).flatMap fun (i : Nat) => (List.range 60).map fun (j : Nat) => ((i : Int) - 5, (j : Int) - 5)
theorem Frm_len : Frm.length = 3600 := by simp only [Frm, List.length_flatMap, List.length_map, List.length_range]; rfl
theorem Frm_mem {c : Cell} (h : -5 ≤ c.1 ∧ c.1 < 55 ∧ -5 ≤ c.2 ∧ c.2 < 55) : c ∈ Frm := by
 obtain ⟨x, y⟩ := c
 simp only at h
 refine List.mem_flatMap.2 ⟨(x + 5).toNat, List.mem_range.2 (by omega), List.mem_map.2 ⟨(y + 5).toNat, List.mem_range.2 (by omega), ?_⟩⟩
 simp only [Prod.mk.injEq]
 omega
theorem zp49 : zeroB Tryd.prog 49 = some #[.int .i64 0, .int .i64 0, .int .i64 0, .int .i64 0, .int .i64 0, .int .i64 0, .int .i64 0] := by kernel_rfl
theorem zm90 : zeroB Tryd.prog 90 = some #[.map none] := by kernel_rfl
theorem ag88 : aggB Tryd.prog 88 = some true := by kernel_rfl
theorem sz127 : szB Tryd.prog 127 = some 4 := by kernel_rfl
theorem sz49 : szB Tryd.prog 49 = some 7 := by kernel_rfl
theorem bl49 {n a b c d : Int} : abuild Tryd.prog 49 [(0, .int .i64 n), (3, .agg #[.int .i64 a, .int .i64 b, .int .i64 c, .int .i64 d])] = some (.agg #[.int .i64 n, .int .i64 0, .int .i64 0, .int .i64 a, .int .i64 b, .int .i64 c, .int .i64 d]) := by kernel_rfl
theorem nr8 (x y : Int) : (nrL x y 9).length = 8 := by
 unfold nrL
 rw [List.length_map]
 decide
theorem free_box {E : Ents} {a b c d : Int} {z : Cell} (h : freeB E a b c d z = true) (ho : -1 ≤ a ∧ a ≤ 48 ∧ -1 ≤ b ∧ b ≤ 48 ∧ -1 ≤ c ∧ c ≤ 48 ∧ -1 ≤ d ∧ d ≤ 48) : -5 ≤ z.1 ∧ z.1 < 55 ∧ -5 ≤ z.2 ∧ z.2 < 55 := by
 unfold freeB at h
 simp only [Bool.and_eq_true, decide_eq_true_eq] at h
 omega
theorem FloodN_ok {m M : AM} {E S : Ents} {a b c d x y : Int} {sq : Nat} (hP : PS m M E a b c d) (hs : M[sq]? = some (some (mapB S))) (hsq : m.length + 4 ≤ sq) (hv : valE S (x, y) = false) (hx : -5 ≤ x ∧ x < 55 ∧ -5 ≤ y ∧ y < 55) :
  ACall Tryd.prog 42 #[.agg #[.int .i64 x, .int .i64 y], .map (some sq), .func (.func 71) #[] #[], .func (.func 70) #[] #[.pointer (some ⟨m.length + 2, 0, none⟩), .pointer (some ⟨m.length + 3, 0, none⟩)]] M
   (fun _ M' => ∃ S', PS m M' E a b c d ∧ M'[sq]? = some (some (mapB S')) ∧ M.length ≤ M'.length ∧ ∀ j, j < M.length → j ≠ sq → M'[j]? = M[j]?) := by
 have hl := hP.len
 have ho := hP.okb
 have hbd : ∀ z : Cell, (z = (x, y) ∨ freeB E a b c d z = true) → -5 ≤ z.1 ∧ z.1 < 55 ∧ -5 ≤ z.2 ∧ z.2 < 55 := fun z hz => by
  rcases hz with rfl | hz
  ·exact hx
  ·exact free_box hz ho
 have h := Flood_ok (m := M) (fst := (x, y)) (isF := freeB E a b c d) (nx := fun z => nrL z.1 z.2 9) (caps := #[.pointer (some ⟨m.length + 2, 0, none⟩), .pointer (some ⟨m.length + 3, 0, none⟩)]) (Uni := Frm) hs hv Tryd.func71 rfl Tryd.func70 rfl
  (fun z hz M1 => by have hb := hbd z hz; exact Near_ok ⟨by omega, by omega, by omega, by omega⟩)
  (fun z hz => by simp only [nr8]; decide)
  (fun z M1 h1 h2 => by
   have k1 : M1[m.length + 1]? = some (some (mapB E)) := by rw [h2 _ (by omega) (by omega)]; exact hP.map
   have k2 : M1[m.length + 2]? = some (some { cells := [.map (some (m.length + 1))] }) := by rw [h2 _ (by omega) (by omega)]; exact hP.bx
   have k3 : M1[m.length + 3]? = some (some { cells := i4 a b c d }) := by rw [h2 _ (by omega) (by omega)]; exact hP.box
   exact Free_ok k2 k1 k3 ⟨by omega, by omega, by omega, by omega, by omega, by omega, by omega, by omega⟩)
  (fun z hz => Frm_mem (free_box hz ho)) (by rw [Frm_len]; decide)
 refine h.mono fun r M' ⟨l, S', hf, _⟩ => ⟨S', hP.stay (by have := hf.len; omega) fun j hj => hf.keep j (by omega) (by omega), hf.map, hf.len, hf.keep⟩
theorem pre_of {m M : AM} (hl : m.length ≤ M.length) (hk : ∀ j, j < m.length → M[j]? = m[j]?) : ∃ N, M = m ++ N := by
 refine ⟨M.drop m.length, ?_⟩
 apply List.ext_getElem?
 intro j
 by_cases h : j < m.length
 ·rw [List.getElem?_append_left h]; exact hk j h
 ·rw [List.getElem?_append_right (by omega), List.getElem?_drop]; congr 1; omega
set_option maxHeartbeats 16000000 in
set_option maxRecDepth 100000 in
theorem Part_ok {m : AM} {a kd sz} {l : List Cell} (hl : m[a]? = some (some { cells := cellcs l, kind := kd, size := sz })) (hb : ∀ c ∈ l, 0 ≤ c.1 ∧ c.1 ≤ 48 ∧ 0 ≤ c.2 ∧ c.2 ≤ 48) (hn : l.length ≤ 10000) :
  ACall Tryd.prog 41 #[.slice (some ⟨a, 0, none⟩) l.length l.length] m (More (fun _ r => ∃ e h x y w z : Int, r = .agg #[.int .i64 l.length, .int .i64 e, .int .i64 h, .int .i64 x, .int .i64 y, .int .i64 w, .int .i64 z]) m) := by
 refine ACall.start Tryd.func41 rfl rfl ?_
 (repeat (first|(with_reducible refine AWo.cons ?_)|((with_reducible refine Step.id ?_);((with_reducible apply Step.alloc 0);exact rfl;exact zp49;exact rfl;((first|(simp only [zq7, zq8, zq9, zq0, iv_set, bv_set, iv_rep, bv_rep] <;> rfl)|rfl))))|(with_reducible first|apply AWo.nil|apply AW.seq|apply Then.n|apply AW.regL)))
 ((with_reducible apply Step.newMap 1);exact rfl;exact rfl;exact rfl)
 (repeat (first|(with_reducible refine AWo.cons ?_)|((with_reducible refine Step.id ?_);first|((with_reducible apply Step.move);exact rfl;exact rfl)|((with_reducible apply Step.len);exact rfl;((exact Sl.mk (by omega)));((decide +kernel));exact rfl)|((with_reducible apply Step.callR fit);exact rfl;exact Tryd.func66;exact rfl;exact rfl;exact (Nowhere_ok))|((with_reducible apply Step.alloc 2);exact rfl;exact zm90;exact rfl;((first|(simp only [zq7, zq8, zq9, zq0, iv_set, bv_set, iv_rep, bv_rep] <;> rfl)|rfl)))|((with_reducible apply Step.store (k := 2));exact rfl;exact rfl;exact rfl;exact rfl;((decide +kernel));exact rfl;exact rfl;(focus (first|omega|(simp [iv, bv];done)|(simp [iv, bv];omega)));((first|(simp only [zq7, zq8, zq9, zq0, iv_set, bv_set, iv_rep, bv_rep] <;> rfl)|rfl)))|((with_reducible apply Step.alloc 3);exact rfl;exact ze127;exact rfl;((first|(simp only [zq7, zq8, zq9, zq0, iv_set, bv_set, iv_rep, bv_rep] <;> rfl)|rfl)))|((with_reducible apply Step.storeA (k := 3) (n := 4));exact rfl;exact rfl;exact rfl;exact rfl;((decide +kernel));exact rfl;((kernel_rfl));exact rfl;((first|(simp only [zq7, zq8, zq9, zq0, iv_set, bv_set, iv_rep, bv_rep] <;> rfl)|rfl))))|(with_reducible first|apply AWo.nil|apply AW.seq|apply Then.n|apply AW.regL|apply AW.block)))
 have hal := (List.getElem?_eq_some_iff.1 hl).1
 have hP0 : PS m (m ++ [some { cells := [.int .i64 0, .int .i64 0, .int .i64 0, .int .i64 0, .int .i64 0, .int .i64 0, .int .i64 0] }, some (mapB []), some { cells := [.map (some (m.length + 1))] }, some { cells := (Value.agg #[.int .i64 48, .int .i64 48, .int .i64 (-1), .int .i64 (-1)]).cells.toList }]) [] 48 48 (-1) (-1) :=
  ⟨by simp, fun j hj => List.getElem?_append_left hj, (get_app _ _ 0).trans rfl, (get_app _ _ 1).trans rfl, (get_app _ _ 2).trans rfl, (get_app _ _ 3).trans rfl, by omega⟩
 refine AW.midX 0 (fun t' M => ∃ E a' b' c' d', PS m M E a' b' c' d' ∧ All (fun i v => t' i = some v) [(0, .slice (some ⟨a, 0, none⟩) l.length l.length), (2, .pointer (some ⟨m.length + 0, 0, none⟩)), (3, .pointer (some ⟨m.length + 2, 0, none⟩)), (4, .pointer (some ⟨m.length + 3, 0, none⟩))]) ?_ ?_
 ·refine AW.loopW (fun z t M => ∃ (i : Nat) (E : Ents) (a' b' c' d' : Int), z = l.length - i ∧ i ≤ l.length ∧ PS m M E a' b' c' d' ∧
   t = fr [(0, .slice (some ⟨a, 0, none⟩) l.length l.length), (2, .pointer (some ⟨m.length + 0, 0, none⟩)), (3, .pointer (some ⟨m.length + 2, 0, none⟩)), (4, .pointer (some ⟨m.length + 3, 0, none⟩)), (19, .slice (some ⟨a, 0, none⟩) l.length l.length), (20, .int .i64 (l.length : Int)), (21, .int .i64 ((i : Nat) : Int))]) ⟨_, [(0, .slice (some ⟨a, 0, none⟩) l.length l.length), (2, .pointer (some ⟨m.length + 0, 0, none⟩)), (3, .pointer (some ⟨m.length + 2, 0, none⟩)), (4, .pointer (some ⟨m.length + 3, 0, none⟩)), (19, .slice (some ⟨a, 0, none⟩) l.length l.length), (20, .int .i64 (l.length : Int)), (21, .int .i64 ((0 : Nat) : Int))], (by repeat (first | exact trivial | (refine And.intro rfl ?_))), 0, [], 48, 48, -1, -1, rfl, Nat.zero_le _, hP0, rfl⟩ ?_
  rintro z t M ⟨i, E, a1, b1, c1, d1, rfl, hi, hP, rfl⟩
  have hPl := hP.len
  rcases Nat.lt_or_ge i l.length with hlt | hge
  ·obtain ⟨c, hc⟩ : ∃ c, l[i]? = some c := ⟨_, List.getElem?_eq_getElem hlt⟩
   have hcb := hb c (List.mem_of_getElem? hc)
   have rc : ∀ T, RdL (M ++ T) a (i * 2) [.int .i64 c.1, .int .i64 c.2] := fun T => RdL.old T ⟨_, (hP.keep a hal).trans hl, fun j v hj => cellcs_get hc j v hj⟩
   have r1 : ∀ T, Rd (M ++ T) (m.length + 2) 0 (.map (some (m.length + 1))) := fun T => Rd.old T ⟨_, hP.bx, rfl⟩
   refine AW.rebase ?_
   (repeat (first|(with_reducible refine AWo.cons ?_)|((with_reducible refine Step.id ?_);first|((with_reducible apply Step.load);exact rfl;((decide +kernel));exact rfl;((exact r1 _)))|((with_reducible apply Step.loadL (n := 2));exact rfl;((decide +kernel));((decide +kernel));exact rfl;((first|exact RdL.new rfl rfl|exact rc _));exact rfl;exact rfl)|((with_reducible apply Step.ixz (s := 2));exact rfl;((exact Sl.mk (by omega)));exact rfl;((decide +kernel));exact rfl;((omega)))|((with_reducible apply Step.lss);exact rfl;exact rfl;exact rfl)|((with_reducible apply Step.alloc 0);exact rfl;exact zc88;exact rfl;((first|(simp only [zq7, zq8, zq9, zq0, iv_set, bv_set, iv_rep, bv_rep] <;> rfl)|rfl)))|((with_reducible apply Step.storeA (k := 0) (n := 2));exact rfl;exact rfl;exact rfl;exact rfl;((decide +kernel));exact rfl;((kernel_rfl));exact rfl;((first|(simp only [zq7, zq8, zq9, zq0, iv_set, bv_set, iv_rep, bv_rep] <;> rfl)|rfl))))|(with_reducible first|apply AWo.nil|apply AW.seq|apply Then.n|apply AW.regL|apply AW.block|apply AW.skip)|((with_reducible apply AW.condT);exact rfl;(((simp only [zq1, zq2, zq3, zq4, zq5, zq6];first|assumption|omega))))))
   ((with_reducible apply Step.mapSetP (u := c.1) (v := c.2));exact rfl;exact rfl;exact rfl;exact (get_old _ hP.map))
   rw [set_old (by omega)]
   obtain ⟨Z, hZ⟩ : ∃ Z : AM, Z = M.set (m.length + 1) (some (mapB (setE E (c.1, c.2) true))) ++ [some { cells := [.int .i64 c.1, .int .i64 c.2] }] := ⟨_, rfl⟩
   have hP1 : PS m Z (setE E (c.1, c.2) true) a1 b1 c1 d1 := by rw [hZ]; exact (hP.put (setE E (c.1, c.2) true)).old _
   have rZ : ∀ T, RdL (Z ++ T) (M.length + 0) 0 [.int .i64 c.1, .int .i64 c.2] := fun T => RdL.old T (by
    rw [hZ, show M.length + 0 = (M.set (m.length + 1) (some (mapB (setE E (c.1, c.2) true)))).length + 0 by rw [List.length_set]]
    exact RdL.new rfl rfl)
   rw [show (M.set (m.length + 1) (some (mapB (setE E (c.1, c.2) true))) ++ [some { cells := (Value.agg #[.int .i64 c.1, .int .i64 c.2]).cells.toList }] : AM) = Z from hZ.symm]
   clear hZ
   generalize M.length + 0 = bz at *
   have rB : ∀ T, RdL (Z ++ T) (m.length + 3) 0 [.int .i64 a1, .int .i64 b1, .int .i64 c1, .int .i64 d1] := fun T => RdL.old T ⟨_, hP1.box, fun j v hj => by rw [Nat.zero_add]; exact hj⟩
   rw [← List.append_nil Z]
   (repeat (first|(with_reducible refine AWo.cons ?_)|((with_reducible refine Step.id ?_);first|((with_reducible apply Step.load);exact rfl;((decide +kernel));exact rfl;((first|exact (rZ _).at_ 0 rfl|exact (rZ _).at_ 1 rfl)))|((with_reducible apply Step.loadL (n := 4));exact rfl;((decide +kernel));((decide +kernel));exact rfl;((exact rB _));exact rfl;exact rfl)|((with_reducible apply Step.field0);exact rfl;((decide +kernel));exact rfl)|((with_reducible apply Step.field (k := 1));exact rfl;((decide +kernel));exact rfl)|((with_reducible apply Step.callR fit);exact rfl;exact Tryd.func67;exact rfl;exact rfl;exact (With_ok)))|(with_reducible first|apply AWo.nil|apply Then.n|apply AW.regL)))
   ((with_reducible apply Step.storeL (v := i4 (min a1 c.1) (min b1 c.2) (max c1 c.1) (max d1 c.2)));exact rfl;exact rfl;exact (get_old _ hP1.box);exact rfl;exact sz127;exact rfl;exact rfl;exact (Nat.le_refl _))
   rw [List.append_nil, show splice (i4 a1 b1 c1 d1) 0 (i4 (min a1 c.1) (min b1 c.2) (max c1 c.1) (max d1 c.2)) = i4 (min a1 c.1) (min b1 c.2) (max c1 c.1) (max d1 c.2) from rfl]
   have hok := hP.okb
   have hP2 := hP1.setb (a' := min a1 c.1) (b' := min b1 c.2) (c' := max c1 c.1) (d' := max d1 c.2) (by omega)
   rw [← List.append_nil (List.set Z _ _)]
   (repeat (first|(with_reducible refine AWo.cons ?_)|((with_reducible refine Step.id ?_);first|((with_reducible apply Step.move);exact rfl;exact rfl)|((with_reducible apply Step.add);exact rfl;exact rfl;((omega));exact rfl))|(with_reducible first|apply AWo.nil|apply Then.n|apply AW.regL|apply InBlk.n)))
   exact ⟨_, [(0, .slice (some ⟨a, 0, none⟩) l.length l.length), (2, .pointer (some ⟨m.length + 0, 0, none⟩)), (3, .pointer (some ⟨m.length + 2, 0, none⟩)), (4, .pointer (some ⟨m.length + 3, 0, none⟩)), (19, .slice (some ⟨a, 0, none⟩) l.length l.length), (20, .int .i64 (l.length : Int)), (21, .int .i64 ((i + 1 : Nat) : Int))], by omega, (by repeat (first | exact trivial | (refine And.intro rfl ?_))), i + 1, _, _, _, _, _, rfl, by omega, hP2.old _, rfl⟩
  ·obtain rfl : i = l.length := by omega
   refine AW.rebase ?_
   (repeat (first|(with_reducible refine AWo.cons ?_)|((with_reducible refine Step.id ?_);((with_reducible apply Step.lss);exact rfl;exact rfl;exact rfl))|(with_reducible first|apply AWo.nil|apply AW.seq|apply Then.n|apply AW.regL|apply AW.exit|apply Then.e)|((with_reducible apply AW.condF);exact rfl;(((simp only [zq1, zq2, zq3, zq4, zq5, zq6];first|assumption|omega))))))
   exact ⟨rfl, E, a1, b1, c1, d1, hP.old _, (by repeat (first | exact trivial | (refine And.intro rfl ?_)))⟩
 ·rintro t' M ⟨E, a1, b1, c1, d1, hP, hsl⟩
  refine InBlk.hit ?_
  refine Then.n ?_
  refine AW.weak (fr_all hsl) ?_
  clear hsl
  have hPl := hP.len
  have hok := hP.okb
  have rB : ∀ T, RdL (M ++ T) (m.length + 3) 0 [.int .i64 a1, .int .i64 b1, .int .i64 c1, .int .i64 d1] := fun T => RdL.old T ⟨_, hP.box, fun j v hj => by rw [Nat.zero_add]; exact hj⟩
  rw [← List.append_nil M]
  (repeat (first|(with_reducible refine AWo.cons ?_)|((with_reducible refine Step.id ?_);first|((with_reducible apply Step.move);exact rfl;exact rfl)|((with_reducible apply Step.loadL (n := 4));exact rfl;((decide +kernel));((decide +kernel));exact rfl;((exact rB _));exact rfl;exact rfl)|((with_reducible apply Step.len);exact rfl;((exact Sl.mk (by omega)));((decide +kernel));exact rfl)|((with_reducible apply Step.callR fit);exact rfl;exact Tryd.func68;exact rfl;exact rfl;exact (Rect_ok (by omega)))|((with_reducible apply Step.alloc 0);exact rfl;exact zp49;exact rfl;((first|(simp only [zq7, zq8, zq9, zq0, iv_set, bv_set, iv_rep, bv_rep] <;> rfl)|rfl)))|((with_reducible apply Step.storeA (k := 0) (n := 7));exact rfl;exact rfl;exact rfl;exact rfl;((decide +kernel));exact rfl;((kernel_rfl));exact rfl;((first|(simp only [zq7, zq8, zq9, zq0, iv_set, bv_set, iv_rep, bv_rep] <;> rfl)|rfl)))|((with_reducible apply Step.build);exact rfl;exact bl49;exact rfl))|(with_reducible first|apply AWo.nil|apply AW.seq|apply Then.n|apply AW.regL|apply AW.block)))
  obtain ⟨Y, hY⟩ : ∃ Y : AM, Y = M ++ [some { cells := pc l.length 0 0 a1 b1 (c1 - a1 + 1) (d1 - b1 + 1) }] := ⟨_, rfl⟩
  have hPY : PS m Y E a1 b1 c1 d1 := by rw [hY]; exact hP.old _
  have hpb0 : Y[M.length + 0]? = some (some { cells := pc l.length 0 0 a1 b1 (c1 - a1 + 1) (d1 - b1 + 1) }) := by rw [hY, get_app]; rfl
  have hpg : m.length + 4 ≤ M.length + 0 := hPl
  rw [show (M ++ [some { cells := (Value.agg #[.int .i64 (l.length : Int), .int .i64 0, .int .i64 0, .int .i64 a1, .int .i64 b1, .int .i64 (c1 - a1 + 1), .int .i64 (d1 - b1 + 1)]).cells.toList }] : AM) = Y from hY.symm]
  clear hY rB hP hPl
  generalize M.length + 0 = pb at *
  generalize c1 - a1 + 1 = w1 at *
  generalize d1 - b1 + 1 = z1 at *
  clear M
  refine AW.midX 2 (fun t' M => ∃ e : Int, PS m M E a1 b1 c1 d1 ∧ M[pb]? = some (some { cells := pc l.length e 0 a1 b1 w1 z1 }) ∧ All (fun i v => t' i = some v) [(2, .pointer (some ⟨m.length + 0, 0, none⟩)), (3, .pointer (some ⟨m.length + 2, 0, none⟩)), (4, .pointer (some ⟨m.length + 3, 0, none⟩)), (7, .pointer (some ⟨pb, 0, none⟩))]) ?_ ?_
  ·refine AW.loopW (fun z t M => ∃ (i : Nat) (e : Int), z = l.length - i ∧ i ≤ l.length ∧ 0 ≤ e ∧ e ≤ 4 * i ∧ PS m M E a1 b1 c1 d1 ∧ M[pb]? = some (some { cells := pc l.length e 0 a1 b1 w1 z1 }) ∧
    t = fr [(0, .slice (some ⟨a, 0, none⟩) l.length l.length), (2, .pointer (some ⟨m.length + 0, 0, none⟩)), (3, .pointer (some ⟨m.length + 2, 0, none⟩)), (4, .pointer (some ⟨m.length + 3, 0, none⟩)), (7, .pointer (some ⟨pb, 0, none⟩)), (39, .slice (some ⟨a, 0, none⟩) l.length l.length), (40, .int .i64 (l.length : Int)), (41, .int .i64 ((i : Nat) : Int))]) ⟨_, [(0, .slice (some ⟨a, 0, none⟩) l.length l.length), (2, .pointer (some ⟨m.length + 0, 0, none⟩)), (3, .pointer (some ⟨m.length + 2, 0, none⟩)), (4, .pointer (some ⟨m.length + 3, 0, none⟩)), (7, .pointer (some ⟨pb, 0, none⟩)), (39, .slice (some ⟨a, 0, none⟩) l.length l.length), (40, .int .i64 (l.length : Int)), (41, .int .i64 ((0 : Nat) : Int))], (by repeat (first | exact trivial | (refine And.intro rfl ?_))), 0, 0, rfl, Nat.zero_le _, by omega, by omega, hPY, hpb0, rfl⟩ ?_
   clear hPY hpb0
   rintro z t M ⟨i, e, rfl, hi, he0, he1, hP, hp, rfl⟩
   have hPl := hP.len
   rcases Nat.lt_or_ge i l.length with hlt | hge
   ·obtain ⟨c, hc⟩ : ∃ c, l[i]? = some c := ⟨_, List.getElem?_eq_getElem hlt⟩
    have hcb := hb c (List.mem_of_getElem? hc)
    have rc : ∀ T, RdL (M ++ T) a (i * 2) [.int .i64 c.1, .int .i64 c.2] := fun T => RdL.old T ⟨_, (hP.keep a hal).trans hl, fun j v hj => cellcs_get hc j v hj⟩
    refine AW.rebase ?_
    (repeat (first|(with_reducible refine AWo.cons ?_)|((with_reducible refine Step.id ?_);first|((with_reducible apply Step.move);exact rfl;exact rfl)|((with_reducible apply Step.loadL (n := 2));exact rfl;((decide +kernel));((decide +kernel));exact rfl;((first|exact RdL.new rfl rfl|exact rc _));exact rfl;exact rfl)|((with_reducible apply Step.ixz (s := 2));exact rfl;((exact Sl.mk (by omega)));exact rfl;((decide +kernel));exact rfl;((omega)))|((with_reducible apply Step.lss);exact rfl;exact rfl;exact rfl)|((with_reducible apply Step.callR fit);exact rfl;exact Tryd.func69;exact rfl;exact rfl;exact (Sides_ok ⟨by omega, by omega, by omega, by omega⟩))|((with_reducible apply Step.alloc 0);exact rfl;exact zc88;exact rfl;((first|(simp only [zq7, zq8, zq9, zq0, iv_set, bv_set, iv_rep, bv_rep] <;> rfl)|rfl)))|((with_reducible apply Step.storeA (k := 0) (n := 2));exact rfl;exact rfl;exact rfl;exact rfl;((decide +kernel));exact rfl;((kernel_rfl));exact rfl;((first|(simp only [zq7, zq8, zq9, zq0, iv_set, bv_set, iv_rep, bv_rep] <;> rfl)|rfl))))|(with_reducible first|apply AWo.nil|apply AW.seq|apply Then.n|apply AW.regL|apply AW.block|apply AW.skip)|((with_reducible apply AW.condT);exact rfl;(((simp only [zq1, zq2, zq3, zq4, zq5, zq6];first|assumption|omega))))))
    refine AW.midX 4 (fun t' M => ∃ e : Int, 0 ≤ e ∧ e ≤ 4 * (i + 1) ∧ PS m M E a1 b1 c1 d1 ∧ M[pb]? = some (some { cells := pc l.length e 0 a1 b1 w1 z1 }) ∧ All (fun i v => t' i = some v) [(0, .slice (some ⟨a, 0, none⟩) l.length l.length), (2, .pointer (some ⟨m.length + 0, 0, none⟩)), (3, .pointer (some ⟨m.length + 2, 0, none⟩)), (4, .pointer (some ⟨m.length + 3, 0, none⟩)), (7, .pointer (some ⟨pb, 0, none⟩)), (39, .slice (some ⟨a, 0, none⟩) l.length l.length), (40, .int .i64 (l.length : Int)), (41, .int .i64 ((i : Nat) : Int))]) ?_ ?_
    ·refine AW.loopW (fun z t M => ∃ (j : Nat) (e : Int), z = 4 - j ∧ j ≤ 4 ∧ 0 ≤ e ∧ e ≤ 4 * i + j ∧ PS m M E a1 b1 c1 d1 ∧ M[pb]? = some (some { cells := pc l.length e 0 a1 b1 w1 z1 }) ∧
      t = fr [(0, .slice (some ⟨a, 0, none⟩) l.length l.length), (2, .pointer (some ⟨m.length + 0, 0, none⟩)), (3, .pointer (some ⟨m.length + 2, 0, none⟩)), (4, .pointer (some ⟨m.length + 3, 0, none⟩)), (7, .pointer (some ⟨pb, 0, none⟩)), (39, .slice (some ⟨a, 0, none⟩) l.length l.length), (40, .int .i64 (l.length : Int)), (41, .int .i64 ((i : Nat) : Int)), (46, .agg (cellcs (adj (c.1, c.2))).toArray), (47, .int .i64 ((j : Nat) : Int))]) ⟨_, [(0, .slice (some ⟨a, 0, none⟩) l.length l.length), (2, .pointer (some ⟨m.length + 0, 0, none⟩)), (3, .pointer (some ⟨m.length + 2, 0, none⟩)), (4, .pointer (some ⟨m.length + 3, 0, none⟩)), (7, .pointer (some ⟨pb, 0, none⟩)), (39, .slice (some ⟨a, 0, none⟩) l.length l.length), (40, .int .i64 (l.length : Int)), (41, .int .i64 ((i : Nat) : Int)), (46, .agg (cellcs (adj (c.1, c.2))).toArray), (47, .int .i64 ((0 : Nat) : Int))], (by repeat (first | exact trivial | (refine And.intro rfl ?_))), 0, e, rfl, Nat.zero_le _, he0, by omega, hP.old _, get_old _ hp, rfl⟩ ?_
     clear hp hP hPl rc he0 he1 e
     rintro z t M ⟨j, e, rfl, hj, he0, he1, hP, hp, rfl⟩
     have hPl := hP.len
     have r1 : ∀ T, Rd (M ++ T) (m.length + 2) 0 (.map (some (m.length + 1))) := fun T => Rd.old T ⟨_, hP.bx, rfl⟩
     have re : ∀ T, Rd (M ++ T) pb (0 + 1) (.int .i64 e) := fun T => Rd.old T ⟨_, hp, rfl⟩
     rcases Nat.lt_or_ge j 4 with hj4 | hj4
     ·obtain ⟨d, hd⟩ : ∃ d, (adj (c.1, c.2))[j]? = some d := ⟨_, List.getElem?_eq_getElem (by simpa [adj] using hj4)⟩
      refine AW.rebase ?_
      (repeat (first|(with_reducible refine AWo.cons ?_)|((with_reducible refine Step.id ?_);((with_reducible apply Step.lss);exact rfl;exact rfl;exact rfl))|(with_reducible first|apply AWo.nil|apply AW.seq|apply Then.n|apply AW.regL|apply AW.block|apply AW.skip)|((with_reducible apply AW.condT);exact rfl;(((simp only [zq1, zq2, zq3, zq4, zq5, zq6];first|assumption|omega))))))
      ((with_reducible apply Step.indexW (k := j) (s := 2) (n := 4) (v := [.int .i64 d.1, .int .i64 d.2]));exact rfl;exact rfl;exact un130;exact sz88;exact ag88;exact hj4;exact (cellcs_drop hd);exact rfl)
      (repeat (first|(with_reducible refine AWo.cons ?_)|((with_reducible refine Step.id ?_);first|((with_reducible apply Step.load);exact rfl;((decide +kernel));exact rfl;((exact r1 _)))|((with_reducible apply Step.loadL (n := 2));exact rfl;((decide +kernel));((decide +kernel));exact rfl;((exact RdL.new rfl rfl));exact rfl;exact rfl)|((with_reducible apply Step.alloc 0);exact rfl;exact zc88;exact rfl;((first|(simp only [zq7, zq8, zq9, zq0, iv_set, bv_set, iv_rep, bv_rep] <;> rfl)|rfl)))|((with_reducible apply Step.storeA (k := 0) (n := 2));exact rfl;exact rfl;exact rfl;exact rfl;((decide +kernel));exact rfl;((kernel_rfl));exact rfl;((first|(simp only [zq7, zq8, zq9, zq0, iv_set, bv_set, iv_rep, bv_rep] <;> rfl)|rfl))))|(with_reducible first|apply AWo.nil|apply AW.seq|apply Then.n|apply AW.regL)))
      ((with_reducible apply Step.mapLook (k := d));exact rfl;exact rfl;exact (get_old _ hP.map);exact rfl)
      cases hv : valE E d with
      | true =>
       (repeat (first|(with_reducible refine AWo.cons ?_)|((with_reducible refine Step.id ?_);first|((with_reducible apply Step.move);exact rfl;exact rfl)|((with_reducible apply Step.add);exact rfl;exact rfl;((omega));exact rfl)|((with_reducible apply Step.not);exact rfl;exact rfl))|(with_reducible first|apply AWo.nil|apply Then.n|apply AW.regL|apply InBlk.n|apply AW.skip)|((with_reducible apply AW.condF);exact rfl;((rfl)))))
       exact ⟨_, [(0, .slice (some ⟨a, 0, none⟩) l.length l.length), (2, .pointer (some ⟨m.length + 0, 0, none⟩)), (3, .pointer (some ⟨m.length + 2, 0, none⟩)), (4, .pointer (some ⟨m.length + 3, 0, none⟩)), (7, .pointer (some ⟨pb, 0, none⟩)), (39, .slice (some ⟨a, 0, none⟩) l.length l.length), (40, .int .i64 (l.length : Int)), (41, .int .i64 ((i : Nat) : Int)), (46, .agg (cellcs (adj (c.1, c.2))).toArray), (47, .int .i64 ((j + 1 : Nat) : Int))], by omega, (by repeat (first | exact trivial | (refine And.intro rfl ?_))), j + 1, e, rfl, by omega, he0, by omega, hP.old _, get_old _ hp, rfl⟩
      | false =>
       (repeat (first|(with_reducible refine AWo.cons ?_)|((with_reducible refine Step.id ?_);first|((with_reducible apply Step.load);exact rfl;((decide +kernel));exact rfl;((exact re _)))|((with_reducible apply Step.field (k := 1));exact rfl;((decide +kernel));exact rfl)|((with_reducible apply Step.add);exact rfl;exact rfl;((omega));exact rfl)|((with_reducible apply Step.not);exact rfl;exact rfl))|(with_reducible first|apply AWo.nil|apply Then.n|apply AW.regL)|((with_reducible apply AW.condT);exact rfl;((rfl)))))
       ((with_reducible apply Step.storeAt);exact rfl;exact rfl;exact (get_old _ hp);((kernel_rfl));exact rfl;((show 0 + 1 < 7;decide));exact rfl;exact rfl)
       rw [set_old (List.getElem?_eq_some_iff.1 hp).1]
       obtain ⟨g1, g2⟩ := hP.other hpg hp (pc l.length (e + 1) 0 a1 b1 w1 z1)
       rw [show List.set (pc l.length e 0 a1 b1 w1 z1) (0 + 1) (.int .i64 (e + 1)) = pc l.length (e + 1) 0 a1 b1 w1 z1 from rfl]
       generalize List.set M pb (some { cells := pc l.length (e + 1) 0 a1 b1 w1 z1 }) = M2 at *
       (repeat (first|(with_reducible refine AWo.cons ?_)|((with_reducible refine Step.id ?_);first|((with_reducible apply Step.move);exact rfl;exact rfl)|((with_reducible apply Step.add);exact rfl;exact rfl;((omega));exact rfl))|(with_reducible first|apply AWo.nil|apply Then.n|apply AW.regL|apply InBlk.n)))
       exact ⟨_, [(0, .slice (some ⟨a, 0, none⟩) l.length l.length), (2, .pointer (some ⟨m.length + 0, 0, none⟩)), (3, .pointer (some ⟨m.length + 2, 0, none⟩)), (4, .pointer (some ⟨m.length + 3, 0, none⟩)), (7, .pointer (some ⟨pb, 0, none⟩)), (39, .slice (some ⟨a, 0, none⟩) l.length l.length), (40, .int .i64 (l.length : Int)), (41, .int .i64 ((i : Nat) : Int)), (46, .agg (cellcs (adj (c.1, c.2))).toArray), (47, .int .i64 ((j + 1 : Nat) : Int))], by omega, (by repeat (first | exact trivial | (refine And.intro rfl ?_))), j + 1, e + 1, rfl, by omega, by omega, by omega, g1.old _, get_old _ g2, rfl⟩
     ·obtain rfl : j = 4 := by omega
      refine AW.rebase ?_
      (repeat (first|(with_reducible refine AWo.cons ?_)|((with_reducible refine Step.id ?_);((with_reducible apply Step.lss);exact rfl;exact rfl;exact rfl))|(with_reducible first|apply AWo.nil|apply AW.seq|apply Then.n|apply AW.regL|apply AW.exit|apply Then.e)|((with_reducible apply AW.condF);exact rfl;((rfl)))))
      exact ⟨rfl, e, he0, by omega, hP.old _, get_old _ hp, (by repeat (first | exact trivial | (refine And.intro rfl ?_)))⟩
    ·clear hp hP hPl rc he0 he1 e
     rintro t' M ⟨e, he0, he1, hP, hp, hsl⟩
     refine InBlk.hit ?_
     refine InBlk.n ?_
     refine Then.n ?_
     refine AW.weak (fr_all hsl) ?_
     clear hsl
     rw [← List.append_nil M]
     (repeat (first|(with_reducible refine AWo.cons ?_)|((with_reducible refine Step.id ?_);first|((with_reducible apply Step.move);exact rfl;exact rfl)|((with_reducible apply Step.add);exact rfl;exact rfl;((omega));exact rfl))|(with_reducible first|apply AWo.nil|apply Then.n|apply AW.regL)))
     exact ⟨_, [(0, .slice (some ⟨a, 0, none⟩) l.length l.length), (2, .pointer (some ⟨m.length + 0, 0, none⟩)), (3, .pointer (some ⟨m.length + 2, 0, none⟩)), (4, .pointer (some ⟨m.length + 3, 0, none⟩)), (7, .pointer (some ⟨pb, 0, none⟩)), (39, .slice (some ⟨a, 0, none⟩) l.length l.length), (40, .int .i64 (l.length : Int)), (41, .int .i64 ((i + 1 : Nat) : Int))], by omega, (by repeat (first | exact trivial | (refine And.intro rfl ?_))), i + 1, e, rfl, by omega, he0, by omega, hP.old _, get_old _ hp, rfl⟩
   ·obtain rfl : i = l.length := by omega
    refine AW.rebase ?_
    (repeat (first|(with_reducible refine AWo.cons ?_)|((with_reducible refine Step.id ?_);((with_reducible apply Step.lss);exact rfl;exact rfl;exact rfl))|(with_reducible first|apply AWo.nil|apply AW.seq|apply Then.n|apply AW.regL|apply AW.exit|apply Then.e)|((with_reducible apply AW.condF);exact rfl;(((simp only [zq1, zq2, zq3, zq4, zq5, zq6];first|assumption|omega))))))
    exact ⟨rfl, e, hP.old _, get_old _ hp, (by repeat (first | exact trivial | (refine And.intro rfl ?_)))⟩
  ·rintro t' M ⟨e, hP, hp, hsl⟩
   refine InBlk.hit ?_
   refine Then.n ?_
   refine AW.weak (fr_all hsl) ?_
   clear hsl
   have hPl := hP.len
   have rB : ∀ T, Rd (M ++ T) (m.length + 3) (0 + 0) (.int .i64 a1) ∧ Rd (M ++ T) (m.length + 3) (0 + 1) (.int .i64 b1) := fun T => ⟨Rd.old T ⟨_, hP.box, rfl⟩, Rd.old T ⟨_, hP.box, rfl⟩⟩
   rw [← List.append_nil M]
   (repeat (first|(with_reducible refine AWo.cons ?_)|(with_reducible first|apply AW.seq|apply AW.regL)))
   ((with_reducible apply Step.newMap 0);exact rfl;exact rfl;exact rfl)
   (repeat (first|(with_reducible refine AWo.cons ?_)|((with_reducible refine Step.id ?_);first|((with_reducible apply Step.move);exact rfl;exact rfl)|((with_reducible apply Step.assign);exact rfl;exact rfl)|((with_reducible apply Step.load);exact rfl;((decide +kernel));exact rfl;((first|exact (rB _).1|exact (rB _).2)))|((with_reducible apply Step.field0);exact rfl;((decide +kernel));exact rfl)|((with_reducible apply Step.field (k := 1));exact rfl;((decide +kernel));exact rfl)|((with_reducible apply Step.sub);exact rfl;exact rfl;((omega));exact rfl)|((with_reducible apply Step.fn);exact rfl;exact rfl;exact rfl)|((with_reducible apply Step.build);exact rfl;exact bl88;exact rfl))|(with_reducible first|apply AWo.nil|apply AW.seq|apply Then.n|apply AW.regL)))
   have hok := hP.okb
   have hpl := (List.getElem?_eq_some_iff.1 hp).1
   ((with_reducible apply Step.callF fit);exact rfl;exact Tryd.func42;exact rfl;exact rfl;exact (FloodN_ok (hP.old _) (get_app M [some (mapB [])] 0) (by omega) rfl (by omega)))
   rintro _ M1 ⟨S, hP1, hs1, hl1, hk1⟩
   have hp1 : M1[pb]? = some (some { cells := pc l.length e 0 a1 b1 w1 z1 }) := by
    rw [hk1 pb (by rw [List.length_append]; omega) (by omega)]
    exact get_old _ hp
   have hsg : m.length + 4 ≤ M.length + 0 := hPl
   have hsp : M.length + 0 ≠ pb := by omega
   clear hk1 hl1 rB hP hp hPl hpl
   generalize M.length + 0 = sq at *
   clear M
   have rB1 : ∀ T, Rd (M1 ++ T) (m.length + 3) (0 + 1) (.int .i64 b1) := fun T => Rd.old T ⟨_, hP1.box, rfl⟩
   rw [← List.append_nil M1]
   (repeat (first|(with_reducible refine AWo.cons ?_)|((with_reducible refine Step.id ?_);first|((with_reducible apply Step.assign);exact rfl;exact rfl)|((with_reducible apply Step.load);exact rfl;((decide +kernel));exact rfl;((exact rB1 _)))|((with_reducible apply Step.field (k := 1));exact rfl;((decide +kernel));exact rfl))|(with_reducible first|apply AWo.nil|apply AW.seq|apply Then.n|apply AW.regL|apply AW.block)))
   refine AW.midX 6 (fun t' M => ∃ h : Int, PS m M E a1 b1 c1 d1 ∧ M[pb]? = some (some { cells := pc l.length e h a1 b1 w1 z1 }) ∧ All (fun i v => t' i = some v) [(2, .pointer (some ⟨m.length + 0, 0, none⟩)), (7, .pointer (some ⟨pb, 0, none⟩))]) ?_ ?_
   ·refine AW.loopW (fun z t M => ∃ (y h : Int) (S : Ents), z = (d1 + 1 - y).toNat ∧ -1 ≤ y ∧ y ≤ 49 ∧ 0 ≤ h ∧ h ≤ 60 * (y + 1) ∧ PS m M E a1 b1 c1 d1 ∧ M[pb]? = some (some { cells := pc l.length e h a1 b1 w1 z1 }) ∧ M[sq]? = some (some (mapB S)) ∧
     t = fr [(2, .pointer (some ⟨m.length + 0, 0, none⟩)), (3, .pointer (some ⟨m.length + 2, 0, none⟩)), (4, .pointer (some ⟨m.length + 3, 0, none⟩)), (7, .pointer (some ⟨pb, 0, none⟩)), (12, .map (some sq)), (13, .func (.func 70) #[] #[.pointer (some ⟨m.length + 2, 0, none⟩), .pointer (some ⟨m.length + 3, 0, none⟩)]), (14, .int .i64 y)]) ⟨_, [(2, .pointer (some ⟨m.length + 0, 0, none⟩)), (3, .pointer (some ⟨m.length + 2, 0, none⟩)), (4, .pointer (some ⟨m.length + 3, 0, none⟩)), (7, .pointer (some ⟨pb, 0, none⟩)), (12, .map (some sq)), (13, .func (.func 70) #[] #[.pointer (some ⟨m.length + 2, 0, none⟩), .pointer (some ⟨m.length + 3, 0, none⟩)]), (14, .int .i64 b1)], (by repeat (first | exact trivial | (refine And.intro rfl ?_))), b1, 0, S, rfl, by omega, by omega, by omega, by omega, hP1.old _, get_old _ hp1, get_old _ hs1, rfl⟩ ?_
    clear hP1 hp1 hs1 rB1 S M1
    rintro z t M ⟨y, h, S, rfl, hy0, hy1, hh0, hh1, hP, hp, hs, rfl⟩
    have rB : ∀ T, Rd (M ++ T) (m.length + 3) (0 + 0) (.int .i64 a1) ∧ Rd (M ++ T) (m.length + 3) (0 + 3) (.int .i64 d1) := fun T => ⟨Rd.old T ⟨_, hP.box, rfl⟩, Rd.old T ⟨_, hP.box, rfl⟩⟩
    by_cases hyd : y ≤ d1
    ·refine AW.rebase ?_
     (repeat (first|(with_reducible refine AWo.cons ?_)|((with_reducible refine Step.id ?_);first|((with_reducible apply Step.move);exact rfl;exact rfl)|((with_reducible apply Step.assign);exact rfl;exact rfl)|((with_reducible apply Step.load);exact rfl;((decide +kernel));exact rfl;((first|exact (rB _).1|exact (rB _).2)))|((with_reducible apply Step.field0);exact rfl;((decide +kernel));exact rfl)|((with_reducible apply Step.field (k := 3));exact rfl;((decide +kernel));exact rfl)|((with_reducible apply Step.leq);exact rfl;exact rfl;exact rfl))|(with_reducible first|apply AWo.nil|apply AW.seq|apply Then.n|apply AW.regL|apply AW.block|apply AW.skip)|((with_reducible apply AW.condT);exact rfl;(((simp only [zq1, zq2, zq3, zq4, zq5, zq6];first|assumption|omega))))))
     refine AW.midX 8 (fun t' M => ∃ (h : Int) (S : Ents), 0 ≤ h ∧ h ≤ 60 * (y + 2) ∧ PS m M E a1 b1 c1 d1 ∧ M[pb]? = some (some { cells := pc l.length e h a1 b1 w1 z1 }) ∧ M[sq]? = some (some (mapB S)) ∧ All (fun i v => t' i = some v) [(2, .pointer (some ⟨m.length + 0, 0, none⟩)), (3, .pointer (some ⟨m.length + 2, 0, none⟩)), (4, .pointer (some ⟨m.length + 3, 0, none⟩)), (7, .pointer (some ⟨pb, 0, none⟩)), (12, .map (some sq)), (13, .func (.func 70) #[] #[.pointer (some ⟨m.length + 2, 0, none⟩), .pointer (some ⟨m.length + 3, 0, none⟩)]), (14, .int .i64 y)]) ?_ ?_
     ·refine AW.loopW (fun z t M => ∃ (x h : Int) (S : Ents), z = (c1 + 1 - x).toNat ∧ -1 ≤ x ∧ x ≤ 49 ∧ 0 ≤ h ∧ h ≤ 60 * (y + 1) + (x + 1) ∧ PS m M E a1 b1 c1 d1 ∧ M[pb]? = some (some { cells := pc l.length e h a1 b1 w1 z1 }) ∧ M[sq]? = some (some (mapB S)) ∧
       t = fr [(2, .pointer (some ⟨m.length + 0, 0, none⟩)), (3, .pointer (some ⟨m.length + 2, 0, none⟩)), (4, .pointer (some ⟨m.length + 3, 0, none⟩)), (7, .pointer (some ⟨pb, 0, none⟩)), (12, .map (some sq)), (13, .func (.func 70) #[] #[.pointer (some ⟨m.length + 2, 0, none⟩), .pointer (some ⟨m.length + 3, 0, none⟩)]), (14, .int .i64 y), (15, .int .i64 x)]) ⟨_, [(2, .pointer (some ⟨m.length + 0, 0, none⟩)), (3, .pointer (some ⟨m.length + 2, 0, none⟩)), (4, .pointer (some ⟨m.length + 3, 0, none⟩)), (7, .pointer (some ⟨pb, 0, none⟩)), (12, .map (some sq)), (13, .func (.func 70) #[] #[.pointer (some ⟨m.length + 2, 0, none⟩), .pointer (some ⟨m.length + 3, 0, none⟩)]), (14, .int .i64 y), (15, .int .i64 a1)], (by repeat (first | exact trivial | (refine And.intro rfl ?_))), a1, h, S, rfl, by omega, by omega, by omega, by omega, hP.old _, get_old _ hp, get_old _ hs, rfl⟩ ?_
      clear hP hp hs rB S hh0 hh1 h
      rintro z t M ⟨x, h, S, rfl, hx0, hx1, hh0, hh1, hP, hp, hs, rfl⟩
      have hPl := hP.len
      have rB : ∀ T, Rd (M ++ T) (m.length + 3) (0 + 2) (.int .i64 c1) := fun T => Rd.old T ⟨_, hP.box, rfl⟩
      have r1 : ∀ T, Rd (M ++ T) (m.length + 2) 0 (.map (some (m.length + 1))) := fun T => Rd.old T ⟨_, hP.bx, rfl⟩
      by_cases hxc : x ≤ c1
      ·refine AW.rebase ?_
       (repeat (first|(with_reducible refine AWo.cons ?_)|((with_reducible refine Step.id ?_);first|((with_reducible apply Step.move);exact rfl;exact rfl)|((with_reducible apply Step.load);exact rfl;((decide +kernel));exact rfl;((first|exact rB _|exact r1 _)))|((with_reducible apply Step.loadL (n := 2));exact rfl;((decide +kernel));((decide +kernel));exact rfl;((exact RdL.new rfl rfl));exact rfl;exact rfl)|((with_reducible apply Step.field (k := 2));exact rfl;((decide +kernel));exact rfl)|((with_reducible apply Step.leq);exact rfl;exact rfl;exact rfl)|((with_reducible apply Step.alloc 0);exact rfl;exact zc88;exact rfl;((first|(simp only [zq7, zq8, zq9, zq0, iv_set, bv_set, iv_rep, bv_rep] <;> rfl)|rfl)))|((with_reducible apply Step.storeA (k := 0) (n := 2));exact rfl;exact rfl;exact rfl;exact rfl;((decide +kernel));exact rfl;((kernel_rfl));exact rfl;((first|(simp only [zq7, zq8, zq9, zq0, iv_set, bv_set, iv_rep, bv_rep] <;> rfl)|rfl)))|((with_reducible apply Step.build);exact rfl;exact bl88;exact rfl))|(with_reducible first|apply AWo.nil|apply AW.seq|apply Then.n|apply AW.regL|apply AW.block|apply AW.skip)|((with_reducible apply AW.condT);exact rfl;(((simp only [zq1, zq2, zq3, zq4, zq5, zq6];first|assumption|omega))))))
       ((with_reducible apply Step.mapLook (k := (x, y)));exact rfl;exact rfl;exact (get_old _ hP.map);exact rfl)
       cases hv : valE E (x, y) with
       | true =>
        (repeat (first|(with_reducible refine AWo.cons ?_)|((with_reducible refine Step.id ?_);first|((with_reducible apply Step.gdF);exact rfl;exact rfl;((rfl)))|((with_reducible apply Step.move);exact rfl;exact rfl)|((with_reducible apply Step.assign);exact rfl;exact rfl)|((with_reducible apply Step.add);exact rfl;exact rfl;((omega));exact rfl)|((with_reducible apply Step.not);exact rfl;exact rfl)|((with_reducible apply Step.pickF);exact rfl;exact rfl;exact rfl;exact rfl;((rfl))))|(with_reducible first|apply AWo.nil|apply Then.n|apply AW.regL|apply InBlk.n|apply AW.skip)|((with_reducible apply AW.condF);exact rfl;((rfl)))))
        exact ⟨_, [(2, .pointer (some ⟨m.length + 0, 0, none⟩)), (3, .pointer (some ⟨m.length + 2, 0, none⟩)), (4, .pointer (some ⟨m.length + 3, 0, none⟩)), (7, .pointer (some ⟨pb, 0, none⟩)), (12, .map (some sq)), (13, .func (.func 70) #[] #[.pointer (some ⟨m.length + 2, 0, none⟩), .pointer (some ⟨m.length + 3, 0, none⟩)]), (14, .int .i64 y), (15, .int .i64 (x + 1))], by omega, (by repeat (first | exact trivial | (refine And.intro rfl ?_))), x + 1, h, S, rfl, by omega, by omega, hh0, by omega, hP.old _, get_old _ hp, get_old _ hs, rfl⟩
       | false =>
        (repeat (first|(with_reducible refine AWo.cons ?_)|((with_reducible refine Step.id ?_);first|((with_reducible apply Step.gdT);exact rfl;exact rfl;((rfl)))|((with_reducible apply Step.move);exact rfl;exact rfl)|((with_reducible apply Step.loadL (n := 2));exact rfl;((decide +kernel));((decide +kernel));exact rfl;((exact RdL.new rfl rfl));exact rfl;exact rfl)|((with_reducible apply Step.not);exact rfl;exact rfl))))
        ((with_reducible apply Step.mapLook (k := (x, y)));exact rfl;exact rfl;exact (get_old _ hs);exact rfl)
        cases hv2 : valE S (x, y) with
        | true =>
         (repeat (first|(with_reducible refine AWo.cons ?_)|((with_reducible refine Step.id ?_);first|((with_reducible apply Step.gdT);exact rfl;exact rfl;((rfl)))|((with_reducible apply Step.move);exact rfl;exact rfl)|((with_reducible apply Step.assign);exact rfl;exact rfl)|((with_reducible apply Step.add);exact rfl;exact rfl;((omega));exact rfl)|((with_reducible apply Step.not);exact rfl;exact rfl)|((with_reducible apply Step.pickT);exact rfl;exact rfl;exact rfl;exact rfl;((rfl))))|(with_reducible first|apply AWo.nil|apply Then.n|apply AW.regL|apply InBlk.n|apply AW.skip)|((with_reducible apply AW.condF);exact rfl;((rfl)))))
         exact ⟨_, [(2, .pointer (some ⟨m.length + 0, 0, none⟩)), (3, .pointer (some ⟨m.length + 2, 0, none⟩)), (4, .pointer (some ⟨m.length + 3, 0, none⟩)), (7, .pointer (some ⟨pb, 0, none⟩)), (12, .map (some sq)), (13, .func (.func 70) #[] #[.pointer (some ⟨m.length + 2, 0, none⟩), .pointer (some ⟨m.length + 3, 0, none⟩)]), (14, .int .i64 y), (15, .int .i64 (x + 1))], by omega, (by repeat (first | exact trivial | (refine And.intro rfl ?_))), x + 1, h, S, rfl, by omega, by omega, hh0, by omega, hP.old _, get_old _ hp, get_old _ hs, rfl⟩
        | false =>
         have re : ∀ T, Rd (M ++ T) pb (0 + 2) (.int .i64 h) := fun T => Rd.old T ⟨_, hp, rfl⟩
         have hpl := (List.getElem?_eq_some_iff.1 hp).1
         (repeat (first|(with_reducible refine AWo.cons ?_)|((with_reducible refine Step.id ?_);first|((with_reducible apply Step.gdT);exact rfl;exact rfl;((rfl)))|((with_reducible apply Step.load);exact rfl;((decide +kernel));exact rfl;((exact re _)))|((with_reducible apply Step.field (k := 2));exact rfl;((decide +kernel));exact rfl)|((with_reducible apply Step.add);exact rfl;exact rfl;((omega));exact rfl)|((with_reducible apply Step.not);exact rfl;exact rfl)|((with_reducible apply Step.pickT);exact rfl;exact rfl;exact rfl;exact rfl;((rfl))))|(with_reducible first|apply AWo.nil|apply AW.seq|apply Then.n|apply AW.regL)|((with_reducible apply AW.condT);exact rfl;((rfl)))))
         ((with_reducible apply Step.storeAt);exact rfl;exact rfl;exact (get_old _ hp);((kernel_rfl));exact rfl;((show 0 + 2 < 7;decide));exact rfl;exact rfl)
         rw [set_old hpl]
         obtain ⟨g1, g2⟩ := hP.other hpg hp (pc l.length e (h + 1) a1 b1 w1 z1)
         have g3 : (List.set M pb (some { cells := pc l.length e (h + 1) a1 b1 w1 z1 }))[sq]? = some (some (mapB S)) := by rw [List.getElem?_set_ne (fun e => hsp e.symm)]; exact hs
         rw [show List.set (pc l.length e h a1 b1 w1 z1) (0 + 2) (.int .i64 (h + 1)) = pc l.length e (h + 1) a1 b1 w1 z1 from rfl]
         have rZ : ∀ T, RdL ((List.set M pb (some { cells := pc l.length e (h + 1) a1 b1 w1 z1 }) ++ [some { cells := [.int .i64 x, .int .i64 y] }]) ++ T) (M.length + 0) 0 [.int .i64 x, .int .i64 y] := fun T => RdL.old T (by
          rw [show M.length + 0 = (List.set M pb (some { cells := pc l.length e (h + 1) a1 b1 w1 z1 })).length + 0 by rw [List.length_set]]
          exact RdL.new rfl rfl)
         obtain ⟨Z, hZ⟩ : ∃ Z : AM, Z = List.set M pb (some { cells := pc l.length e (h + 1) a1 b1 w1 z1 }) ++ [some { cells := [.int .i64 x, .int .i64 y] }] := ⟨_, rfl⟩
         rw [← hZ] at rZ
         rw [show (List.set M pb (some { cells := pc l.length e (h + 1) a1 b1 w1 z1 }) ++ [some { cells := (Value.agg #[.int .i64 x, .int .i64 y]).cells.toList }] : AM) = Z from hZ.symm]
         have q1 : PS m Z E a1 b1 c1 d1 := by rw [hZ]; exact g1.old _
         have q2 : Z[pb]? = some (some { cells := pc l.length e (h + 1) a1 b1 w1 z1 }) := by rw [hZ]; exact get_old _ g2
         have q3 : Z[sq]? = some (some (mapB S)) := by rw [hZ]; exact get_old _ g3
         clear hZ g1 g2 g3
         generalize M.length + 0 = bz at *
         rw [← List.append_nil Z]
         (repeat (first|(with_reducible refine AWo.cons ?_)|((with_reducible refine Step.id ?_);first|((with_reducible apply Step.move);exact rfl;exact rfl)|((with_reducible apply Step.loadL (n := 2));exact rfl;((decide +kernel));((decide +kernel));exact rfl;((exact rZ _));exact rfl;exact rfl))|(with_reducible first|apply AWo.nil|apply Then.n|apply AW.regL)))
         have hpl2 := (List.getElem?_eq_some_iff.1 q2).1
         ((with_reducible apply Step.callF fit);exact rfl;exact Tryd.func42;exact rfl;exact rfl;exact (FloodN_ok (q1.old _) (get_old _ q3) hsg hv2 (by omega)))
         rintro _ M2 ⟨S2, u1, u2, u3, u4⟩
         have u5 : M2[pb]? = some (some { cells := pc l.length e (h + 1) a1 b1 w1 z1 }) := by rw [u4 pb (by rw [List.length_append]; omega) (fun e => hsp e.symm)]; exact get_old _ q2
         rw [← List.append_nil M2]
         (repeat (first|(with_reducible refine AWo.cons ?_)|((with_reducible refine Step.id ?_);first|((with_reducible apply Step.move);exact rfl;exact rfl)|((with_reducible apply Step.assign);exact rfl;exact rfl)|((with_reducible apply Step.add);exact rfl;exact rfl;((omega));exact rfl))|(with_reducible first|apply AWo.nil|apply Then.n|apply AW.regL|apply InBlk.n)))
         exact ⟨_, [(2, .pointer (some ⟨m.length + 0, 0, none⟩)), (3, .pointer (some ⟨m.length + 2, 0, none⟩)), (4, .pointer (some ⟨m.length + 3, 0, none⟩)), (7, .pointer (some ⟨pb, 0, none⟩)), (12, .map (some sq)), (13, .func (.func 70) #[] #[.pointer (some ⟨m.length + 2, 0, none⟩), .pointer (some ⟨m.length + 3, 0, none⟩)]), (14, .int .i64 y), (15, .int .i64 (x + 1))], by omega, (by repeat (first | exact trivial | (refine And.intro rfl ?_))), x + 1, h + 1, S2, rfl, by omega, by omega, by omega, by omega, u1.old _, get_old _ u5, get_old _ u2, rfl⟩
      ·refine AW.rebase ?_
       (repeat (first|(with_reducible refine AWo.cons ?_)|((with_reducible refine Step.id ?_);first|((with_reducible apply Step.move);exact rfl;exact rfl)|((with_reducible apply Step.load);exact rfl;((decide +kernel));exact rfl;((exact rB _)))|((with_reducible apply Step.field (k := 2));exact rfl;((decide +kernel));exact rfl)|((with_reducible apply Step.leq);exact rfl;exact rfl;exact rfl))|(with_reducible first|apply AWo.nil|apply AW.seq|apply Then.n|apply AW.regL|apply AW.exit|apply Then.e)|((with_reducible apply AW.condF);exact rfl;(((simp only [zq1, zq2, zq3, zq4, zq5, zq6];first|assumption|omega))))))
       exact ⟨rfl, h, S, hh0, by omega, hP.old _, get_old _ hp, get_old _ hs, (by repeat (first | exact trivial | (refine And.intro rfl ?_)))⟩
     ·clear hP hp hs rB S hh0 hh1 h
      rintro t' M ⟨h, S, hh0, hh1, hP, hp, hs, hsl⟩
      refine InBlk.hit ?_
      refine InBlk.n ?_
      refine Then.n ?_
      refine AW.weak (fr_all hsl) ?_
      clear hsl
      rw [← List.append_nil M]
      (repeat (first|(with_reducible refine AWo.cons ?_)|((with_reducible refine Step.id ?_);first|((with_reducible apply Step.move);exact rfl;exact rfl)|((with_reducible apply Step.assign);exact rfl;exact rfl)|((with_reducible apply Step.add);exact rfl;exact rfl;((omega));exact rfl))|(with_reducible first|apply AWo.nil|apply Then.n|apply AW.regL)))
      exact ⟨_, [(2, .pointer (some ⟨m.length + 0, 0, none⟩)), (3, .pointer (some ⟨m.length + 2, 0, none⟩)), (4, .pointer (some ⟨m.length + 3, 0, none⟩)), (7, .pointer (some ⟨pb, 0, none⟩)), (12, .map (some sq)), (13, .func (.func 70) #[] #[.pointer (some ⟨m.length + 2, 0, none⟩), .pointer (some ⟨m.length + 3, 0, none⟩)]), (14, .int .i64 (y + 1))], by omega, (by repeat (first | exact trivial | (refine And.intro rfl ?_))), y + 1, h, S, rfl, by omega, by omega, hh0, by omega, hP.old _, get_old _ hp, get_old _ hs, rfl⟩
    ·refine AW.rebase ?_
     (repeat (first|(with_reducible refine AWo.cons ?_)|((with_reducible refine Step.id ?_);first|((with_reducible apply Step.move);exact rfl;exact rfl)|((with_reducible apply Step.load);exact rfl;((decide +kernel));exact rfl;((exact (rB _).2)))|((with_reducible apply Step.field (k := 3));exact rfl;((decide +kernel));exact rfl)|((with_reducible apply Step.leq);exact rfl;exact rfl;exact rfl))|(with_reducible first|apply AWo.nil|apply AW.seq|apply Then.n|apply AW.regL|apply AW.exit|apply Then.e)|((with_reducible apply AW.condF);exact rfl;(((simp only [zq1, zq2, zq3, zq4, zq5, zq6];first|assumption|omega))))))
     exact ⟨rfl, h, hP.old _, get_old _ hp, (by repeat (first | exact trivial | (refine And.intro rfl ?_)))⟩
   ·clear hP1 hp1 hs1 rB1 S M1
    rintro t' M ⟨h, hP, hp, hsl⟩
    refine InBlk.hit ?_
    refine Then.n ?_
    refine AW.weak (fr_all hsl) ?_
    clear hsl
    have hPl := hP.len
    have rp : ∀ T, RdL (M ++ T) pb 0 [.int .i64 (l.length : Int), .int .i64 e, .int .i64 h, .int .i64 a1, .int .i64 b1, .int .i64 w1, .int .i64 z1] := fun T => RdL.old T ⟨_, hp, fun j v hj => by rw [Nat.zero_add]; exact hj⟩
    rw [← List.append_nil M]
    (repeat (first|(with_reducible refine AWo.cons ?_)|((with_reducible refine Step.id ?_);((with_reducible apply Step.loadL (n := 7));exact rfl;((decide +kernel));((decide +kernel));exact rfl;((exact rp _));exact rfl;exact rfl))|(with_reducible first|apply AW.seq|apply AW.regL)))
    ((with_reducible apply Step.storeL (v := pc l.length e h a1 b1 w1 z1));exact rfl;exact rfl;exact (get_old _ hP.res);exact rfl;exact sz49;exact rfl;exact rfl;exact (Nat.le_refl _))
    rw [List.append_nil]
    rw [show splice [Value.int .i64 0, .int .i64 0, .int .i64 0, .int .i64 0, .int .i64 0, .int .i64 0, .int .i64 0] 0 (pc l.length e h a1 b1 w1 z1) = pc l.length e h a1 b1 w1 z1 from rfl]
    have hre : ∀ T, RdL (List.set M (m.length + 0) (some { cells := pc l.length e h a1 b1 w1 z1 }) ++ T) (m.length + 0) 0 [.int .i64 (l.length : Int), .int .i64 e, .int .i64 h, .int .i64 a1, .int .i64 b1, .int .i64 w1, .int .i64 z1] := fun T => RdL.old T ⟨_, List.getElem?_set_self (by omega), fun j v hj => by rw [Nat.zero_add]; exact hj⟩
    obtain ⟨N, hN⟩ := pre_of (m := m) (M := List.set M (m.length + 0) (some { cells := pc l.length e h a1 b1 w1 z1 })) (by rw [List.length_set]; omega) fun j hj => by rw [List.getElem?_set_ne (by omega)]; exact hP.keep j hj
    generalize List.set M (m.length + 0) (some { cells := pc l.length e h a1 b1 w1 z1 }) = M2 at *
    rw [← List.append_nil M2]
    (repeat (first|(with_reducible first|apply AWo.nil|apply Then.n)))
    (refine AW.ret ?_; (repeat (first | refine Then.r ?_ | refine InBlk.r ?_)))
    exact ⟨_, ares_cell rfl rfl (by decide +kernel) (n := 7) (by decide +kernel) (hre _) rfl rfl, N, by rw [List.append_nil]; exact hN, e, h, a1, b1, w1, z1, rfl⟩
def PtL (B : Brd) (ls : List Cell) (c : List Value) : Prop := c.length = ls.length * 7 ∧ ∀ (k : Nat) (d : Cell), ls[k]? = some d → c[k * 7]? = some (.int .i64 (psz (usB B) (bw B) (bh B) d))
theorem PtL.app {B : Brd} {ls : List Cell} {c : List Value} (h : PtL B ls c) {d : Cell} {n e g x y w z : Int} (hn : n = psz (usB B) (bw B) (bh B) d) : PtL B (ls ++ [d]) (c ++ pc n e g x y w z) := by
 obtain ⟨h1, h2⟩ := h
 refine ⟨by simp [h1, pc]; omega, fun k d' hk => ?_⟩
 rcases Nat.lt_or_ge k ls.length with hl | hl
 ·rw [List.getElem?_append_left hl] at hk
  rw [List.getElem?_append_left (by omega)]
  exact h2 k d' hk
 ·have hk1 := (List.getElem?_eq_some_iff.1 hk).1
  obtain rfl : k = ls.length := by simp at hk1; omega
  rw [List.getElem?_append_right (Nat.le_refl _)] at hk
  simp at hk
  subst hk
  rw [List.getElem?_append_right (by omega), h1, Nat.sub_self, hn]
  rfl
def rowL (x : Nat) (y : Nat) : List Cell := (List.range x).map fun i => (((i : Nat) : Int), ((y : Nat) : Int))
theorem rowL_succ (x y : Nat) : rowL (x + 1) y = rowL x y ++ [((x : Int), (y : Int))] := by
 unfold rowL; rw [List.range_succ, List.map_append]; rfl
theorem cellsL_succ (w y : Nat) : cellsL w (y + 1) = cellsL w y ++ rowL w y := by
 unfold cellsL rowL
 rw [List.range_succ, List.flatMap_append]
 simp
theorem cellsL_len (w h : Nat) : (cellsL w h).length = w * h := by
 induction h with
 | zero => simp [cellsL]
 | succ h ih => rw [cellsL_succ, List.length_append, ih]; simp [rowL, Nat.mul_succ]
theorem ldr_sub {U : Cell → Bool} {l : List Cell} {a : Cell} (h : a ∈ ldr U [] l) : a ∈ l ∧ U a = true := by
 obtain ⟨k, h1, h2⟩ := ldr_pre U l []
 rw [h1, List.nil_append] at h
 exact h2 a h
theorem ldr_len (U : Cell → Bool) : ∀ (l acc : List Cell), (ldr U acc l).length ≤ acc.length + l.length
 | [], acc => by simp [ldr]
 | c :: l, acc => by
  simp only [ldr, List.length_cons]
  split
  ·have := ldr_len U l (acc ++ [c]); simp at this; omega
  ·have := ldr_len U l acc; omega
theorem adj_len (c : Cell) : (adj c).length = 4 := rfl
theorem psz_le (U : Cell → Bool) (w h : Nat) (c : Cell) : psz U w h c ≤ w * h := by
 unfold psz
 exact Nat.le_trans (List.length_filter_le _ _) (by rw [cellsL_len]; exact Nat.le_refl _)
structure PtI (m : AM) (sv : Value) (B : Brd) (pre : List Cell) (M : AM) (S : Ents) (u : Value) (c : List Value) : Prop where
 len : m.length + 3 ≤ M.length
 keep : ∀ j, j < m.length → M[j]? = m[j]?
 b1 : M[m.length + 0]? = some (some { cells := [sv] })
 b2 : M[m.length + 1]? = some (some { cells := [.int .i64 1] })
 map : M[m.length + 2]? = some (some (mapB S))
 row : Row M (m.length + 3) 7 u c (ldr (usB B) [] pre).length
 pt : PtL B (ldr (usB B) [] pre) c
 val : ∀ d, valE S d = true ↔ ∃ a ∈ ldr (usB B) [] pre, Reach (usB B) a d
namespace PtI
variable {m : AM} {sv : Value} {B : Brd} {pre : List Cell} {M : AM} {S : Ents} {u : Value} {c : List Value}
theorem old (h : PtI m sv B pre M S u c) (T : AM) : PtI m sv B pre (M ++ T) S u c := by
 have hl := h.len
 exact ⟨by rw [List.length_append]; omega, fun j hj => by rw [List.getElem?_append_left (by omega)]; exact h.keep j hj, get_old _ h.b1, get_old _ h.b2, get_old _ h.map, h.row.old _, h.pt, h.val⟩
theorem strs (h : PtI m sv B pre M S u c) (hs : Strs m sv B) : Strs M sv B := by
 obtain ⟨N, hN⟩ := pre_of (m := m) (M := M) (by have := h.len; omega) h.keep
 rw [hN]; exact hs.old N
theorem skip (h : PtI m sv B pre M S u c) {d : Cell} (hd : usB B d = false ∨ valE S d = true) : PtI m sv B (pre ++ [d]) M S u c := by
 have e : ldr (usB B) [] (pre ++ [d]) = ldr (usB B) [] pre := by
  rw [ldr_app]
  exact ldr_not (hd.imp id fun hd => (h.val d).1 hd)
 exact ⟨h.len, h.keep, h.b1, h.b2, h.map, by rw [e]; exact h.row, by rw [e]; exact h.pt, by rw [e]; exact h.val⟩
end PtI
theorem bs38 {m : AM} {k : Nat} {n e g x y w z : Int} : abuildSlice Tryd.prog m k 38 1 [(0, .agg #[.int .i64 n, .int .i64 e, .int .i64 g, .int .i64 x, .int .i64 y, .int .i64 w, .int .i64 z])] = some (.slice (some ⟨k, 0, none⟩) 1 1, m.set k (some { cells := [.int .i64 n, .int .i64 e, .int .i64 g, .int .i64 x, .int .i64 y, .int .i64 w, .int .i64 z] })) := by kernel_rfl
theorem el38 : elemB Tryd.prog 38 = some (49, 7, 56, #[.int .i64 0, .int .i64 0, .int .i64 0, .int .i64 0, .int .i64 0, .int .i64 0, .int .i64 0]) := by kernel_rfl
theorem un38 : Tryd.prog.underlying 38 = some (.slice 49) := by kernel_rfl
set_option maxHeartbeats 16000000 in
set_option maxRecDepth 100000 in
theorem Parts_ok {m : AM} {sv : Value} {B : Brd} (hs : Strs m sv B) (hv : boardB B = true) :
  ACall Tryd.prog 14 #[sv, .int .i64 1] m (More (fun M r => ∃ u c, r = .tuple #[u, .int .i64 0] ∧ Row M m.length 7 u c (ldr (usB B) [] (cellsL (bw B) (bh B))).length ∧ PtL B (ldr (usB B) [] (cellsL (bw B) (bh B))) c) m) := by
 have hsk : skinB B = true := by simp only [boardB, Bool.and_eq_true] at hv; exact hv.1
 have hV := fun T => Valid_ok (hs.old T)
 rw [hsk] at hV
 obtain ⟨A, O, sl, la, rd⟩ := id hs
 refine ACall.start Tryd.func14 rfl rfl ?_
 obtain ⟨qq, cc, rfl⟩ := sl.shape
 (repeat (first|(with_reducible refine AWo.cons ?_)|((with_reducible refine Step.id ?_);first|((with_reducible apply Step.gdT);exact rfl;exact rfl;((rfl)))|((with_reducible apply Step.move);exact rfl;exact rfl)|((with_reducible apply Step.assign);exact rfl;exact rfl)|((with_reducible apply Step.load);exact rfl;((decide +kernel));exact rfl;((exact Rd.new rfl rfl)))|((with_reducible apply Step.not);exact rfl;exact rfl)|((with_reducible apply Step.fn);exact rfl;exact rfl;exact rfl)|((with_reducible apply Step.pickF);exact rfl;exact rfl;exact rfl;exact rfl;((rfl)))|((with_reducible apply Step.callR fit);exact rfl;exact Tryd.func28;exact rfl;exact rfl;exact (hV _))|((with_reducible apply Step.callR fit);exact rfl;exact Tryd.func38;exact rfl;exact rfl;exact (least_ok (by omega)))|((with_reducible apply Step.box 0);exact rfl;exact rfl;((kernel_rfl));exact rfl;((first|(simp only [zq7, zq8, zq9, zq0, iv_set, bv_set, iv_rep, bv_rep] <;> rfl)|rfl)))|((with_reducible apply Step.box 1);exact rfl;exact rfl;((kernel_rfl));exact rfl;((first|(simp only [zq7, zq8, zq9, zq0, iv_set, bv_set, iv_rep, bv_rep] <;> rfl)|rfl))))|(with_reducible first|apply AWo.nil|apply AW.seq|apply Then.n|apply AW.regL|apply AW.skip)|((with_reducible apply AW.condF);exact rfl;((rfl)))))
 ((with_reducible apply Step.newMap 2);exact rfl;exact rfl;exact rfl)
 (repeat (first|(with_reducible refine AWo.cons ?_)|((with_reducible refine Step.id ?_);first|((with_reducible apply Step.move);exact rfl;exact rfl)|((with_reducible apply Step.assign);exact rfl;exact rfl)|((with_reducible apply Step.load);exact rfl;((decide +kernel));exact rfl;((exact Rd.new rfl rfl)))|((with_reducible apply Step.len);exact rfl;((assumption));((decide +kernel));exact rfl))|(with_reducible first|apply AWo.nil|apply AW.seq|apply Then.n|apply AW.regL|apply AW.block)))
 have hbw : B.length ≤ 16 ∧ bw B ≤ 16 := by
  have := hv
  simp only [boardB, Bool.and_eq_true, decide_eq_true_eq] at this
  exact this.2
 have hP0 : PtI m (.slice qq B.length cc) B [] (m ++ [some { cells := (Value.slice qq B.length cc).cells.toList }, some { cells := (Value.int .i64 1).cells.toList }, some (mapB [])]) [] (.slice none 0 0) [] :=
  ⟨by simp, fun j hj => List.getElem?_append_left hj, (get_app _ _ 0).trans rfl, (get_app _ _ 1).trans rfl, (get_app _ _ 2).trans rfl, Row.nil, ⟨rfl, fun k d h => by simp [ldr] at h⟩, fun d => by simp [valE, idxE, ldr]⟩
 refine AW.midX 0 (fun t' M => ∃ S u c, PtI m (.slice qq B.length cc) B (cellsL (bw B) (bh B)) M S u c ∧ All (fun i v => t' i = some v) [(8, u)]) ?_ ?_
 ·refine AW.loopW (fun z t M => ∃ (y : Nat) (S : Ents) (u : Value) (c : List Value), z = B.length - y ∧ y ≤ B.length ∧ PtI m (.slice qq B.length cc) B (cellsL (bw B) y) M S u c ∧
   t = fr [(6, .func (.func 39) #[] #[.pointer (some ⟨m.length + 0, 0, none⟩), .pointer (some ⟨m.length + 1, 0, none⟩)]), (7, .map (some (m.length + 2))), (8, u), (23, .slice qq B.length cc), (24, .int .i64 (B.length : Int)), (25, .int .i64 ((y : Nat) : Int))]) ⟨_, [(6, .func (.func 39) #[] #[.pointer (some ⟨m.length + 0, 0, none⟩), .pointer (some ⟨m.length + 1, 0, none⟩)]), (7, .map (some (m.length + 2))), (8, .slice none 0 0), (23, .slice qq B.length cc), (24, .int .i64 (B.length : Int)), (25, .int .i64 ((0 : Nat) : Int))], (by repeat (first | exact trivial | (refine And.intro rfl ?_))), 0, [], _, [], rfl, Nat.zero_le _, hP0, rfl⟩ ?_
  clear hP0
  rintro z t M ⟨y, S, u, c, rfl, hy, hP, rfl⟩
  have rM := fun T => (hP.old T).strs hs
  rcases Nat.lt_or_ge y B.length with hlt | hge
  ·have ry : ∀ T, Rd (M ++ T) A (O + y) (.string (rowOf B y)) := fun T => by
    obtain ⟨N, hN⟩ := pre_of (m := m) (M := M ++ T) (by have := (hP.old T).len; omega) (hP.old T).keep
    rw [hN]; exact (rd y hlt).old _
   obtain ⟨z1, _⟩ := skin_row hsk hlt
   have z2 : (rowOf B y).size = bw B := z1
   refine AW.rebase ?_
   (repeat (first|(with_reducible refine AWo.cons ?_)|((with_reducible refine Step.id ?_);first|((with_reducible apply Step.move);exact rfl;exact rfl)|((with_reducible apply Step.assign);exact rfl;exact rfl)|((with_reducible apply Step.load);exact rfl;((decide +kernel));exact rfl;((exact ry _)))|((with_reducible apply Step.ix1);exact rfl;((assumption));exact rfl;((decide +kernel));exact rfl;((omega)))|((with_reducible apply Step.lenS);exact rfl;exact un9;exact rfl)|((with_reducible apply Step.lss);exact rfl;exact rfl;exact rfl))|(with_reducible first|apply AWo.nil|apply AW.seq|apply Then.n|apply AW.regL|apply AW.block|apply AW.skip)|((with_reducible apply AW.condT);exact rfl;(((simp only [zq1, zq2, zq3, zq4, zq5, zq6];first|assumption|omega))))))
   rw [z2]
   refine AW.midX 2 (fun t' M => ∃ S u c, PtI m (.slice qq B.length cc) B (cellsL (bw B) (y + 1)) M S u c ∧ All (fun i v => t' i = some v) [(6, .func (.func 39) #[] #[.pointer (some ⟨m.length + 0, 0, none⟩), .pointer (some ⟨m.length + 1, 0, none⟩)]), (7, .map (some (m.length + 2))), (8, u), (23, .slice qq B.length cc), (24, .int .i64 (B.length : Int)), (25, .int .i64 ((y : Nat) : Int))]) ?_ ?_
   ·refine AW.loopW (fun z t M => ∃ (x : Nat) (S : Ents) (u : Value) (c : List Value), z = bw B - x ∧ x ≤ bw B ∧ PtI m (.slice qq B.length cc) B (cellsL (bw B) y ++ rowL x y) M S u c ∧
     t = fr [(6, .func (.func 39) #[] #[.pointer (some ⟨m.length + 0, 0, none⟩), .pointer (some ⟨m.length + 1, 0, none⟩)]), (7, .map (some (m.length + 2))), (8, u), (9, .int .i64 ((y : Nat) : Int)), (23, .slice qq B.length cc), (24, .int .i64 (B.length : Int)), (25, .int .i64 ((y : Nat) : Int)), (31, .int .i64 (bw B : Int)), (32, .int .i64 ((x : Nat) : Int))]) ⟨_, [(6, .func (.func 39) #[] #[.pointer (some ⟨m.length + 0, 0, none⟩), .pointer (some ⟨m.length + 1, 0, none⟩)]), (7, .map (some (m.length + 2))), (8, u), (9, .int .i64 ((y : Nat) : Int)), (23, .slice qq B.length cc), (24, .int .i64 (B.length : Int)), (25, .int .i64 ((y : Nat) : Int)), (31, .int .i64 (bw B : Int)), (32, .int .i64 ((0 : Nat) : Int))], (by repeat (first | exact trivial | (refine And.intro rfl ?_))), 0, S, u, c, rfl, Nat.zero_le _, by simpa [rowL] using hP, rfl⟩ ?_
    clear hP rM ry S u c
    rintro z t M ⟨x, S, u, c, rfl, hx, hP, rfl⟩
    have rM := fun T => (hP.old T).strs hs
    have hPl := hP.len
    rcases Nat.lt_or_ge x (bw B) with hxl | hxg
    ·have hsu := rowL_succ x y
     refine AW.rebase ?_
     (repeat (first|(with_reducible refine AWo.cons ?_)|((with_reducible refine Step.id ?_);first|((with_reducible apply Step.move);exact rfl;exact rfl)|((with_reducible apply Step.assign);exact rfl;exact rfl)|((with_reducible apply Step.loadL (n := 2));exact rfl;((decide +kernel));((decide +kernel));exact rfl;((exact RdL.new rfl rfl));exact rfl;exact rfl)|((with_reducible apply Step.lss);exact rfl;exact rfl;exact rfl)|((with_reducible apply Step.alloc 0);exact rfl;exact zc88;exact rfl;((first|(simp only [zq7, zq8, zq9, zq0, iv_set, bv_set, iv_rep, bv_rep] <;> rfl)|rfl)))|((with_reducible apply Step.storeA (k := 0) (n := 2));exact rfl;exact rfl;exact rfl;exact rfl;((decide +kernel));exact rfl;((kernel_rfl));exact rfl;((first|(simp only [zq7, zq8, zq9, zq0, iv_set, bv_set, iv_rep, bv_rep] <;> rfl)|rfl)))|((with_reducible apply Step.build);exact rfl;exact bl88;exact rfl))|(with_reducible first|apply AWo.nil|apply AW.seq|apply Then.n|apply AW.regL|apply AW.block|apply AW.skip)|((with_reducible apply AW.condT);exact rfl;(((simp only [zq1, zq2, zq3, zq4, zq5, zq6];first|assumption|omega))))))
     ((with_reducible apply Step.call fit);exact rfl;exact rfl;exact Tryd.func39;exact rfl;exact rfl;((simpa [Value.cells] using Usable_ok (rM _) hsk (get_old _ hP.b1) (get_old _ hP.b2) (x : Int) (y : Int))))
     rintro _ _ ⟨rfl, rfl⟩
     cases hu : usB B ((x : Int), (y : Int)) with
     | false =>
      (repeat (first|(with_reducible refine AWo.cons ?_)|((with_reducible refine Step.id ?_);first|((with_reducible apply Step.gdF);exact rfl;exact rfl;((rfl)))|((with_reducible apply Step.move);exact rfl;exact rfl)|((with_reducible apply Step.add);exact rfl;exact rfl;((omega));exact rfl)|((with_reducible apply Step.pickF);exact rfl;exact rfl;exact rfl;exact rfl;((rfl))))|(with_reducible first|apply AWo.nil|apply Then.n|apply AW.regL|apply InBlk.n|apply AW.skip)|((with_reducible apply AW.condF);exact rfl;((rfl)))))
      exact ⟨_, [(6, .func (.func 39) #[] #[.pointer (some ⟨m.length + 0, 0, none⟩), .pointer (some ⟨m.length + 1, 0, none⟩)]), (7, .map (some (m.length + 2))), (8, u), (9, .int .i64 ((y : Nat) : Int)), (23, .slice qq B.length cc), (24, .int .i64 (B.length : Int)), (25, .int .i64 ((y : Nat) : Int)), (31, .int .i64 (bw B : Int)), (32, .int .i64 ((x + 1 : Nat) : Int))], by omega, (by repeat (first | exact trivial | (refine And.intro rfl ?_))), x + 1, S, u, c, rfl, by omega, by rw [hsu, ← List.append_assoc]; exact (hP.skip (.inl hu)).old _, rfl⟩
     | true =>
      (repeat (first|(with_reducible refine AWo.cons ?_)|((with_reducible refine Step.id ?_);first|((with_reducible apply Step.gdT);exact rfl;exact rfl;((rfl)))|((with_reducible apply Step.move);exact rfl;exact rfl)|((with_reducible apply Step.loadL (n := 2));exact rfl;((decide +kernel));((decide +kernel));exact rfl;((exact RdL.new rfl rfl));exact rfl;exact rfl))))
      ((with_reducible apply Step.mapLook (k := ((x : Int), (y : Int))));exact rfl;exact rfl;exact (get_old _ hP.map);exact rfl)
      cases hvl : valE S ((x : Int), (y : Int)) with
      | true =>
       (repeat (first|(with_reducible refine AWo.cons ?_)|((with_reducible refine Step.id ?_);first|((with_reducible apply Step.gdT);exact rfl;exact rfl;((rfl)))|((with_reducible apply Step.move);exact rfl;exact rfl)|((with_reducible apply Step.add);exact rfl;exact rfl;((omega));exact rfl)|((with_reducible apply Step.not);exact rfl;exact rfl)|((with_reducible apply Step.pickT);exact rfl;exact rfl;exact rfl;exact rfl;((rfl))))|(with_reducible first|apply AWo.nil|apply Then.n|apply AW.regL|apply InBlk.n|apply AW.skip)|((with_reducible apply AW.condF);exact rfl;((rfl)))))
       exact ⟨_, [(6, .func (.func 39) #[] #[.pointer (some ⟨m.length + 0, 0, none⟩), .pointer (some ⟨m.length + 1, 0, none⟩)]), (7, .map (some (m.length + 2))), (8, u), (9, .int .i64 ((y : Nat) : Int)), (23, .slice qq B.length cc), (24, .int .i64 (B.length : Int)), (25, .int .i64 ((y : Nat) : Int)), (31, .int .i64 (bw B : Int)), (32, .int .i64 ((x + 1 : Nat) : Int))], by omega, (by repeat (first | exact trivial | (refine And.intro rfl ?_))), x + 1, S, u, c, rfl, by omega, by rw [hsu, ← List.append_assoc]; exact (hP.skip (.inr hvl)).old _, rfl⟩
      | false =>
       (repeat (first|(with_reducible refine AWo.cons ?_)|((with_reducible refine Step.id ?_);first|((with_reducible apply Step.gdT);exact rfl;exact rfl;((rfl)))|((with_reducible apply Step.move);exact rfl;exact rfl)|((with_reducible apply Step.loadL (n := 2));exact rfl;((decide +kernel));((decide +kernel));exact rfl;((exact RdL.new rfl rfl));exact rfl;exact rfl)|((with_reducible apply Step.not);exact rfl;exact rfl)|((with_reducible apply Step.pickT);exact rfl;exact rfl;exact rfl;exact rfl;((rfl))))|(with_reducible first|apply AWo.nil|apply Then.n|apply AW.regL)|((with_reducible apply AW.condT);exact rfl;((rfl)))))
       have hP1 := fun T => hP.old T
       have hfl := fun (T : AM) => Flood_ok (m := M ++ T) (q := m.length + 2) (F := 43) (G := 39) (fst := ((x : Int), (y : Int))) (isF := usB B) (nx := adj) (caps := #[.pointer (some ⟨m.length + 0, 0, none⟩), .pointer (some ⟨m.length + 1, 0, none⟩)]) (Uni := cellsL (bw B) (bh B)) (hP1 T).map hvl Tryd.func43 rfl Tryd.func39 rfl
        (fun z hz M1 => by
         have hzu : usB B z = true := hz.elim (fun e => by rw [e]; exact hu) id
         have hzz := of_decide_eq_true hzu
         have h48 : bh B = B.length := rfl
         exact Beside_ok ⟨by omega, by omega, by omega, by omega⟩)
        (fun z _ => by rw [adj_len]; decide)
        (fun z M1 h1 h2 => by
         have hTl := (hP1 T).len
         have k1 : M1[m.length + 0]? = some (some { cells := [.slice qq B.length cc] }) := by rw [h2 _ (by omega) (by omega)]; exact (hP1 T).b1
         have k2 : M1[m.length + 1]? = some (some { cells := [.int .i64 1] }) := by rw [h2 _ (by omega) (by omega)]; exact (hP1 T).b2
         have k3 : Strs M1 (.slice qq B.length cc) B := by
          obtain ⟨N, hN⟩ := pre_of (m := m) (M := M1) (by omega) fun j hj => by rw [h2 j (by omega) (by omega)]; exact (hP1 T).keep j hj
          rw [hN]; exact hs.old N
         exact Usable_ok k3 hsk k1 k2 z.1 z.2)
        (fun z hz => usB_in hz) (by
         rw [cellsL_len]
         exact Nat.le_trans (Nat.mul_le_mul hbw.2 hbw.1) (by decide))
       ((with_reducible apply Step.callF fit);exact rfl;exact Tryd.func42;exact rfl;exact rfl;((simpa [Value.cells] using hfl _)))
       clear hfl
       rintro r M2 ⟨l, S', hf, hcl⟩
       have hl2 : M.length ≤ M2.length := by have := hf.len; rw [List.length_append] at this; omega
       have hM2 : ∀ j, j < M.length → j ≠ m.length + 2 → M2[j]? = M[j]? := fun j hj hn => (hf.keep j (by rw [List.length_append]; omega) hn).trans (List.getElem?_append_left hj)
       obtain ⟨key, hSv⟩ := search_ok (U := usB B) (acc := ldr (usB B) [] (cellsL (bw B) y ++ rowL x y)) (c := ((x : Int), (y : Int))) (l := l) (S := fun d => valE S d = true) (S' := fun d => valE S' d = true) hP.val (fun a ha => (ldr_sub ha).2) hu hf.one (fun d hd => hf.rch (Reach (usB B) ((x : Int), (y : Int))) .refl (fun d hd e he hue => hd.step he hue) d hd) hcl hf.val (fun d hd => by rw [hf.new d hd]; simp)
       have hacc : ldr (usB B) [] (cellsL (bw B) y ++ rowL x y ++ [((x : Int), (y : Int))]) = ldr (usB B) [] (cellsL (bw B) y ++ rowL x y) ++ [((x : Int), (y : Int))] := by
        rw [ldr_app]
        exact ldr_one hu fun ⟨a, ha, hr⟩ => by have := (hP.val _).2 ⟨a, ha, hr⟩; rw [hvl] at this; cases this
       have hlen : l.length = psz (usB B) (bw B) (bh B) ((x : Int), (y : Int)) := psz_len (fun d hd => usB_in hd) hu hf.nd key
       have hlle : l.length ≤ 10000 := by rw [hlen]; exact Nat.le_trans (psz_le ..) (Nat.le_trans (Nat.mul_le_mul hbw.2 (show bh B ≤ 16 from hbw.1)) (by decide))
       obtain ⟨a, kd, sz, ha1, ha2, rfl, hra⟩ := hf.row.pos (List.length_pos_of_mem hf.one)
       have hcb : ∀ c ∈ l, 0 ≤ c.1 ∧ c.1 ≤ 48 ∧ 0 ≤ c.2 ∧ c.2 ≤ 48 := fun c hc => by
        have hzu : usB B c = true := (hf.isf c hc).elim (fun e => by rw [e]; exact hu) id
        have hzz := of_decide_eq_true hzu
        have h48 : bh B = B.length := rfl
        omega
       have hrow2 : Row M2 (m.length + 3) 7 u c (ldr (usB B) [] (cellsL (bw B) y ++ rowL x y)).length := hP.row.keep fun j hj hn => hM2 j hj (by have := hP.row.ge_of hn; omega)
       have hll := ldr_len (usB B) (cellsL (bw B) y ++ rowL x y) []
       have hll2 : (cellsL (bw B) y ++ rowL x y).length ≤ 272 := by
        rw [List.length_append, cellsL_len, rowL, List.length_map, List.length_range]
        have := Nat.mul_le_mul hbw.2 (show y ≤ 16 by omega)
        omega
       rw [List.length_nil] at hll
       rw [← List.append_nil M2]
       (repeat ((with_reducible refine AWo.cons ?_)))
       ((with_reducible apply Step.callF fit);exact rfl;exact Tryd.func41;exact rfl;exact rfl;exact (Part_ok (get_old _ hra) hcb hlle))
       rintro _ _ ⟨N, rfl, e, g, x1, y1, w1, z1, rfl⟩
       rw [List.append_nil, ← List.append_nil (M2 ++ N)]
       (repeat (first|(with_reducible refine AWo.cons ?_)|((with_reducible refine Step.id ?_);((with_reducible apply Step.buildS 0);exact rfl;exact rfl;exact (fun _ _ => bs38);exact rfl;((first|(simp only [zq7, zq8, zq9, zq0, iv_set, bv_set, iv_rep, bv_rep] <;> rfl)|rfl))))))
       ((with_reducible apply Step.appRow2 (s := 7) (n := (ldr (usB B) [] (cellsL (bw B) y ++ rowL x y)).length) (xl := 1) (b0 := m.length + 3) (c := c) (new := pc l.length e g x1 y1 w1 z1));exact rfl;exact rfl;exact ((hrow2.old _).old _);exact (Sl.mk (Nat.le_refl _));exact (fun _ => RdL.new rfl rfl);exact el38;exact un38;exact rfl;exact rfl;exact rfl;((omega));exact rfl;((simp only [List.length_append];omega)))
       intro u2 M4 hr4 hml4 hk4 _
       have hM4 : ∀ j, j < m.length + 3 → M4[j]? = M2[j]? := fun j hj => by
        rw [hk4 j (by simp only [List.length_append]; omega) (NotOf.row hP.row hj), List.getElem?_append_left (by simp only [List.length_append]; omega), List.getElem?_append_left (by omega)]
       have hP4 : PtI m (.slice qq B.length cc) B (cellsL (bw B) y ++ rowL x y ++ [((x : Int), (y : Int))]) M4 S' u2 (c ++ pc l.length e g x1 y1 w1 z1) := by
        refine ⟨by simp only [List.length_append] at hml4; omega, fun j hj => by rw [hM4 j (by omega), hM2 j (by omega) (by omega)]; exact hP.keep j hj, by rw [hM4 _ (by omega), hM2 _ (by omega) (by omega)]; exact hP.b1, by rw [hM4 _ (by omega), hM2 _ (by omega) (by omega)]; exact hP.b2, by rw [hM4 _ (by omega)]; exact hf.map, ?_, ?_, ?_⟩
        ·rw [hacc, List.length_append]; exact hr4
        ·rw [hacc]; exact hP.pt.app (by rw [hlen])
        ·rw [hacc]; exact hSv
       rw [← List.append_nil M4]
       (repeat (first|(with_reducible refine AWo.cons ?_)|((with_reducible refine Step.id ?_);first|((with_reducible apply Step.move);exact rfl;exact rfl)|((with_reducible apply Step.assign);exact rfl;exact rfl)|((with_reducible apply Step.add);exact rfl;exact rfl;((omega));exact rfl))|(with_reducible first|apply AWo.nil|apply Then.n|apply AW.regL|apply InBlk.n)))
       exact ⟨_, [(6, .func (.func 39) #[] #[.pointer (some ⟨m.length + 0, 0, none⟩), .pointer (some ⟨m.length + 1, 0, none⟩)]), (7, .map (some (m.length + 2))), (8, u2), (9, .int .i64 ((y : Nat) : Int)), (23, .slice qq B.length cc), (24, .int .i64 (B.length : Int)), (25, .int .i64 ((y : Nat) : Int)), (31, .int .i64 (bw B : Int)), (32, .int .i64 ((x + 1 : Nat) : Int))], by omega, (by repeat (first | exact trivial | (refine And.intro rfl ?_))), x + 1, S', u2, _, rfl, by omega, by rw [hsu, ← List.append_assoc]; exact hP4.old _, rfl⟩
    ·obtain rfl : x = bw B := by omega
     refine AW.rebase ?_
     (repeat (first|(with_reducible refine AWo.cons ?_)|((with_reducible refine Step.id ?_);((with_reducible apply Step.lss);exact rfl;exact rfl;exact rfl))|(with_reducible first|apply AWo.nil|apply AW.seq|apply Then.n|apply AW.regL|apply AW.exit|apply Then.e)|((with_reducible apply AW.condF);exact rfl;(((simp only [zq1, zq2, zq3, zq4, zq5, zq6];first|assumption|omega))))))
     exact ⟨rfl, S, u, c, by rw [cellsL_succ]; exact hP.old _, (by repeat (first | exact trivial | (refine And.intro rfl ?_)))⟩
   ·clear hP rM ry S u c
    rintro t' M ⟨S, u, c, hP, hsl⟩
    refine InBlk.hit ?_
    refine InBlk.n ?_
    refine Then.n ?_
    refine AW.weak (fr_all hsl) ?_
    clear hsl
    rw [← List.append_nil M]
    (repeat (first|(with_reducible refine AWo.cons ?_)|((with_reducible refine Step.id ?_);first|((with_reducible apply Step.move);exact rfl;exact rfl)|((with_reducible apply Step.add);exact rfl;exact rfl;((omega));exact rfl))|(with_reducible first|apply AWo.nil|apply Then.n|apply AW.regL)))
    exact ⟨_, [(6, .func (.func 39) #[] #[.pointer (some ⟨m.length + 0, 0, none⟩), .pointer (some ⟨m.length + 1, 0, none⟩)]), (7, .map (some (m.length + 2))), (8, u), (23, .slice qq B.length cc), (24, .int .i64 (B.length : Int)), (25, .int .i64 ((y + 1 : Nat) : Int))], by omega, (by repeat (first | exact trivial | (refine And.intro rfl ?_))), y + 1, S, u, c, rfl, by omega, hP.old _, rfl⟩
  ·obtain rfl : y = B.length := by omega
   refine AW.rebase ?_
   (repeat (first|(with_reducible refine AWo.cons ?_)|((with_reducible refine Step.id ?_);((with_reducible apply Step.lss);exact rfl;exact rfl;exact rfl))|(with_reducible first|apply AWo.nil|apply AW.seq|apply Then.n|apply AW.regL|apply AW.exit|apply Then.e)|((with_reducible apply AW.condF);exact rfl;(((simp only [zq1, zq2, zq3, zq4, zq5, zq6];first|assumption|omega))))))
   exact ⟨rfl, S, u, c, hP.old _, (by repeat (first | exact trivial | (refine And.intro rfl ?_)))⟩
 ·rintro t' M ⟨S, u, c, hP, hsl⟩
  refine InBlk.hit ?_
  refine Then.n ?_
  refine AW.weak (fr_all hsl) ?_
  clear hsl
  rw [← List.append_nil M]
  (repeat (first|(with_reducible refine AWo.cons ?_)|((with_reducible refine Step.id ?_);first|((with_reducible apply Step.move);exact rfl;exact rfl)|((with_reducible apply Step.assign);exact rfl;exact rfl))|(with_reducible first|apply AWo.nil|apply AW.seq|apply Then.n|apply AW.regL)))
  (refine AW.ret ?_; (repeat (first | refine Then.r ?_ | refine InBlk.r ?_)))
  obtain ⟨N, hN⟩ := pre_of (m := m) (M := M) (by have := hP.len; omega) hP.keep
  exact ⟨_, rfl, N, by rw [List.append_nil]; exact hN, u, c, rfl, by rw [List.append_nil]; exact hP.row.low (by omega), hP.pt⟩
def rgv (w : Nat) (g : Nat → Value) : List Value := (List.range w).map g
theorem rgv_len (w : Nat) (g : Nat → Value) : (rgv w g).length = w := by simp [rgv]
theorem rgv_get {w x : Nat} (g : Nat → Value) (h : x < w) : (rgv w g)[x]? = some (g x) := by simp [rgv, h]
theorem rgv_set {w x : Nat} (g : Nat → Value) (v : Value) : (rgv w g).set x v = rgv w (fun i => if i = x then v else g i) := by
 apply List.ext_getElem?
 intro i
 unfold rgv
 by_cases h : x = i
 ·subst h
  by_cases hl : x < w
  ·rw [List.getElem?_set_self (by simpa using hl)]; simp [hl]
  ·rw [List.getElem?_eq_none (by simp; omega), List.getElem?_eq_none (by simp; omega)]
 ·rw [List.getElem?_set_ne h]
  by_cases hl : i < w
  ·simp [hl, show i ≠ x from fun e => h e.symm]
  ·rw [List.getElem?_eq_none (by simp; omega), List.getElem?_eq_none (by simp; omega)]
theorem rgv_congr {w : Nat} {f g : Nat → Value} (h : ∀ x, x < w → f x = g x) : rgv w f = rgv w g := List.map_congr_left fun x hx => h x (List.mem_range.1 hx)
theorem rgv_rep (w : Nat) (v : Value) : List.replicate w v = rgv w (fun _ => v) := by
 apply List.ext_getElem?
 intro i
 by_cases h : i < w <;> simp [rgv, List.getElem?_replicate, h]
structure GridP (M : AM) (w h i : Nat) (v : Value) (ao : Nat) (rs : Nat → Nat) (f : Nat → Nat → Value) : Prop where
 sl : Sl v ao 0 h
 out : ∃ cs kd sz, M[ao]? = some (some { cells := cs, kind := kd, size := sz }) ∧ kd.solid = true ∧ cs.length = h ∧ ∀ y, y < i → cs[y]? = some (.slice (some ⟨rs y, 0, none⟩) w w)
 row : ∀ y, y < i → M[rs y]? = some (some { cells := rgv w (f y) })
 inj : ∀ y z, y < i → z < i → rs y = rs z → y = z
 ne : ∀ y, y < i → rs y ≠ ao
namespace GridP
variable {M : AM} {w h i : Nat} {v : Value} {ao : Nat} {rs : Nat → Nat} {f : Nat → Nat → Value}
theorem stay (hg : GridP M w h i v ao rs f) {M' : AM} (ha : M'[ao]? = M[ao]?) (hr : ∀ y, y < i → M'[rs y]? = M[rs y]?) : GridP M' w h i v ao rs f := by
 obtain ⟨cs, kd, sz, h1, h2⟩ := hg.out
 exact ⟨hg.sl, ⟨cs, kd, sz, by rw [ha]; exact h1, h2⟩, fun y hy => by rw [hr y hy]; exact hg.row y hy, hg.inj, hg.ne⟩
theorem aolt (hg : GridP M w h i v ao rs f) : ao < M.length := by
 obtain ⟨cs, kd, sz, h1, _⟩ := hg.out
 exact (List.getElem?_eq_some_iff.1 h1).1
theorem rlt (hg : GridP M w h i v ao rs f) {y : Nat} (hy : y < i) : rs y < M.length := (List.getElem?_eq_some_iff.1 (hg.row y hy)).1
theorem old (hg : GridP M w h i v ao rs f) (T : AM) : GridP (M ++ T) w h i v ao rs f :=
 hg.stay (List.getElem?_append_left hg.aolt) fun y hy => List.getElem?_append_left (hg.rlt hy)
theorem congr (hg : GridP M w h i v ao rs f) {g : Nat → Nat → Value} (he : ∀ y x, y < i → x < w → f y x = g y x) : GridP M w h i v ao rs g :=
 { hg with row := fun y hy => by rw [hg.row y hy, rgv_congr fun x hx => he y x hy hx] }
theorem rdr (hg : GridP M w h i v ao rs f) {y : Nat} (hy : y < i) (T : AM) : Rd (M ++ T) ao y (.slice (some ⟨rs y, 0, none⟩) w w) := by
 obtain ⟨cs, kd, sz, h1, _, _, h4⟩ := hg.out
 exact Rd.old T ⟨_, h1, h4 y hy⟩
theorem rd (hg : GridP M w h i v ao rs f) {x y : Nat} (hy : y < i) (hx : x < w) (T : AM) : Rd (M ++ T) (rs y) x (f y x) := Rd.old T ⟨_, hg.row y hy, rgv_get _ hx⟩
theorem set (hg : GridP M w h i v ao rs f) {x y : Nat} (hy : y < i) (b : Value) : GridP (M.set (rs y) (some { cells := (rgv w (f y)).set x b })) w h i v ao rs (fun y' x' => if y' = y ∧ x' = x then b else f y' x') := by
 obtain ⟨cs, kd, sz, h1, h2⟩ := hg.out
 refine ⟨hg.sl, ⟨cs, kd, sz, by rw [List.getElem?_set_ne (hg.ne y hy)]; exact h1, h2⟩, fun z hz => ?_, hg.inj, hg.ne⟩
 by_cases e : z = y
 ·subst e
  rw [List.getElem?_set_self (hg.rlt hz), rgv_set]
  simp
 ·rw [List.getElem?_set_ne (fun q => e (hg.inj _ _ hz hy q.symm)), hg.row z hz]
  simp [e]
theorem push (hg : GridP M w h i v ao rs f) {g : Nat → Value} {cs : List Value} {kd : Kind} {sz : Nat} (hi : i < h) (hc : M[ao]? = some (some { cells := cs, kind := kd, size := sz })) :
  GridP (List.set (M ++ [some { cells := rgv w g }] : AM) ao (some { cells := cs.set i (.slice (some ⟨M.length + 0, 0, none⟩) w w), kind := kd, size := sz })) w h (i + 1) v ao (fun y => if y = i then M.length + 0 else rs y) (fun y => if y = i then g else f y) := by
 obtain ⟨cs', kd', sz', h1, h2, h3, h4⟩ := hg.out
 rw [hc] at h1
 injection h1 with h1
 injection h1 with h1
 injection h1 with e1 e2 e3
 subst e1
 have hal := hg.aolt
 refine ⟨hg.sl, ⟨_, kd, sz, List.getElem?_set_self (by rw [List.length_append]; omega), by first | (rw [e2]; exact h2) | (subst e2; exact h2), by rw [List.length_set]; exact h3, fun y hy => ?_⟩, fun y hy => ?_, fun y z hy hz => ?_, fun y hy => ?_⟩
 ·by_cases e : y = i
  ·subst e; rw [List.getElem?_set_self (by omega), if_pos rfl]
  ·rw [List.getElem?_set_ne (fun q => e q.symm), if_neg e]; exact h4 y (by omega)
 ·by_cases e : y = i
  ·subst e
   simp only [if_pos]
   rw [List.getElem?_set_ne (by omega), get_app]; rfl
  ·simp only [if_neg e]
   rw [List.getElem?_set_ne (fun q => hg.ne y (by omega) q.symm), List.getElem?_append_left (hg.rlt (by omega))]
   exact hg.row y (by omega)
 ·have l1 : y ≠ i → rs y < M.length := fun e => hg.rlt (by omega)
  have l2 : z ≠ i → rs z < M.length := fun e => hg.rlt (by omega)
  intro q
  by_cases e : y = i
  ·by_cases e' : z = i
   ·omega
   ·rw [if_pos e, if_neg e'] at q; have := l2 e'; omega
  ·by_cases e' : z = i
   ·rw [if_neg e, if_pos e'] at q; have := l1 e; omega
   ·rw [if_neg e, if_neg e'] at q; exact hg.inj _ _ (by omega) (by omega) q
 ·by_cases e : y = i
  ·simp only [if_pos e]; omega
  ·simp only [if_neg e]; exact hg.ne y (by omega)
end GridP
def nb4 (d : Cell) : List Cell := [(d.1 + 1, d.2), (d.1 - 1, d.2), (d.1, d.2 + 1), (d.1, d.2 - 1)]
theorem nb4_mem {d e : Cell} : e ∈ nb4 d ↔ e ∈ adj d := by
 obtain ⟨x, y⟩ := d
 simp only [nb4, adj, List.mem_cons, List.not_mem_nil, or_false]
 constructor <;> (rintro (h | h | h | h) <;> simp [h])
structure BF (B : Brd) (c0 : Cell) (mt : Cell → Bool) (V T : List Cell) (i : Nat) : Prop where
 le : i ≤ T.length
 len : T.length = 1 + 4 * V.length
 nd : V.Nodup
 us : ∀ d ∈ V, usB B d = true
 rc : ∀ d ∈ V, Reach (usB B) c0 d
 nw : ∀ d ∈ V, mt d = false
 tr : ∀ d ∈ T, usB B d = true → Reach (usB B) c0 d
 nb : ∀ d ∈ V, ∀ e ∈ adj d, e ∈ T
 st : c0 ∈ T
 pr : ∀ d ∈ T.take i, usB B d = true → mt d = true ∨ d ∈ V
namespace BF
variable {B : Brd} {c0 : Cell} {mt : Cell → Bool} {V T : List Cell} {i : Nat}
theorem start : BF B c0 mt [] [c0] 0 :=
 {le := by simp, len := rfl, nd := List.nodup_nil, us := fun _ h => (List.not_mem_nil h).elim, rc := fun _ h => (List.not_mem_nil h).elim, nw := fun _ h => (List.not_mem_nil h).elim
  tr := fun d h _ => by rw [List.mem_singleton] at h; rw [h]; exact .refl
  nb := fun _ h => (List.not_mem_nil h).elim
  st := List.mem_singleton.2 rfl
  pr := fun d h => by simp at h }
theorem skip (h : BF B c0 mt V T i) {d : Cell} (hd : T[i]? = some d) (hs : usB B d = true → mt d = true ∨ d ∈ V) : BF B c0 mt V T (i + 1) := by
 have hl := (List.getElem?_eq_some_iff.1 hd).1
 refine { h with le := hl, pr := fun e he hu => ?_ }
 rw [List.take_succ_eq_append_getElem hl, List.mem_append, List.mem_singleton] at he
 rcases he with he | he
 ·exact h.pr e he hu
 ·have : e = d := by rw [List.getElem?_eq_getElem hl] at hd; injection hd with hd; rw [he, hd]
  subst this
  exact hs hu
theorem take (h : BF B c0 mt V T i) {d : Cell} (hd : T[i]? = some d) (hu : usB B d = true) (hm : mt d = false) (hn : d ∉ V) : BF B c0 mt (V ++ [d]) (T ++ nb4 d) (i + 1) := by
 have hl := (List.getElem?_eq_some_iff.1 hd).1
 have hdT : d ∈ T := List.mem_of_getElem? hd
 have hr := h.tr d hdT hu
 refine ⟨by rw [List.length_append]; omega, ?_, ?_, ?_, ?_, ?_, ?_, ?_, List.mem_append_left _ h.st, ?_⟩
 ·rw [List.length_append, List.length_append, h.len]; simp [nb4]; omega
 ·refine List.nodup_append.2 ⟨h.nd, by simp, fun a ha b hb e => ?_⟩
  rw [List.mem_singleton] at hb
  subst hb; subst e
  exact hn ha
 ·intro e he
  rcases List.mem_append.1 he with he | he
  ·exact h.us e he
  ·rw [List.mem_singleton] at he; subst he; exact hu
 ·intro e he
  rcases List.mem_append.1 he with he | he
  ·exact h.rc e he
  ·rw [List.mem_singleton] at he; subst he; exact hr
 ·intro e he
  rcases List.mem_append.1 he with he | he
  ·exact h.nw e he
  ·rw [List.mem_singleton] at he; subst he; exact hm
 ·intro e he hue
  rcases List.mem_append.1 he with he | he
  ·exact h.tr e he hue
  ·exact hr.step (nb4_mem.1 he) hue
 ·intro e he f hf
  rcases List.mem_append.1 he with he | he
  ·exact List.mem_append_left _ (h.nb e he f hf)
  ·rw [List.mem_singleton] at he; subst he
   exact List.mem_append_right _ (nb4_mem.2 hf)
 ·intro e he hue
  rw [List.take_append_of_le_length (by omega), List.take_succ_eq_append_getElem hl, List.mem_append, List.mem_singleton] at he
  rcases he with he | he
  ·exact (h.pr e he hue).imp id fun q => List.mem_append_left _ q
  ·have : e = d := by rw [List.getElem?_eq_getElem hl] at hd; injection hd with hd; rw [he, hd]
   subst this
   exact .inr (by simp)
theorem vlen (h : BF B c0 mt V T i) : V.length ≤ bw B * bh B := by
 have := nd_le V (cellsL (bw B) (bh B)) h.nd fun d hd => usB_in (h.us d hd)
 rw [cellsL_len] at this
 exact this
theorem fin (h : BF B c0 mt V T T.length) {acc : List Cell} (hacc : ∀ d, mt d = true ↔ ∃ a ∈ acc, Reach (usB B) a d) (hU : ∀ a ∈ acc, usB B a = true) (hc : usB B c0 = true) (hm : mt c0 = false) :
  (∀ d, d ∈ V ↔ Reach (usB B) c0 d) ∧ ∀ d, (mt d || decide (d ∈ V)) = true ↔ ∃ a ∈ acc ++ [c0], Reach (usB B) a d := by
 have hp := h.pr
 rw [List.take_length] at hp
 refine search_ok (U := usB B) (acc := acc) (c := c0) (l := V) (S := fun d => mt d = true) (S' := fun d => (mt d || decide (d ∈ V)) = true) hacc hU hc ((hp c0 h.st hc).elim (fun e => by rw [hm] at e; cases e) id) h.rc (fun d hd e he hue => ?_) (fun d => by simp) (fun d hd => by rw [h.nw d hd]; simp)
 rcases hp e (h.nb d hd e he) hue with q | q
 ·simp [q]
 ·simp [q]
end BF
structure Low0 (m0 m : AM) : Prop where
 len : m0.length ≤ m.length
 keep : ∀ j, j < m0.length → m[j]? = m0[j]?
theorem Low0.ex {m0 m : AM} (h : Low0 m0 m) : ∃ N, m = m0 ++ N := pre_of h.len h.keep
theorem Low0.old {m0 m : AM} (h : Low0 m0 m) (T : AM) : Low0 m0 (m ++ T) := ⟨by rw [List.length_append]; have := h.len; omega, fun j hj => by rw [List.getElem?_append_left (by have := h.len; omega)]; exact h.keep j hj⟩
theorem Low0.trans {a b c : AM} (h : Low0 a b) (g : Low0 b c) : Low0 a c := ⟨Nat.le_trans h.len g.len, fun j hj => (g.keep j (by have := h.len; omega)).trans (h.keep j hj)⟩
theorem Low0.set {a b : AM} (h : Low0 a b) {j : Nat} (hj : a.length ≤ j) (x : Option Blk) : Low0 a (b.set j x) := ⟨by rw [List.length_set]; exact h.len, fun k hk => by rw [List.getElem?_set_ne (by omega)]; exact h.keep k hk⟩
theorem Low0.strs {m0 m : AM} {sv : Value} {B : Brd} (h : Low0 m0 m) (hs : Strs m0 sv B) : Strs m sv B := by
 obtain ⟨N, hN⟩ := h.ex
 rw [hN]; exact hs.old N
theorem Low0.rd {m0 m : AM} (h : Low0 m0 m) {a o : Nat} {v : Value} (hr : Rd m0 a o v) (T : AM) : Rd (m ++ T) a o v := by
 obtain ⟨N, hN⟩ := h.ex
 rw [hN, List.append_assoc]; exact hr.old _
def cl (x y : Nat) : Cell := ((x : Int), (y : Int))
theorem cl_eq {x y x' y' : Nat} : cl x y = cl x' y' ↔ y = y' ∧ x = x' := by
 simp only [cl, Prod.mk.injEq]
 omega
def metF (mt : Cell → Bool) (V : List Cell) : Nat → Nat → Value := fun y x => .bool (mt (cl x y) || decide (cl x y ∈ V))
def outF (B : Brd) (V : List Cell) : Nat → Nat → Value := fun y x => .int .u8 (if cl x y ∈ V then ((byteAt (rowOf B y) x : Nat) : Int) else 48)
structure AlS (m0 m : AM) (B : Brd) (mt : Cell → Bool) (mv : Value) (mao : Nat) (mrs : Nat → Nat) (ov : Value) (oao : Nat) (ors : Nat → Nat) (N0 : Nat) (M : AM) (V W T : List Cell) (tv : Value) : Prop where
 low : Low0 m0 M
 len : N0 ≤ M.length
 keep : ∀ j, j < m.length → (∀ y, y < B.length → j ≠ mrs y) → M[j]? = m[j]?
 gm : GridP M (bw B) B.length B.length mv mao mrs (metF mt V)
 go : GridP M (bw B) B.length B.length ov oao ors (outF B W)
 row : Row M N0 2 tv (cellcs T) T.length
 m1 : m0.length ≤ m.length ∧ m.length ≤ N0
 m2 : mao < m.length ∧ ∀ y, y < B.length → m0.length ≤ mrs y ∧ mrs y < m.length
 m3 : m.length ≤ oao ∧ oao < N0 ∧ ∀ y, y < B.length → m.length ≤ ors y ∧ ors y < N0
namespace AlS
variable {m0 m : AM} {B : Brd} {mt : Cell → Bool} {mv : Value} {mao : Nat} {mrs : Nat → Nat} {ov : Value} {oao : Nat} {ors : Nat → Nat} {N0 : Nat} {M : AM} {V W T : List Cell} {tv : Value}
theorem old (h : AlS m0 m B mt mv mao mrs ov oao ors N0 M V W T tv) (X : AM) : AlS m0 m B mt mv mao mrs ov oao ors N0 (M ++ X) V W T tv :=
 {h with
  low := h.low.old X
  len := by rw [List.length_append]; have := h.len; omega
  keep := fun j hj hn => by rw [List.getElem?_append_left (by have := h.len; have := h.m1; omega)]; exact h.keep j hj hn
  gm := h.gm.old X
  go := h.go.old X
  row := h.row.old X }
theorem mark (h : AlS m0 m B mt mv mao mrs ov oao ors N0 M V W T tv) {x y : Nat} (hy : y < B.length) :
  AlS m0 m B mt mv mao mrs ov oao ors N0 (M.set (mrs y) (some { cells := (rgv (bw B) (metF mt V y)).set x (.bool true) })) (V ++ [cl x y]) W T tv := by
 have h2 := h.m2.2 y hy
 have h1 := h.m1
 refine ⟨h.low.set h2.1 _, by rw [List.length_set]; exact h.len, fun j hj hn => ?_, (h.gm.set (x := x) hy (.bool true)).congr fun y' x' _ _ => ?_, h.go.stay ?_ fun z hz => ?_, h.row.set (NotOf.row h.row (by omega)), h.m1, h.m2, h.m3⟩
 ·rw [List.getElem?_set_ne (fun e => hn y hy e.symm)]; exact h.keep j hj hn
 ·unfold metF
  by_cases e : y' = y ∧ x' = x
  ·rw [if_pos e, e.1, e.2]; simp
  ·rw [if_neg e]
   have : cl x' y' ≠ cl x y := fun q => e (cl_eq.1 q)
   simp [this]
 ·rw [List.getElem?_set_ne (by have := h.m3; omega)]
 ·rw [List.getElem?_set_ne (by have := h.m3.2.2 z hz; omega)]
theorem write (h : AlS m0 m B mt mv mao mrs ov oao ors N0 M V W T tv) {x y : Nat} (hy : y < B.length) :
  AlS m0 m B mt mv mao mrs ov oao ors N0 (M.set (ors y) (some { cells := (rgv (bw B) (outF B W y)).set x (.int .u8 ((byteAt (rowOf B y) x : Nat) : Int)) })) V (W ++ [cl x y]) T tv := by
 have h2 := h.m3.2.2 y hy
 have h1 := h.m1
 refine ⟨h.low.set (by omega) _, by rw [List.length_set]; exact h.len, fun j hj hn => ?_, h.gm.stay ?_ fun z hz => ?_, (h.go.set (x := x) hy _).congr fun y' x' _ _ => ?_, h.row.set (NotOf.row h.row (by omega)), h.m1, h.m2, h.m3⟩
 ·rw [List.getElem?_set_ne (by omega)]; exact h.keep j hj hn
 ·rw [List.getElem?_set_ne (by have := h.m2; omega)]
 ·rw [List.getElem?_set_ne (by have := h.m2.2 z hz; omega)]
 ·unfold outF
  by_cases e : y' = y ∧ x' = x
  ·rw [if_pos e, e.1, e.2]; simp
  ·rw [if_neg e]
   have : cl x' y' ≠ cl x y := fun q => e (cl_eq.1 q)
   simp [this]
theorem todo (h : AlS m0 m B mt mv mao mrs ov oao ors N0 M V W T tv) {M' : AM} {tv' : Value} {T' : List Cell} (hr : Row M' N0 2 tv' (cellcs T') T'.length) (hl : M.length ≤ M'.length) (hk : ∀ j, j < N0 → M'[j]? = M[j]?) : AlS m0 m B mt mv mao mrs ov oao ors N0 M' V W T' tv' := by
 have h1 := h.m1
 exact ⟨⟨by have := h.len; omega, fun j hj => by rw [hk j (by omega)]; exact h.low.keep j hj⟩, by have := h.len; omega, fun j hj hn => by rw [hk j (by omega)]; exact h.keep j hj hn, h.gm.stay (hk _ (by have := h.m2; omega)) fun y hy => hk _ (by have := h.m2.2 y hy; omega), h.go.stay (hk _ (by have := h.m3; omega)) fun y hy => hk _ (by have := h.m3.2.2 y hy; omega), hr, h.m1, h.m2, h.m3⟩
end AlS
theorem el22q : elemB Tryd.prog 22 = some (9, 1, 16, #[.string ByteArray.empty]) := by kernel_rfl
theorem un22q : Tryd.prog.underlying 22 = some (.slice 9) := by kernel_rfl
theorem bs22q {m : AM} {k : Nat} {x : ByteArray} : abuildSlice Tryd.prog m k 22 1 [(0, .string x)] = some (.slice (some ⟨k, 0, none⟩) 1 1, m.set k (some { cells := [.string x] })) := by kernel_rfl
theorem un96q : Tryd.prog.underlying 96 = some (.slice 5) := by kernel_rfl
theorem un5q : Tryd.prog.underlying 5 = some (.int .u8) := by kernel_rfl
theorem un9q : Tryd.prog.underlying 9 = some .string := by kernel_rfl
def rowU (B : Brd) (V : List Cell) (y : Nat) : List UInt8 := (List.range (bw B)).map fun x => if cl x y ∈ V then (rowOf B y)[x]?.getD 0 else 48
theorem rowU_len (B : Brd) (V : List Cell) (y : Nat) : (rowU B V y).length = bw B := by simp [rowU]
theorem rowU_cells (B : Brd) (V : List Cell) (y : Nat) : by8 (rowU B V y) = rgv (bw B) (outF B V y) := by
 unfold by8 rowU rgv outF byteAt
 rw [List.map_map]
 refine List.map_congr_left fun x _ => ?_
 simp only [Function.comp]
 split <;> rfl
def strU (B : Brd) (V : List Cell) (y : Nat) : ByteArray := ⟨(rowU B V y).toArray⟩
def brdU (B : Brd) (V : List Cell) : Brd := (List.range B.length).map (strU B V)
theorem brdU_len (B : Brd) (V : List Cell) : (brdU B V).length = B.length := by simp [brdU]
theorem brdU_row {B : Brd} {V : List Cell} {y : Nat} (hy : y < B.length) : rowOf (brdU B V) y = strU B V y := by
 unfold rowOf
 rw [getD_in _ _ (by rw [brdU_len]; exact hy)]
 simp [brdU]
theorem strU_size (B : Brd) (V : List Cell) (y : Nat) : (strU B V y).size = bw B := by
 show (rowU B V y).toArray.size = bw B
 simp [rowU_len]
theorem strU_at {B : Brd} {V : List Cell} {x y : Nat} (hx : x < bw B) : byteAt (strU B V y) x = if cl x y ∈ V then byteAt (rowOf B y) x else 48 := by
 have h : (strU B V y)[x]? = (rowU B V y)[x]? := by
  have hl := strU_size B V y
  rw [getElem?_pos (strU B V y) x (by omega), List.getElem?_eq_getElem (by rw [rowU_len]; exact hx)]
  rfl
 unfold byteAt
 rw [h]
 unfold rowU
 simp only [List.getElem?_map, List.getElem?_range hx, Option.map_some, Option.getD_some]
 split <;> rfl
theorem brdU_bw {B : Brd} {V : List Cell} (h0 : 0 < B.length) : bw (brdU B V) = bw B := by
 unfold bw
 rw [brdU_row h0, strU_size]
 rfl
theorem brdU_ok {B : Brd} {V : List Cell} (h : boardB B = true) : boardB (brdU B V) = true := by
 have h' := h
 simp only [boardB, Bool.and_eq_true, decide_eq_true_eq] at h'
 obtain ⟨hs, h16⟩ := h'
 have hs' := hs
 simp only [skinB, Bool.and_eq_true, decide_eq_true_eq] at hs'
 obtain ⟨⟨a1, a2, a3, a4⟩, _⟩ := hs'
 have hb : (rowOf (brdU B V) 0).size = bw B := by rw [brdU_row (by omega), strU_size]
 have hz : (rowOf B 0).size = bw B := rfl
 simp only [boardB, skinB, Bool.and_eq_true, decide_eq_true_eq, brdU_len, hb]
 refine ⟨⟨⟨a1, a2, by omega, by omega⟩, ?_⟩, by omega, by omega⟩
 rw [List.all_eq_true]
 intro s hsm
 obtain ⟨y, hy, rfl⟩ := List.mem_map.1 hsm
 have hyB := List.mem_range.1 hy
 simp only [rowB, Bool.and_eq_true, decide_eq_true_eq, List.all_eq_true, List.mem_range, strU_size]
 refine ⟨trivial, fun x hx => ?_⟩
 rw [strU_at hx]
 split
 ·exact (skin_row hs hyB).2 x hx
 ·omega
theorem brdU_part {B : Brd} {V : List Cell} {c : Cell} (h0 : 0 < B.length) (hV : ∀ d, d ∈ V ↔ Reach (usB B) c d) : PartOf B c (brdU B V) := by
 refine ⟨brdU_bw h0, by unfold bh; exact brdU_len B V, fun x y hx hy => ?_⟩
 have e : gr (brdU B V) x y = (((if cl x y ∈ V then byteAt (rowOf B y) x else 48 : Nat)) : Int) - 48 := by
  unfold gr
  rw [brdU_row hy, strU_at hx]
 rw [e]
 constructor
 ·intro hr
  rw [if_pos (show cl x y ∈ V from (hV _).2 hr)]; rfl
 ·intro hr
  rw [if_neg (fun q : cl x y ∈ V => hr ((hV _).1 q))]; rfl
def strsV (B : Brd) (V : List Cell) (j : Nat) : List Value := (List.range j).map fun y => .string (strU B V y)
theorem strsV_succ (B : Brd) (V : List Cell) (j : Nat) : strsV B V (j + 1) = strsV B V j ++ [.string (strU B V j)] := by
 unfold strsV; rw [List.range_succ, List.map_append]; rfl
theorem strsV_ok {B : Brd} {V : List Cell} {M : AM} {lo : Nat} {uv : Value} (h0 : 0 < B.length) (h : Row M lo 1 uv (strsV B V B.length) B.length) : Strs M uv (brdU B V) := by
 obtain ⟨a, kd, sz, _, h2, rfl, h3⟩ := h.pos h0
 refine ⟨a, 0, by rw [brdU_len]; exact Sl.mk (Nat.le_refl _), h2, fun y hy => ?_⟩
 rw [brdU_len] at hy
 refine ⟨_, h3, ?_⟩
 rw [brdU_row hy, Nat.zero_add]
 simp [strsV, hy]
theorem el95 : elemB Tryd.prog 95 = some (96, 1, 24, #[.slice none 0 0]) := by kernel_rfl
theorem el96b : elemB Tryd.prog 96 = some (5, 1, 1, #[.int .u8 0]) := by kernel_rfl
theorem el98 : elemB Tryd.prog 98 = some (97, 2, 16, #[.int .i64 0, .int .i64 0]) := by kernel_rfl
theorem un98 : Tryd.prog.underlying 98 = some (.slice 97) := by kernel_rfl
theorem bl97 {a b : Int} : abuild Tryd.prog 97 [(0, .int .i64 a), (1, .int .i64 b)] = some (.agg #[.int .i64 a, .int .i64 b]) := by kernel_rfl
theorem bs98 {m : AM} {k : Nat} {a b : Int} : abuildSlice Tryd.prog m k 98 1 [(0, .agg #[.int .i64 a, .int .i64 b])] = some (.slice (some ⟨k, 0, none⟩) 1 1, m.set k (some { cells := [.int .i64 a, .int .i64 b] })) := by kernel_rfl
theorem bs98d {m : AM} {k : Nat} {a b c d e f g h : Int} : abuildSlice Tryd.prog m k 98 4 [(0, .agg #[.int .i64 a, .int .i64 b]), (1, .agg #[.int .i64 c, .int .i64 d]), (2, .agg #[.int .i64 e, .int .i64 f]), (3, .agg #[.int .i64 g, .int .i64 h])] = some (.slice (some ⟨k, 0, none⟩) 4 4, m.set k (some { cells := [.int .i64 a, .int .i64 b, .int .i64 c, .int .i64 d, .int .i64 e, .int .i64 f, .int .i64 g, .int .i64 h] })) := by kernel_rfl
def zrow (i j : Nat) : Nat → Nat → Value := fun y x => if y < i then .int .u8 48 else if x < j then .int .u8 48 else .int .u8 0
def z48 : Nat → Nat → Value := fun _ _ => .int .u8 48
set_option maxHeartbeats 16000000 in
set_option maxRecDepth 100000 in
theorem Alone_ok {m0 m : AM} {sv mv : Value} {B : Brd} {x0 y0 : Nat} (hs : Strs m0 sv B) (hv : boardB B = true) (h0 : Low0 m0 m) {mt : Cell → Bool} {mao : Nat} {mrs : Nat → Nat} (hmg : GridP m (bw B) B.length B.length mv mao mrs (metF mt [])) (hmr : ∀ y, y < B.length → m0.length ≤ mrs y) (hu0 : usB B (cl x0 y0) = true) (hm0 : mt (cl x0 y0) = false) :
  ACall Tryd.prog 16 #[sv, .int .i64 (x0 : Int), .int .i64 (y0 : Int), mv] m (fun r M' => ∃ (uv : Value) (V T : List Cell), r = .tuple #[uv, .int .i64 ((V.length : Nat) : Int)] ∧ BF B (cl x0 y0) mt V T T.length ∧ Strs M' uv (brdU B V) ∧ m.length ≤ M'.length ∧ (∀ j, j < m.length → (∀ y, y < B.length → j ≠ mrs y) → M'[j]? = m[j]?) ∧ GridP M' (bw B) B.length B.length mv mao mrs (metF mt V)) := by
 have hsk : skinB B = true := by simp only [boardB, Bool.and_eq_true] at hv; exact hv.1
 have hbw : B.length ≤ 16 ∧ bw B ≤ 16 := by
  have := hv
  simp only [boardB, Bool.and_eq_true, decide_eq_true_eq] at this
  exact this.2
 have hB0 : 0 < B.length := by
  have : 1 ≤ B.length := by simp only [skinB, Bool.and_eq_true, decide_eq_true_eq] at hsk; exact hsk.1.1
  omega
 obtain ⟨A, O, sl, la, rd⟩ := id hs
 have z0 : (rowOf B 0).size = bw B := rfl
 refine ACall.start Tryd.func16 rfl rfl ?_
 obtain ⟨qq, cc, rfl⟩ := sl.shape
 (repeat (first|(with_reducible refine AWo.cons ?_)|((with_reducible refine Step.id ?_);first|((with_reducible apply Step.move);exact rfl;exact rfl)|((with_reducible apply Step.assign);exact rfl;exact rfl)|((with_reducible apply Step.len);exact rfl;((assumption));((decide +kernel));exact rfl)|((with_reducible apply Step.make1 0);exact rfl;exact rfl;exact rfl;exact el95;((omega));exact rfl;((first|(simp only [zq7, zq8, zq9, zq0, iv_set, bv_set, iv_rep, bv_rep] <;> rfl)|rfl))))|(with_reducible first|apply AWo.nil|apply AW.seq|apply Then.n|apply AW.regL|apply AW.block)))
 have hg0 : GridP (m ++ [some { cells := List.replicate B.length (.slice none 0 0) }]) (bw B) B.length 0 (.slice (some ⟨m.length + 0, 0, none⟩) B.length B.length) (m.length + 0) (fun _ => 0) z48 :=
  ⟨Sl.mk (Nat.le_refl _), ⟨_, .own, _, (get_app m _ 0).trans rfl, rfl, by simp, fun y hy => by omega⟩, fun y hy => by omega, fun y z hy => by omega, fun y hy => by omega⟩
 refine AW.midX 0 (fun t' M => ∃ rs, GridP M (bw B) B.length B.length (.slice (some ⟨m.length + 0, 0, none⟩) B.length B.length) (m.length + 0) rs z48 ∧ (∀ y, y < B.length → m.length ≤ rs y) ∧ Low0 m M ∧ All (fun i v => t' i = some v) [(0, .slice qq B.length cc), (1, .int .i64 (x0 : Int)), (2, .int .i64 (y0 : Int)), (3, mv), (10, .slice (some ⟨m.length + 0, 0, none⟩) B.length B.length)]) ?_ ?_
 ·refine AW.loopW (fun z t M => ∃ (i : Nat) (rs : Nat → Nat), z = B.length - i ∧ i ≤ B.length ∧ GridP M (bw B) B.length i (.slice (some ⟨m.length + 0, 0, none⟩) B.length B.length) (m.length + 0) rs z48 ∧ (∀ y, y < i → m.length ≤ rs y) ∧ Low0 m M ∧
   t = fr [(0, .slice qq B.length cc), (1, .int .i64 (x0 : Int)), (2, .int .i64 (y0 : Int)), (3, mv), (10, .slice (some ⟨m.length + 0, 0, none⟩) B.length B.length), (25, .int .i64 (B.length : Int)), (26, .int .i64 ((i : Nat) : Int))]) ⟨_, [(0, .slice qq B.length cc), (1, .int .i64 (x0 : Int)), (2, .int .i64 (y0 : Int)), (3, mv), (10, .slice (some ⟨m.length + 0, 0, none⟩) B.length B.length), (25, .int .i64 (B.length : Int)), (26, .int .i64 ((0 : Nat) : Int))], (by repeat (first | exact trivial | (refine And.intro rfl ?_))), 0, _, rfl, Nat.zero_le _, hg0, fun y hy => by omega, ⟨by simp, fun j hj => List.getElem?_append_left hj⟩, rfl⟩ ?_
  clear hg0
  rintro z t M ⟨i, rs, rfl, hi, hg, hge, hlo, rfl⟩
  have slo := hg.sl
  have r0 := fun T => (h0.trans hlo).rd (rd 0 hB0) T
  rcases Nat.lt_or_ge i B.length with hlt | hgt
  ·refine AW.rebase ?_
   (repeat (first|(with_reducible refine AWo.cons ?_)|((with_reducible refine Step.id ?_);first|((with_reducible apply Step.move);exact rfl;exact rfl)|((with_reducible apply Step.assign);exact rfl;exact rfl)|((with_reducible apply Step.load);exact rfl;((decide +kernel));exact rfl;((exact r0 _)))|((with_reducible apply Step.ix1z);exact rfl;((assumption));exact rfl;((decide +kernel));exact rfl;((omega)))|((with_reducible apply Step.ix1);exact rfl;((assumption));exact rfl;((decide +kernel));exact rfl;((omega)))|((with_reducible apply Step.lenS);exact rfl;exact un9;exact rfl)|((with_reducible apply Step.lss);exact rfl;exact rfl;exact rfl)|((with_reducible apply Step.make1 0);exact rfl;exact rfl;exact rfl;exact el96b;((omega));exact rfl;((first|(simp only [zq7, zq8, zq9, zq0, iv_set, bv_set, iv_rep, bv_rep] <;> rfl)|rfl))))|(with_reducible first|apply AWo.nil|apply AW.seq|apply Then.n|apply AW.regL|apply AW.block|apply AW.skip)|((with_reducible apply AW.condT);exact rfl;(((simp only [zq1, zq2, zq3, zq4, zq5, zq6];first|assumption|omega))))))
   obtain ⟨cs, kd, sz, ho1, ho2, ho3, _⟩ := hg.out
   rw [z0, rgv_rep]
   ((with_reducible apply Step.storeAt);exact rfl;exact rfl;exact (get_old _ ho1);((kernel_rfl));exact ho2;((omega));exact rfl;exact rfl)
   have hg1 := (hg.push (g := fun _ => .int .u8 0) hlt ho1).congr (g := zrow i 0) (fun y x hy hx => by
    unfold zrow
    by_cases e : y = i
    ·subst e; simp
    ·rw [if_neg e, if_pos (by omega)]; rfl)
   have hge1 : ∀ y, y < i + 1 → m.length ≤ (fun y => if y = i then M.length + 0 else rs y) y := fun y hy => by
    have := hlo.len
    by_cases e : y = i
    ·simp only [if_pos e]; omega
    ·simp only [if_neg e]; exact hge y (by omega)
   have hlo1 := (hlo.old [some { cells := rgv (bw B) (fun _ => .int .u8 0) }]).set (j := m.length + 0) (by omega) (some { cells := cs.set i (.slice (some ⟨M.length + 0, 0, none⟩) (bw B) (bw B)), kind := kd, size := sz })
   generalize (fun y => if y = i then M.length + 0 else rs y) = rs1 at *
   generalize List.set (M ++ [some { cells := rgv (bw B) (fun _ => .int .u8 0) }]) (m.length + 0) (some { cells := cs.set i (.slice (some ⟨M.length + 0, 0, none⟩) (bw B) (bw B)), kind := kd, size := sz }) = Z at *
   clear ho1 ho2 ho3 hg hge hlo r0
   have rr := fun T => hg1.rdr (y := i) (by omega) T
   rw [← List.append_nil Z]
   (repeat (first|(with_reducible refine AWo.cons ?_)|((with_reducible refine Step.id ?_);first|((with_reducible apply Step.move);exact rfl;exact rfl)|((with_reducible apply Step.load);exact rfl;((decide +kernel));exact rfl;((exact rr _)))|((with_reducible apply Step.ix1z);exact rfl;((assumption));exact rfl;((decide +kernel));exact rfl;((omega)))|((with_reducible apply Step.len);exact rfl;((exact Sl.mk (by omega)));((decide +kernel));exact rfl))|(with_reducible first|apply AWo.nil|apply AW.seq|apply Then.n|apply AW.regL|apply AW.block)))
   refine AW.midX 2 (fun t' M => GridP M (bw B) B.length (i + 1) (.slice (some ⟨m.length + 0, 0, none⟩) B.length B.length) (m.length + 0) rs1 z48 ∧ Low0 m M ∧ All (fun i v => t' i = some v) [(0, .slice qq B.length cc), (1, .int .i64 (x0 : Int)), (2, .int .i64 (y0 : Int)), (3, mv), (10, .slice (some ⟨m.length + 0, 0, none⟩) B.length B.length), (25, .int .i64 (B.length : Int)), (26, .int .i64 ((i : Nat) : Int))]) ?_ ?_
   ·refine AW.loopW (fun z t M => ∃ (j : Nat), z = bw B - j ∧ j ≤ bw B ∧ GridP M (bw B) B.length (i + 1) (.slice (some ⟨m.length + 0, 0, none⟩) B.length B.length) (m.length + 0) rs1 (zrow i j) ∧ Low0 m M ∧
     t = fr [(0, .slice qq B.length cc), (1, .int .i64 (x0 : Int)), (2, .int .i64 (y0 : Int)), (3, mv), (10, .slice (some ⟨m.length + 0, 0, none⟩) B.length B.length), (11, .int .i64 ((i : Nat) : Int)), (25, .int .i64 (B.length : Int)), (26, .int .i64 ((i : Nat) : Int)), (41, .int .i64 (bw B : Int)), (42, .int .i64 ((j : Nat) : Int))]) ⟨_, [(0, .slice qq B.length cc), (1, .int .i64 (x0 : Int)), (2, .int .i64 (y0 : Int)), (3, mv), (10, .slice (some ⟨m.length + 0, 0, none⟩) B.length B.length), (11, .int .i64 ((i : Nat) : Int)), (25, .int .i64 (B.length : Int)), (26, .int .i64 ((i : Nat) : Int)), (41, .int .i64 (bw B : Int)), (42, .int .i64 ((0 : Nat) : Int))], (by repeat (first | exact trivial | (refine And.intro rfl ?_))), 0, rfl, Nat.zero_le _, hg1.old _, hlo1.old _, rfl⟩ ?_
    clear hg1 hlo1 rr
    rintro z t M ⟨j, rfl, hj, hg, hlo, rfl⟩
    have rr := fun T => hg.rdr (y := i) (by omega) T
    have slo := hg.sl
    rcases Nat.lt_or_ge j (bw B) with hjl | hjg
    ·refine AW.rebase ?_
     (repeat (first|(with_reducible refine AWo.cons ?_)|((with_reducible refine Step.id ?_);first|((with_reducible apply Step.move);exact rfl;exact rfl)|((with_reducible apply Step.assign);exact rfl;exact rfl)|((with_reducible apply Step.load);exact rfl;((decide +kernel));exact rfl;((exact rr _)))|((with_reducible apply Step.ix1z);exact rfl;((first|assumption|exact Sl.mk (by omega)));exact rfl;((decide +kernel));exact rfl;((omega)))|((with_reducible apply Step.lss);exact rfl;exact rfl;exact rfl))|(with_reducible first|apply AWo.nil|apply AW.seq|apply Then.n|apply AW.regL|apply AW.block|apply AW.skip)|((with_reducible apply AW.condT);exact rfl;(((simp only [zq1, zq2, zq3, zq4, zq5, zq6];first|assumption|omega))))))
     ((with_reducible apply Step.storeAt);exact rfl;exact rfl;exact (get_old _ (hg.row i (by omega)));((kernel_rfl));exact rfl;((rw [rgv_len];exact hjl));exact rfl;exact rfl)
     have hg2 := (hg.set (x := j) (y := i) (by omega) (.int .u8 48)).congr (g := zrow i (j + 1)) (fun y x hy hx => by
      unfold zrow
      by_cases e : y < i
      ·simp [e]
      ·obtain rfl : y = i := by omega
       by_cases e2 : x = j
       ·subst e2; simp
       ·by_cases e3 : x < j
        ·simp [e2, e3, show x < j + 1 by omega]
        ·simp [e2, e3, show ¬ x < j + 1 by omega])
     have hlo2 := hlo.set (j := rs1 i) (hge1 i (by omega)) (some { cells := (rgv (bw B) (zrow i j i)).set j (.int .u8 48) })
     rw [List.append_nil]
     generalize List.set M (rs1 i) (some { cells := (rgv (bw B) (zrow i j i)).set j (.int .u8 48) }) = Y at *
     rw [← List.append_nil Y]
     (repeat (first|(with_reducible refine AWo.cons ?_)|((with_reducible refine Step.id ?_);first|((with_reducible apply Step.move);exact rfl;exact rfl)|((with_reducible apply Step.add);exact rfl;exact rfl;((omega));exact rfl))|(with_reducible first|apply AWo.nil|apply Then.n|apply AW.regL|apply InBlk.n)))
     exact ⟨_, [(0, .slice qq B.length cc), (1, .int .i64 (x0 : Int)), (2, .int .i64 (y0 : Int)), (3, mv), (10, .slice (some ⟨m.length + 0, 0, none⟩) B.length B.length), (11, .int .i64 ((i : Nat) : Int)), (25, .int .i64 (B.length : Int)), (26, .int .i64 ((i : Nat) : Int)), (41, .int .i64 (bw B : Int)), (42, .int .i64 ((j + 1 : Nat) : Int))], by omega, (by repeat (first | exact trivial | (refine And.intro rfl ?_))), j + 1, rfl, by omega, hg2.old _, hlo2.old _, rfl⟩
    ·obtain rfl : j = bw B := by omega
     refine AW.rebase ?_
     (repeat (first|(with_reducible refine AWo.cons ?_)|((with_reducible refine Step.id ?_);((with_reducible apply Step.lss);exact rfl;exact rfl;exact rfl))|(with_reducible first|apply AWo.nil|apply AW.seq|apply Then.n|apply AW.regL|apply AW.exit|apply Then.e)|((with_reducible apply AW.condF);exact rfl;(((simp only [zq1, zq2, zq3, zq4, zq5, zq6];first|assumption|omega))))))
     exact ⟨rfl, (hg.congr (g := z48) fun y x hy hx => by unfold zrow z48; by_cases e : y < i <;> simp [e, hx]).old _, hlo.old _, (by repeat (first | exact trivial | (refine And.intro rfl ?_)))⟩
   ·rintro t' M ⟨hg, hlo, hsl⟩
    refine InBlk.hit ?_
    refine InBlk.n ?_
    refine Then.n ?_
    refine AW.weak (fr_all hsl) ?_
    clear hsl
    rw [← List.append_nil M]
    (repeat (first|(with_reducible refine AWo.cons ?_)|((with_reducible refine Step.id ?_);first|((with_reducible apply Step.move);exact rfl;exact rfl)|((with_reducible apply Step.add);exact rfl;exact rfl;((omega));exact rfl))|(with_reducible first|apply AWo.nil|apply Then.n|apply AW.regL)))
    exact ⟨_, [(0, .slice qq B.length cc), (1, .int .i64 (x0 : Int)), (2, .int .i64 (y0 : Int)), (3, mv), (10, .slice (some ⟨m.length + 0, 0, none⟩) B.length B.length), (25, .int .i64 (B.length : Int)), (26, .int .i64 ((i + 1 : Nat) : Int))], by omega, (by repeat (first | exact trivial | (refine And.intro rfl ?_))), i + 1, rs1, rfl, by omega, hg.old _, hge1, hlo.old _, rfl⟩
  ·obtain rfl : i = B.length := by omega
   refine AW.rebase ?_
   (repeat (first|(with_reducible refine AWo.cons ?_)|((with_reducible refine Step.id ?_);((with_reducible apply Step.lss);exact rfl;exact rfl;exact rfl))|(with_reducible first|apply AWo.nil|apply AW.seq|apply Then.n|apply AW.regL|apply AW.exit|apply Then.e)|((with_reducible apply AW.condF);exact rfl;(((simp only [zq1, zq2, zq3, zq4, zq5, zq6];first|assumption|omega))))))
   exact ⟨rfl, rs, hg.old _, hge, hlo.old _, (by repeat (first | exact trivial | (refine And.intro rfl ?_)))⟩
 ·rintro t' M1 ⟨ors, hg, hge, hlo, hsl⟩
  refine InBlk.hit ?_
  refine Then.n ?_
  refine AW.weak (fr_all hsl) ?_
  clear hsl
  rw [← List.append_nil M1]
  (repeat (first|(with_reducible refine AWo.cons ?_)|((with_reducible refine Step.id ?_);first|((with_reducible apply Step.move);exact rfl;exact rfl)|((with_reducible apply Step.assign);exact rfl;exact rfl)|((with_reducible apply Step.buildS 0);exact rfl;exact rfl;exact (fun _ _ => bs98);exact rfl;((first|(simp only [zq7, zq8, zq9, zq0, iv_set, bv_set, iv_rep, bv_rep] <;> rfl)|rfl)))|((with_reducible apply Step.build);exact rfl;exact bl97;exact rfl))|(with_reducible first|apply AWo.nil|apply AW.seq|apply Then.n|apply AW.regL|apply AW.block)))
  obtain ⟨N0, hN0⟩ : ∃ N0, N0 = M1.length := ⟨_, rfl⟩
  have hS0 : AlS m0 m B mt mv mao mrs (.slice (some ⟨m.length + 0, 0, none⟩) B.length B.length) (m.length + 0) ors N0 (M1 ++ [some { cells := [.int .i64 (x0 : Int), .int .i64 (y0 : Int)] }]) [] [] [cl x0 y0] (.slice (some ⟨M1.length + 0, 0, none⟩) 1 1) := by
   have h1 := h0.len
   have h2 := hlo.len
   have ha := hmg.aolt
   refine ⟨(h0.trans hlo).old _, by rw [List.length_append]; omega, fun j hj _ => by rw [List.getElem?_append_left (by omega)]; exact hlo.keep j hj, (hmg.stay (M' := M1) (hlo.keep _ ha) fun y hy => hlo.keep _ (hmg.rlt hy)).old _, (hg.congr fun y x _ _ => by simp [z48, outF]).old _, .inr ⟨M1.length + 0, .own, _, by omega, rfl, (get_app M1 _ 0).trans rfl, rfl, .inl rfl⟩, by omega, ⟨ha, fun y hy => ⟨hmr y hy, hmg.rlt hy⟩⟩, by omega, by have := hg.aolt; omega, fun y hy => ⟨hge y hy, by rw [hN0]; exact hg.rlt hy⟩⟩
  have hC : bw B * bh B ≤ 256 := Nat.mul_le_mul hbw.2 (show bh B ≤ 16 from hbw.1)
  refine AW.midX 4 (fun t' M => ∃ (V T : List Cell) (tv : Value), BF B (cl x0 y0) mt V T T.length ∧ AlS m0 m B mt mv mao mrs (.slice (some ⟨m.length + 0, 0, none⟩) B.length B.length) (m.length + 0) ors N0 M V V T tv ∧ All (fun i v => t' i = some v) [(10, .slice (some ⟨m.length + 0, 0, none⟩) B.length B.length), (13, .int .i64 ((V.length : Nat) : Int))]) ?_ ?_
  ·refine AW.loopW (fun z t M => ∃ (i : Nat) (V T : List Cell) (tv : Value), z = 1025 - i ∧ BF B (cl x0 y0) mt V T i ∧ AlS m0 m B mt mv mao mrs (.slice (some ⟨m.length + 0, 0, none⟩) B.length B.length) (m.length + 0) ors N0 M V V T tv ∧
    t = fr [(0, .slice qq B.length cc), (3, mv), (10, .slice (some ⟨m.length + 0, 0, none⟩) B.length B.length), (13, .int .i64 ((V.length : Nat) : Int)), (14, tv), (15, .int .i64 ((i : Nat) : Int))]) ⟨_, [(0, .slice qq B.length cc), (3, mv), (10, .slice (some ⟨m.length + 0, 0, none⟩) B.length B.length), (13, .int .i64 ((([] : List Cell).length : Nat) : Int)), (14, .slice (some ⟨M1.length + 0, 0, none⟩) 1 1), (15, .int .i64 ((0 : Nat) : Int))], (by repeat (first | exact trivial | (refine And.intro rfl ?_))), 0, [], [cl x0 y0], _, rfl, BF.start, hS0, rfl⟩ ?_
   clear hS0 hg hge hlo hN0
   rintro z t M ⟨i, V, T, tv, rfl, hB, hS, rfl⟩
   have hVl := hB.vlen
   have hTl := hB.len
   have hTp : 0 < T.length := by omega
   have hil := hB.le
   obtain ⟨ta, tkd, tsz, tr1, tr2, rfl, tr3⟩ := hS.row.pos hTp
   rcases Nat.lt_or_ge i T.length with hlt | hge
   ·obtain ⟨d, hd⟩ : ∃ d, T[i]? = some d := ⟨_, List.getElem?_eq_getElem hlt⟩
    have rt : ∀ X, RdL (M ++ X) ta (i * 2) [.int .i64 d.1, .int .i64 d.2] := fun X => RdL.old X ⟨_, tr3, fun j v hj => cellcs_get hd j v hj⟩
    have rt0 : ∀ X, Rd (M ++ X) ta (i * 2 + 0) (.int .i64 d.1) := fun X => (rt X).at_ 0 rfl
    have rt1 : ∀ X, Rd (M ++ X) ta (i * 2 + 1) (.int .i64 d.2) := fun X => (rt X).at_ 1 rfl
    refine AW.rebase ?_
    (repeat (first|(with_reducible refine AWo.cons ?_)|((with_reducible refine Step.id ?_);first|((with_reducible apply Step.move);exact rfl;exact rfl)|((with_reducible apply Step.lss);exact rfl;exact rfl;exact rfl)|((with_reducible apply Step.len);exact rfl;((exact Sl.mk (by omega)));((decide +kernel));exact rfl))|(with_reducible apply AWo.nil)|((fail_if_success (with_reducible refine AW.atR (id := 17) ?_));(with_reducible apply AW.seq))|(with_reducible first|apply Then.n|apply AW.regL|apply AW.block|apply AW.skip)|((with_reducible apply AW.condT);exact rfl;(((simp only [zq1, zq2, zq3, zq4, zq5, zq6];first|assumption|omega))))))
    refine AW.seq ?_
    refine AW.flatN fit [(0, .slice qq B.length cc), (3, mv), (10, .slice (some ⟨m.length + 0, 0, none⟩) B.length B.length), (13, .int .i64 ((V.length : Nat) : Int)), (14, .slice (some ⟨ta, 0, none⟩) T.length T.length), (15, .int .i64 ((i : Nat) : Int))] [(0, .slice qq B.length cc), (3, mv), (10, .slice (some ⟨m.length + 0, 0, none⟩) B.length B.length), (13, .int .i64 ((V.length : Nat) : Int)), (14, .slice (some ⟨ta, 0, none⟩) T.length T.length), (15, .int .i64 ((i : Nat) : Int)), (16, .int .i64 d.1), (17, .int .i64 d.2)] [0, 3, 10, 13, 14, 15] [[], [], [1, 0], [0], [0], [], [], [1, 0], [0], [0], [5, 9, 8, 7, 6, 5], [1, 0, 10, 9, 8, 7, 6, 5, 4, 3, 2, 1, 0]] (by repeat (first | exact trivial | (refine And.intro rfl ?_))) rfl (by decide +kernel) ?_ ?_
    ·(repeat (first|((with_reducible refine Step.id ?_);first|((with_reducible apply Step.move);exact rfl;exact rfl)|((with_reducible apply Step.assign);exact rfl;exact rfl)|((with_reducible apply Step.load);exact rfl;((decide +kernel));exact rfl;((first|exact rt0 _|exact rt1 _)))|((with_reducible apply Step.ixz (s := 2));exact rfl;((exact Sl.mk (by omega)));exact rfl;((decide +kernel));exact rfl;((omega)))|((with_reducible apply Step.ixA (s := 1) (n := 2) (k := 0));exact rfl;exact rfl;((kernel_rfl));exact rfl;((omega)))|((with_reducible apply Step.ixA (s := 1) (n := 2) (k := 1));exact rfl;exact rfl;((kernel_rfl));exact rfl;((omega))))|(apply AWf.cons;exact rfl)|exact ⟨put_same _ _ _, rfl⟩|(with_reducible apply AWf.nil)))
     exact (by repeat (first | exact trivial | (refine And.intro rfl ?_)))
    ·intro t2 ht2
     refine Then.n ?_
     refine AW.weak ht2 ?_
     clear ht2 t2
     obtain ⟨dx, dy⟩ := d
     simp only at *
     have hgr := fun X => RGrade_any ((hS.low.old X).strs hs) hsk dx dy
     have hue := usB_eq B (dx, dy)
     by_cases hgz : 1 ≤ grz B (dx, dy)
     ·rw [decide_eq_true hgz] at hue
      have hdu := of_decide_eq_true hue
      simp only at hdu
      obtain ⟨u, rfl⟩ := Int.eq_ofNat_of_zero_le hdu.1
      obtain ⟨v, rfl⟩ := Int.eq_ofNat_of_zero_le hdu.2.1
      have hvB : v < B.length := by have := hdu.2.2.2.1; unfold bh at this; omega
      have huB : u < bw B := by omega
      have rm1 := fun X => hS.gm.rdr hvB X
      have rm2 := fun X => hS.gm.rd hvB huB X
      have slm := hS.gm.sl
      rw [show metF mt V v u = .bool (mt (cl u v) || decide (cl u v ∈ V)) from rfl] at rm2
      cases hmk : (mt (cl u v) || decide (cl u v ∈ V)) with
      | true =>
       rw [hmk] at rm2
       (repeat (first|(with_reducible refine AWo.cons ?_)|((with_reducible refine Step.id ?_);first|((with_reducible apply Step.gdT);exact rfl;exact rfl;(((simp only [zq1, zq2, zq3, zq4, zq5, zq6];first|assumption|omega))))|((with_reducible apply Step.move);exact rfl;exact rfl)|((with_reducible apply Step.assign);exact rfl;exact rfl)|((with_reducible apply Step.load);exact rfl;((decide +kernel));exact rfl;((first|exact rm1 _|exact rm2 _)))|((with_reducible apply Step.ix1z);exact rfl;((first|assumption|exact Sl.mk (by omega)));exact rfl;((decide +kernel));exact rfl;((omega)))|((with_reducible apply Step.add);exact rfl;exact rfl;((omega));exact rfl)|((with_reducible apply Step.lss);exact rfl;exact rfl;exact rfl)|((with_reducible apply Step.pickF);exact rfl;exact rfl;exact rfl;exact rfl;(((simp only [zq1, zq2, zq3, zq4, zq5, zq6];first|assumption|omega))))|((with_reducible apply Step.callR fit);exact rfl;exact Tryd.func15;exact rfl;exact rfl;exact (hgr _)))|(with_reducible first|apply AWo.nil|apply AW.seq|apply Then.n|apply AW.regL|apply AW.exit|apply InBlk.hit|apply Then.e)|((with_reducible apply AW.condT);exact rfl;((rfl)))))
       exact ⟨_, [(0, .slice qq B.length cc), (3, mv), (10, .slice (some ⟨m.length + 0, 0, none⟩) B.length B.length), (13, .int .i64 ((V.length : Nat) : Int)), (14, .slice (some ⟨ta, 0, none⟩) T.length T.length), (15, .int .i64 ((i + 1 : Nat) : Int))], by omega, (by repeat (first | exact trivial | (refine And.intro rfl ?_))), i + 1, V, T, _, rfl, hB.skip hd (fun _ => ((Bool.or_eq_true ..).mp hmk).imp id of_decide_eq_true), hS.old _, rfl⟩
      | false =>
       rw [hmk] at rm2
       have hnew : mt ((u : Int), (v : Int)) = false ∧ ((u : Int), (v : Int)) ∉ V := ⟨(Bool.or_eq_false_iff.1 hmk).1, of_decide_eq_false (Bool.or_eq_false_iff.1 hmk).2⟩
       (repeat (first|(with_reducible refine AWo.cons ?_)|((with_reducible refine Step.id ?_);first|((with_reducible apply Step.gdT);exact rfl;exact rfl;(((simp only [zq1, zq2, zq3, zq4, zq5, zq6];first|assumption|omega))))|((with_reducible apply Step.move);exact rfl;exact rfl)|((with_reducible apply Step.load);exact rfl;((decide +kernel));exact rfl;((first|exact rm1 _|exact rm2 _)))|((with_reducible apply Step.ix1z);exact rfl;((first|assumption|exact Sl.mk (by omega)));exact rfl;((decide +kernel));exact rfl;((omega)))|((with_reducible apply Step.lss);exact rfl;exact rfl;exact rfl)|((with_reducible apply Step.pickF);exact rfl;exact rfl;exact rfl;exact rfl;(((simp only [zq1, zq2, zq3, zq4, zq5, zq6];first|assumption|omega))))|((with_reducible apply Step.callR fit);exact rfl;exact Tryd.func15;exact rfl;exact rfl;exact (hgr _)))|(with_reducible apply AWo.nil)|((fail_if_success (with_reducible refine AW.atR (id := 20) ?_));(with_reducible apply AW.seq))|(with_reducible first|apply Then.n|apply AW.regL|apply AW.skip)|((with_reducible apply AW.condF);exact rfl;((rfl)))))
       ((with_reducible apply Step.storeAt);exact rfl;exact rfl;exact (get_old _ (hS.gm.row v hvB));((kernel_rfl));exact rfl;((rw [rgv_len];exact huB));exact rfl;exact rfl)
       rw [List.append_nil]
       have hS1 := hS.mark (x := u) hvB
       generalize List.set M (mrs v) (some { cells := (rgv (bw B) (metF mt V v)).set u (.bool true) }) = M2 at *
       have slo := hS1.go.sl
       have ro1 := fun X => hS1.go.rdr hvB X
       have rb := fun X => hS1.low.rd (rd v hvB) X
       have zv : (rowOf B v).size = bw B := (skin_row hsk hvB).1
       rw [← List.append_nil M2]
       (repeat (first|(with_reducible first|apply AWo.nil|apply Then.n)))
       refine AW.seq ?_
       refine AW.flatM fit [(0, .slice qq B.length cc), (3, mv), (10, .slice (some ⟨m.length + 0, 0, none⟩) B.length B.length), (13, .int .i64 ((V.length : Nat) : Int)), (14, .slice (some ⟨ta, 0, none⟩) T.length T.length), (15, .int .i64 ((i : Nat) : Int)), (16, .int .i64 ((u : Nat) : Int)), (17, .int .i64 ((v : Nat) : Int))] [0, 3, 10, 13, 14, 15, 16, 17] [[], [], [1, 0], [0], [], [], [], [1, 0], [0], [], [1, 0], [7, 6, 10, 9, 8, 7, 6, 5, 4, 3, 2, 1, 0], [0, 1, 11, 10, 9, 8, 7, 6, 5, 4, 3, 2, 1]] (by repeat (first | exact trivial | (refine And.intro rfl ?_))) rfl (by decide +kernel) ?_
       (repeat (first|((with_reducible refine Step.id ?_);first|((with_reducible apply Step.move);exact rfl;exact rfl)|((with_reducible apply Step.load);exact rfl;((decide +kernel));exact rfl;((first|exact ro1 _|exact rb _)))|((with_reducible apply Step.ix1z);exact rfl;((first|assumption|exact Sl.mk (by omega)));exact rfl;((decide +kernel));exact rfl;((omega)))|((with_reducible apply Step.ix1);exact rfl;((assumption));exact rfl;((decide +kernel));exact rfl;((omega)))|((with_reducible apply Step.strIx);exact rfl;exact rfl;exact un9;((omega));exact rfl))|(apply AWfL.cons;exact rfl)|(with_reducible apply AWfL.last)|exact ⟨put_same _ _ _, rfl⟩))
       ((with_reducible apply Step.storeAt);exact rfl;exact rfl;exact (get_old _ (hS1.go.row v hvB));((kernel_rfl));exact rfl;((rw [rgv_len];exact huB));exact rfl;exact rfl)
       rw [List.append_nil]
       have hS2 := hS1.write (x := u) hvB
       generalize List.set M2 (ors v) (some { cells := (rgv (bw B) (outF B V v)).set u (.int .u8 ((byteAt (rowOf B v) u : Nat) : Int)) }) = M3 at *
       intro t2 ht2
       refine Then.n ?_
       refine AW.weak (fr_all (show All (fun i v => t2 i = some v) [(0, .slice qq B.length cc), (3, mv), (10, .slice (some ⟨m.length + 0, 0, none⟩) B.length B.length), (13, .int .i64 ((V.length : Nat) : Int)), (14, .slice (some ⟨ta, 0, none⟩) T.length T.length), (15, .int .i64 ((i : Nat) : Int)), (16, .int .i64 ((u : Nat) : Int)), (17, .int .i64 ((v : Nat) : Int))] by repeat (first | exact trivial | refine And.intro (ht2 _ _ rfl) ?_))) ?_
       clear ht2 t2
       rw [← List.append_nil M3]
       (repeat (first|(with_reducible refine AWo.cons ?_)|((with_reducible refine Step.id ?_);first|((with_reducible apply Step.move);exact rfl;exact rfl)|((with_reducible apply Step.assign);exact rfl;exact rfl)|((with_reducible apply Step.add);exact rfl;exact rfl;((omega));exact rfl)|((with_reducible apply Step.sub);exact rfl;exact rfl;((omega));exact rfl)|((with_reducible apply Step.buildS 0);exact rfl;exact rfl;exact (fun _ _ => bs98d);exact rfl;((first|(simp only [zq7, zq8, zq9, zq0, iv_set, bv_set, iv_rep, bv_rep] <;> rfl)|rfl)))|((with_reducible apply Step.build);exact rfl;exact bl97;exact rfl))|(with_reducible first|apply AWo.nil|apply AW.seq|apply Then.n|apply AW.regL)))
       ((with_reducible apply Step.appRow2 (s := 2) (n := T.length) (xl := 4) (b0 := N0) (c := cellcs T) (new := [.int .i64 ((u : Int) + 1), .int .i64 (v : Int), .int .i64 ((u : Int) - 1), .int .i64 (v : Int), .int .i64 (u : Int), .int .i64 ((v : Int) + 1), .int .i64 (u : Int), .int .i64 ((v : Int) - 1)]));exact rfl;exact rfl;exact (hS2.row.old _);exact (Sl.mk (Nat.le_refl _));exact (fun _ => RdL.new rfl rfl);exact el98;exact un98;exact rfl;exact rfl;exact rfl;((omega));exact rfl;((have := hS2.len;simp only [List.length_append];omega)))
       intro tv2 M4 hr4 hml4 hk4 _
       have hcs : cellcs T ++ [.int .i64 ((u : Int) + 1), .int .i64 (v : Int), .int .i64 ((u : Int) - 1), .int .i64 (v : Int), .int .i64 (u : Int), .int .i64 ((v : Int) + 1), .int .i64 (u : Int), .int .i64 ((v : Int) - 1)] = cellcs (T ++ nb4 (cl u v)) := by rw [cellcs_app]; rfl
       rw [hcs, show T.length + 4 = (T ++ nb4 (cl u v)).length by simp [nb4]] at hr4
       have hS3 := hS2.todo hr4 (by rw [List.length_append] at hml4; omega) (fun j hj => by
        have := hS2.len
        rw [hk4 j (by rw [List.length_append]; omega) (NotOf.row hS2.row hj), List.getElem?_append_left (by omega)])
       have hB2 := hB.take (d := cl u v) hd hue hnew.1 hnew.2
       rw [← List.append_nil M4]
       (repeat (first|(with_reducible refine AWo.cons ?_)|((with_reducible refine Step.id ?_);first|((with_reducible apply Step.move);exact rfl;exact rfl)|((with_reducible apply Step.assign);exact rfl;exact rfl)|((with_reducible apply Step.add);exact rfl;exact rfl;((omega));exact rfl))|(with_reducible first|apply AWo.nil|apply Then.n|apply AW.regL|apply InBlk.n)))
       exact ⟨_, [(0, .slice qq B.length cc), (3, mv), (10, .slice (some ⟨m.length + 0, 0, none⟩) B.length B.length), (13, .int .i64 ((V ++ [cl u v]).length : Nat)), (14, tv2), (15, .int .i64 ((i + 1 : Nat) : Int))], by omega, by rw [List.length_append]; exact (by repeat (first | exact trivial | (refine And.intro rfl ?_))), i + 1, V ++ [cl u v], T ++ nb4 (cl u v), tv2, rfl, hB2, hS3.old _, rfl⟩
     ·(repeat (first|(with_reducible refine AWo.cons ?_)|((with_reducible refine Step.id ?_);first|((with_reducible apply Step.gdF);exact rfl;exact rfl;(((simp only [zq1, zq2, zq3, zq4, zq5, zq6];first|assumption|omega))))|((with_reducible apply Step.move);exact rfl;exact rfl)|((with_reducible apply Step.assign);exact rfl;exact rfl)|((with_reducible apply Step.add);exact rfl;exact rfl;((omega));exact rfl)|((with_reducible apply Step.lss);exact rfl;exact rfl;exact rfl)|((with_reducible apply Step.pickT);exact rfl;exact rfl;exact rfl;exact rfl;(((simp only [zq1, zq2, zq3, zq4, zq5, zq6];first|assumption|omega))))|((with_reducible apply Step.callR fit);exact rfl;exact Tryd.func15;exact rfl;exact rfl;exact (hgr _)))|(with_reducible first|apply AWo.nil|apply AW.seq|apply Then.n|apply AW.regL|apply AW.exit|apply InBlk.hit|apply Then.e)|((with_reducible apply AW.condT);exact rfl;((rfl)))))
      have hus : usB B (dx, dy) = false := by rw [hue]; exact decide_eq_false hgz
      exact ⟨_, [(0, .slice qq B.length cc), (3, mv), (10, .slice (some ⟨m.length + 0, 0, none⟩) B.length B.length), (13, .int .i64 ((V.length : Nat) : Int)), (14, .slice (some ⟨ta, 0, none⟩) T.length T.length), (15, .int .i64 ((i + 1 : Nat) : Int))], by omega, (by repeat (first | exact trivial | (refine And.intro rfl ?_))), i + 1, V, T, _, rfl, hB.skip hd (fun q => by rw [hus] at q; cases q), hS.old _, rfl⟩
   ·obtain rfl : i = T.length := by omega
    refine AW.rebase ?_
    (repeat (first|(with_reducible refine AWo.cons ?_)|((with_reducible refine Step.id ?_);first|((with_reducible apply Step.move);exact rfl;exact rfl)|((with_reducible apply Step.lss);exact rfl;exact rfl;exact rfl)|((with_reducible apply Step.len);exact rfl;((exact Sl.mk (by omega)));((decide +kernel));exact rfl))|(with_reducible first|apply AWo.nil|apply AW.seq|apply Then.n|apply AW.regL|apply AW.exit|apply Then.e)|((with_reducible apply AW.condF);exact rfl;(((simp only [zq1, zq2, zq3, zq4, zq5, zq6];first|assumption|omega))))))
    exact ⟨rfl, V, T, _, hB, hS.old _, (by repeat (first | exact trivial | (refine And.intro rfl ?_)))⟩
  ·clear hS0 hg hge hlo hN0 M1
   rintro t' M ⟨V, T, tv, hB, hS, hsl⟩
   have hVl := hB.vlen
   have slo := hS.go.sl
   refine InBlk.hit ?_
   refine Then.n ?_
   refine AW.weak (fr_all hsl) ?_
   clear hsl
   rw [← List.append_nil M]
   (repeat (first|(with_reducible refine AWo.cons ?_)|((with_reducible refine Step.id ?_);first|((with_reducible apply Step.move);exact rfl;exact rfl)|((with_reducible apply Step.assign);exact rfl;exact rfl)|((with_reducible apply Step.len);exact rfl;((assumption));((decide +kernel));exact rfl))|(with_reducible first|apply AWo.nil|apply AW.seq|apply Then.n|apply AW.regL|apply AW.block)))
   obtain ⟨N1, hN1⟩ : ∃ N1, N1 = M.length := ⟨_, rfl⟩
   refine AW.midX 6 (fun t' M' => ∃ uv, Row M' N1 1 uv (strsV B V B.length) B.length ∧ N1 ≤ M'.length ∧ (∀ j, j < N1 → M'[j]? = M[j]?) ∧ All (fun i v => t' i = some v) [(13, .int .i64 ((V.length : Nat) : Int)), (18, uv)]) ?_ ?_
   ·refine AW.loopW (fun z t M' => ∃ (j : Nat) (uv : Value), z = B.length - j ∧ j ≤ B.length ∧ Row M' N1 1 uv (strsV B V j) j ∧ N1 ≤ M'.length ∧ (∀ j, j < N1 → M'[j]? = M[j]?) ∧
     t = fr [(10, .slice (some ⟨m.length + 0, 0, none⟩) B.length B.length), (13, .int .i64 ((V.length : Nat) : Int)), (18, uv), (126, .slice (some ⟨m.length + 0, 0, none⟩) B.length B.length), (127, .int .i64 (B.length : Int)), (128, .int .i64 ((j : Nat) : Int))]) ⟨_, [(10, .slice (some ⟨m.length + 0, 0, none⟩) B.length B.length), (13, .int .i64 ((V.length : Nat) : Int)), (18, .slice none 0 0), (126, .slice (some ⟨m.length + 0, 0, none⟩) B.length B.length), (127, .int .i64 (B.length : Int)), (128, .int .i64 ((0 : Nat) : Int))], (by repeat (first | exact trivial | (refine And.intro rfl ?_))), 0, _, rfl, Nat.zero_le _, Row.nil, by rw [List.append_nil]; omega, fun j hj => by rw [List.append_nil], rfl⟩ ?_
    rintro z t M' ⟨j, uv, rfl, hj, hr, hl1, hk1, rfl⟩
    rcases Nat.lt_or_ge j B.length with hlt | hge
    ·have hgo : GridP M' (bw B) B.length B.length (.slice (some ⟨m.length + 0, 0, none⟩) B.length B.length) (m.length + 0) ors (outF B V) := hS.go.stay (hk1 _ (by rw [hN1]; exact hS.go.aolt)) fun y hy => hk1 _ (by rw [hN1]; exact hS.go.rlt hy)
     have ro := fun X => hgo.rdr hlt X
     have rw8 : ∀ X, RdL (M' ++ X) (ors j) 0 (by8 (rowU B V j)) := fun X => RdL.old X ⟨_, hgo.row j hlt, fun k v hk => by rw [Nat.zero_add, ← rowU_cells]; exact hk⟩
     refine AW.rebase ?_
     (repeat (first|(with_reducible refine AWo.cons ?_)|((with_reducible refine Step.id ?_);first|((with_reducible apply Step.move);exact rfl;exact rfl)|((with_reducible apply Step.assign);exact rfl;exact rfl)|((with_reducible apply Step.load);exact rfl;((decide +kernel));exact rfl;((exact ro _)))|((with_reducible apply Step.ix1z);exact rfl;((assumption));exact rfl;((decide +kernel));exact rfl;((omega)))|((with_reducible apply Step.lss);exact rfl;exact rfl;exact rfl))|(with_reducible first|apply AWo.nil|apply AW.seq|apply Then.n|apply AW.regL|apply AW.block|apply AW.skip)|((with_reducible apply AW.condT);exact rfl;(((simp only [zq1, zq2, zq3, zq4, zq5, zq6];first|assumption|omega))))))
     ((with_reducible apply Step.toStr (l := rowU B V j));exact rfl;exact (Sl.mk (Nat.le_refl _));exact (rowU_len ..);exact (rw8 _);exact un96q;exact un5q;exact un9q;exact rfl)
     (repeat (first|(with_reducible refine AWo.cons ?_)|((with_reducible refine Step.id ?_);((with_reducible apply Step.buildS 0);exact rfl;exact rfl;exact (fun _ _ => bs22q);exact rfl;((first|(simp only [zq7, zq8, zq9, zq0, iv_set, bv_set, iv_rep, bv_rep] <;> rfl)|rfl))))))
     ((with_reducible apply Step.appRow (s := 1) (n := j) (xl := 1) (b0 := N1) (c := strsV B V j) (new := [.string (strU B V j)]));exact rfl;exact rfl;exact (hr.old _);exact (Sl.mk (Nat.le_refl _));exact (fun _ => RdL.new rfl rfl);exact el22q;exact un22q;exact rfl;exact rfl;exact rfl;((omega));exact rfl;((simp only [List.length_append];omega)))
     intro uv2 M2 hr2 hml2 hk2 
     rw [← strsV_succ] at hr2
     have hml3 : M'.length ≤ M2.length := by rw [List.length_append] at hml2; omega
     have hk3 : ∀ q, q < N1 → M2[q]? = M'[q]? := fun q hq => by rw [hk2 q (by rw [List.length_append]; omega) (NotOf.row hr hq), List.getElem?_append_left (by omega)]
     rw [← List.append_nil M2]
     (repeat (first|(with_reducible refine AWo.cons ?_)|((with_reducible refine Step.id ?_);first|((with_reducible apply Step.move);exact rfl;exact rfl)|((with_reducible apply Step.assign);exact rfl;exact rfl)|((with_reducible apply Step.add);exact rfl;exact rfl;((omega));exact rfl))|(with_reducible first|apply AWo.nil|apply Then.n|apply AW.regL|apply InBlk.n)))
     exact ⟨_, [(10, .slice (some ⟨m.length + 0, 0, none⟩) B.length B.length), (13, .int .i64 ((V.length : Nat) : Int)), (18, uv2), (126, .slice (some ⟨m.length + 0, 0, none⟩) B.length B.length), (127, .int .i64 (B.length : Int)), (128, .int .i64 ((j + 1 : Nat) : Int))], by omega, (by repeat (first | exact trivial | (refine And.intro rfl ?_))), j + 1, uv2, rfl, by omega, hr2.old _, by rw [List.length_append]; omega, fun q hq => by rw [List.getElem?_append_left (by omega), hk3 q hq]; exact hk1 q hq, rfl⟩
    ·obtain rfl : j = B.length := by omega
     refine AW.rebase ?_
     (repeat (first|(with_reducible refine AWo.cons ?_)|((with_reducible refine Step.id ?_);((with_reducible apply Step.lss);exact rfl;exact rfl;exact rfl))|(with_reducible first|apply AWo.nil|apply AW.seq|apply Then.n|apply AW.regL|apply AW.exit|apply Then.e)|((with_reducible apply AW.condF);exact rfl;(((simp only [zq1, zq2, zq3, zq4, zq5, zq6];first|assumption|omega))))))
     exact ⟨rfl, uv, hr.old _, by rw [List.length_append]; omega, fun j hj => by rw [List.getElem?_append_left (by omega)]; exact hk1 j hj, (by repeat (first | exact trivial | (refine And.intro rfl ?_)))⟩
   ·rintro t' M' ⟨uv, hr, hl1, hk1, hsl⟩
    refine InBlk.hit ?_
    refine Then.n ?_
    refine AW.weak (fr_all hsl) ?_
    clear hsl
    rw [← List.append_nil M']
    (repeat (first|(with_reducible refine AWo.cons ?_)|((with_reducible refine Step.id ?_);first|((with_reducible apply Step.move);exact rfl;exact rfl)|((with_reducible apply Step.assign);exact rfl;exact rfl))|(with_reducible first|apply AWo.nil|apply AW.seq|apply Then.n|apply AW.regL)))
    (refine AW.ret ?_; (repeat (first | refine Then.r ?_ | refine InBlk.r ?_)))
    have h1 := hS.m1
    have hSl := hS.len
    refine ⟨_, rfl, uv, V, T, rfl, hB, ?_⟩
    rw [List.append_nil]
    exact ⟨strsV_ok hB0 hr, by omega, fun j hj hn => by rw [hk1 j (by omega)]; exact hS.keep j hj hn, hS.gm.stay (hk1 _ (by rw [hN1]; exact hS.gm.aolt)) fun y hy => hk1 _ (by rw [hN1]; exact hS.gm.rlt hy)⟩
section
variable (leaf : R4 → Int) (w h : Nat) (t : List Int)
end
section
variable {leaf : R4 → Int} {w h : Nat} {t : List Int}
end
def MC (m : AM) (q : Nat) (c : List Value) : AM := m.set q (some { cells := c })
section
variable {m : AM} {q : Nat} {c c' : List Value}
theorem MC.len : (MC m q c).length = m.length := by simp [MC]
theorem MC.at (hq : q < m.length) : (MC m q c)[q]? = some (some { cells := c }) := by unfold MC; exact List.getElem?_set_self hq
theorem MC.ne {a : Nat} (h : a ≠ q) : (MC m q c)[a]? = m[a]? := by unfold MC; exact List.getElem?_set_ne (fun e => h e.symm)
theorem MC.set (hq : q < m.length) (T : AM) : (MC m q c ++ T).set q (some { cells := c' }) = MC m q c' ++ T := by
 unfold MC
 rw [List.set_append_left _ _ (by simpa using hq), List.set_set]
theorem MC.rd {a o : Nat} {x : Value} (h : a ≠ q) (hr : Rd m a o x) : Rd (MC m q c) a o x := by
 obtain ⟨b, h1, h2⟩ := hr
 exact ⟨b, by rw [MC.ne h]; exact h1, h2⟩
theorem MC.ints {v : Value} {l : List Int} {m1 N : AM} (hm : m = m1 ++ N) (hq1 : m1.length ≤ q) (h : Ints m1 v l) : Ints (MC m q c) v l := by
 subst hm
 obtain ⟨N', hN'⟩ := set_high (N := N) hq1 (some { cells := c })
 unfold MC
 rw [hN']
 exact h.old _
theorem MC.cut (hq : q < m.length) (hg : ∀ x ∈ c', g0 x = true) (T X : AM) (hX : ∀ b, some b ∈ X → isMapK b.kind = false ∧ ∀ x ∈ b.cells, g0 x = true) (n j : Nat) (b : Blk) (h : (MC m q c' ++ (T ++ X))[j]? = some (some b)) :
  (j < (MC m q c ++ T).length ∧ (MC m q c ++ T)[j]? = some (some b)) ∨ (isMapK b.kind = false ∧ ∀ x ∈ b.cells, Ren rid n x x) := by
 have e : (MC m q c').length = (MC m q c).length := by rw [MC.len, MC.len]
 rcases Nat.lt_or_ge j (MC m q c').length with hj | hj
 ·rw [List.getElem?_append_left hj] at h
  by_cases ej : j = q
  ·subst ej
   rw [MC.at hq] at h
   simp only [Option.some.injEq] at h
   subst h
   exact .inr ⟨rfl, fun x hx => Ren.of_g0 (hg x hx)⟩
  ·rw [MC.ne ej] at h
   refine .inl ⟨by rw [List.length_append]; omega, ?_⟩
   rw [List.getElem?_append_left (by omega), MC.ne ej]
   exact h
 ·rw [List.getElem?_append_right hj] at h
  rcases Nat.lt_or_ge (j - (MC m q c').length) T.length with hj2 | hj2
  ·rw [List.getElem?_append_left hj2] at h
   refine .inl ⟨by rw [List.length_append]; omega, ?_⟩
   rw [List.getElem?_append_right (by omega), ← e]
   exact h
  ·rw [List.getElem?_append_right hj2] at h
   obtain ⟨h1, h2⟩ := hX b (List.mem_of_getElem? h)
   exact .inr ⟨h1, fun x hx => Ren.of_g0 (h2 x hx)⟩
end
end Go.Proofs.YtedbjmgchfgabaaDoor.Abs
namespace Go.Proofs.YtedbjmgchfgabaaDoor.Abs
set_option linter.unusedSimpArgs false
set_option linter.unusedVariables false
def sm (f : Nat → Int) : Nat → Int
 | 0 => 0
 | n + 1 => sm f n + f n
def ld (p : Nat → Int) (f : Nat → Nat) (n b : Nat) : Int := sm (fun i => if f i = b then p i else 0) n
section
variable {p : Nat → Int} {F G : Nat → Nat} {k m : Nat} {n : Int}
end
section
variable {p : Nat → Int} {F G : Nat → Nat} {k m : Nat} {n : Int}
structure FFD (p : Nat → Int) (F : Nat → Nat) (k : Nat) (n : Int) : Prop where
 pos : ∀ i, i < k → 1 ≤ p i ∧ p i ≤ n
 dec : ∀ i j, i ≤ j → j < k → p j ≤ p i
 full : ∀ i, i < k → ∀ b, b < F i → n < ld p F i b + p i
 room : ∀ i, i < k → ld p F i (F i) + p i ≤ n
theorem least_ex {q : Nat → Prop} [DecidablePred q] {i : Nat} (h : q i) : ∃ e, e ≤ i ∧ q e ∧ ∀ j, j < e → ¬ q j := by
 induction i using Nat.strongRecOn with
 | _ i ih =>
  by_cases h1 : ∃ j, j < i ∧ q j
  ·obtain ⟨j, hj, hq⟩ := h1
   obtain ⟨e, e1, e2, e3⟩ := ih j hj hq
   exact ⟨e, by omega, e2, e3⟩
  ·exact ⟨i, Nat.le_refl _, h, fun j hj hq => h1 ⟨j, hj, hq⟩⟩
theorem FFD.last (h : FFD p F k n) {i : Nat} (hi : i < k) (he : m ≤ F i) : ∃ e, e < k ∧ m ≤ F e ∧ ∀ j, j < k → m ≤ F j → p e ≤ p j := by
 obtain ⟨d, d1, d2, d3⟩ := least_ex (q := fun d => m ≤ F (k - 1 - d)) (i := k - 1 - i) (by rw [show k - 1 - (k - 1 - i) = i by omega]; exact he)
 refine ⟨k - 1 - d, by omega, d2, fun j hj hm => ?_⟩
 refine h.dec j (k - 1 - d) ?_ (by omega)
 rcases Nat.lt_or_ge (k - 1 - d) j with q | q
 ·exfalso
  refine d3 (k - 1 - j) (by omega) ?_
  rw [show k - 1 - (k - 1 - j) = j by omega]; exact hm
 ·exact q
theorem FFD.nn (h : FFD p F k n) : ∀ i, i < k → 0 ≤ p i := fun i hi => by have := h.pos i hi; omega
end
section
variable {p : Nat → Int} {G : Nat → Nat} {k m : Nat} {n t : Int}
end
abbrev Ld := Nat × Int × Nat
section
variable {n : Int} {p : Nat → Int} {k : Nat}
def l2 (l : Ld) : Nat × Int := (l.1, l.2.1)
end
section
variable {n : Int} {p : Nat → Int} {k m : Nat} {G : Nat → Nat}
end
def ms (le : Int → Int → Bool) (l : List Int) : List Int := l.mergeSort le
section
variable {le : Int → Int → Bool} {l p A B A1 A2 B1 B2 : List Int}
end
def upI (n : Nat) : List Int := (List.range n).map (Nat.cast : Nat → Int)
def leL (l : List Int) (a b : Int) : Bool := decide (-(l.getD a.toNat 0) < -(l.getD b.toNat 0) ∨ -(l.getD a.toNat 0) = -(l.getD b.toNat 0) ∧ ((0 : Int) < 0 ∨ (0 : Int) = 0 ∧ a ≤ b))
theorem leL_iff {l : List Int} {a b : Int} : leL l a b = true ↔ l.getD b.toNat 0 < l.getD a.toNat 0 ∨ l.getD b.toNat 0 = l.getD a.toNat 0 ∧ a ≤ b := by
 simp only [leL, decide_eq_true_eq, Int.lt_irrefl, false_or, true_and]; omega
def ordL (l : List Int) : List Int := ms (leL l) (upI l.length)
structure Pick (l : List Int) (mt : List Bool) (i : Nat) (x : Int) : Prop where
 none : x < 0 → x = -1 ∧ ∀ j, j < i → mt.getD j false = true
 some : 0 ≤ x → x < i ∧ mt.getD x.toNat false = false ∧ ∀ j : Nat, j < i → mt.getD j false = false → leL l x j = true
theorem Pick.zero (l : List Int) (mt : List Bool) : Pick l mt 0 (-1) := ⟨fun _ => ⟨rfl, fun j hj => by omega⟩, fun h => by omega⟩
theorem Pick.stay {l : List Int} {mt : List Bool} {i : Nat} {x : Int} (h : Pick l mt i x) (hx : 0 ≤ x) (hle : l.getD i 0 ≤ l.getD x.toNat 0) : Pick l mt (i + 1) x :=
 ⟨fun h' => by omega, fun _ => by
  obtain ⟨h1, h2, h3⟩ := h.some hx
  refine ⟨by omega, h2, fun j hj hjm => ?_⟩
  rcases Nat.lt_succ_iff_lt_or_eq.1 hj with h' | h'
  ·exact h3 j h' hjm
  ·subst h'
   rw [leL_iff, Int.toNat_natCast]; omega⟩
theorem Pick.take {l : List Int} {mt : List Bool} {i : Nat} {x : Int} (h : Pick l mt i x) (hm : mt.getD i false = false) (hx : x < 0 ∨ 0 ≤ x ∧ l.getD x.toNat 0 < l.getD i 0) : Pick l mt (i + 1) i :=
 ⟨fun h' => by omega, fun _ => by
  refine ⟨by omega, by rw [Int.toNat_natCast]; exact hm, fun j hj hjm => ?_⟩
  rcases Nat.lt_succ_iff_lt_or_eq.1 hj with h' | h'
  ·rcases hx with hx | ⟨hx, hlt⟩
   ·rw [(h.none hx).2 j h'] at hjm; cases hjm
   ·have h3 := (h.some hx).2.2 j h' hjm
    rw [leL_iff] at h3 ⊢
    simp only [Int.toNat_natCast] at *
    omega
  ·subst h'
   rw [leL_iff]; omega⟩
def oi (l : List Int) (k : Nat) : Nat := ((ordL l).getD k 0).toNat
open Go.RowKit
open Go.Proofs.YtedbjmgchfgabaaDoor.Sim
open Go.Proofs
abbrev Nd := Int × Int × Bool
def ndc1 (n : Nd) : List Value := [.int .i64 n.1, .int .i64 n.2.1, .bool n.2.2]
def ndc (l : List Nd) : List Value := l.flatMap ndc1
section
variable {B : Brd} {K : List Kd}
end
section
variable {P : Program} {nt : Nat} {ops : Array Oper} {t : Fm} {m : AM} {K : Fm → AM → Prop} {d T : Nat} {p : String} {af : Array Edge}
end
def PL (b0 : Nat) (l : List Nd) (M : AM) (v : Value) : Prop := ∃ (a : Nat) (kd : Kind) (sz : Nat), b0 ≤ a ∧ v = .slice (some ⟨a, 0, none⟩) l.length l.length ∧ 0 < l.length ∧ M[a]? = some (some { cells := ndc l, kind := kd, size := sz }) ∧ ((kd = .own ∧ sz = 1) ∨ (kd = .grow ∧ sz = 3))
section
variable {P : Program} {nt : Nat} {ops : Array Oper} {t : Fm} {m : AM} {K : Fm → AM → Prop} {d T : Nat} {p : String} {af : Array Edge}
end
section
variable {B : Brd} {K : List Kd} {f : Nat} {r : R4}
end
theorem PL.cons {b0 : Nat} {x : Nd} {l1 l2 : List Nd} {M : AM} {a : Nat} (h : b0 ≤ a) (hM : M[a]? = some (some { cells := (ndc1 x ++ ndc l1) ++ ndc l2, kind := .grow, size := 3 })) : PL b0 (x :: (l1 ++ l2)) M (.slice (some ⟨a, 0, none⟩) (1 + l1.length + l2.length) (1 + l1.length + l2.length)) :=
 ⟨a, .grow, 3, h, by rw [show (x :: (l1 ++ l2)).length = 1 + l1.length + l2.length by simp; omega], by simp, by rw [hM]; simp [ndc], .inr ⟨rfl, rfl⟩⟩
structure RI (m0 : AM) (base : List (Nat × Value)) (s : Nat) (pv : Nat → Option Value) (x : Nd) (l1 l2 : List Nd) (L : Nat → Bool) (t : Fm) (M : AM) : Prop where
 mem : ∃ N, M = m0 ++ N
 old : ∀ e ∈ base, t e.1 = some e.2
 pure : ∀ j v, pv j = some v → L j = true → t (s + j) = some v
 lit : L 2 = true → ∃ a, t (s + 2) = some (.slice (some ⟨a, 0, none⟩) 1 1) ∧ m0.length ≤ a ∧ (L 10 = false → M[a]? = some (some { cells := ndc1 x }))
 one : L 9 = true → ∃ (a : Nat) (kd : Kind) (sz : Nat), t (s + 9) = some (.slice (some ⟨a, 0, none⟩) l1.length l1.length) ∧ 0 < l1.length ∧ (L 10 = false → M[a]? = some (some { cells := ndc l1, kind := kd, size := sz }))
 app : L 10 = true → ∃ a, t (s + 10) = some (.slice (some ⟨a, 0, none⟩) (1 + l1.length) (1 + l1.length)) ∧ m0.length ≤ a ∧ (L 18 = false → M[a]? = some (some { cells := ndc1 x ++ ndc l1, kind := .grow, size := 3 }))
 two : L 17 = true → ∃ (a : Nat) (kd : Kind) (sz : Nat), t (s + 17) = some (.slice (some ⟨a, 0, none⟩) l2.length l2.length) ∧ 0 < l2.length ∧ (L 18 = false → M[a]? = some (some { cells := ndc l2, kind := kd, size := sz }))
 all : L 18 = true → ∃ a, t (s + 18) = some (.slice (some ⟨a, 0, none⟩) (1 + l1.length + l2.length) (1 + l1.length + l2.length)) ∧ m0.length ≤ a ∧ M[a]? = some (some { cells := (ndc1 x ++ ndc l1) ++ ndc l2, kind := .grow, size := 3 })
 res : L 19 = true → L 18 = true ∧ ∃ a, t 8 = some (.slice (some ⟨a, 0, none⟩) (1 + l1.length + l2.length) (1 + l1.length + l2.length)) ∧ m0.length ≤ a ∧ M[a]? = some (some { cells := (ndc1 x ++ ndc l1) ++ ndc l2, kind := .grow, size := 3 })
section
variable {m0 : AM} {base : List (Nat × Value)} {s : Nat} {pv : Nat → Option Value} {x : Nd} {l1 l2 : List Nd} {L : Nat → Bool} {t : Fm} {M : AM}
theorem RI.start (h : ∀ e ∈ base, t e.1 = some e.2) : RI m0 base s pv x l1 l2 (fun _ => false) t m0 :=
 ⟨⟨[], by simp⟩, h, fun _ _ _ q => (by cases q), fun q => (by cases q), fun q => (by cases q), fun q => (by cases q), fun q => (by cases q), fun q => (by cases q), fun q => (by cases q)⟩
theorem RI.ext (h : RI m0 base s pv x l1 l2 L t M) (T : AM) : RI m0 base s pv x l1 l2 L t (M ++ T) where
 mem := by obtain ⟨N, e⟩ := h.mem; exact ⟨N ++ T, by rw [e, List.append_assoc]⟩
 old := h.old
 pure := h.pure
 lit := fun q => by obtain ⟨a, a1, a2, a3⟩ := h.lit q; exact ⟨a, a1, a2, fun r => get_old _ (a3 r)⟩
 one := fun q => by obtain ⟨a, kd, sz, a1, a2, a3⟩ := h.one q; exact ⟨a, kd, sz, a1, a2, fun r => get_old _ (a3 r)⟩
 app := fun q => by obtain ⟨a, a1, a2, a3⟩ := h.app q; exact ⟨a, a1, a2, fun r => get_old _ (a3 r)⟩
 two := fun q => by obtain ⟨a, kd, sz, a1, a2, a3⟩ := h.two q; exact ⟨a, kd, sz, a1, a2, fun r => get_old _ (a3 r)⟩
 all := fun q => by obtain ⟨a, a1, a2, a3⟩ := h.all q; exact ⟨a, a1, a2, get_old _ a3⟩
 res := fun q => by obtain ⟨r, a, a1, a2, a3⟩ := h.res q; exact ⟨r, a, a1, a2, get_old _ a3⟩
theorem upL_no {i j : Nat} (h : upL L i j = false) : L j = false := by
 by_cases e : j = i
 ·subst e; rw [upL_same] at h; cases h
 ·rwa [upL_ne L e] at h
theorem RI.put (h : RI m0 base s pv x l1 l2 L t M) (hb : ∀ e ∈ base, e.1 < s) (hs : 8 < s) {j : Nat} {v : Value} (hv : pv j = some v) (hj : j ≠ 2 ∧ j ≠ 9 ∧ j ≠ 10 ∧ j ≠ 17 ∧ j ≠ 18 ∧ j ≠ 19) : RI m0 base s pv x l1 l2 (upL L j) (Abs.put t (s + j) v) M where
 mem := h.mem
 old := fun e he => by rw [put_ne t v (by have := hb e he; omega)]; exact h.old e he
 pure := fun k w hw hk => by
  by_cases e : k = j
  ·subst e
   rw [hv] at hw
   injection hw with hw
   rw [put_same, hw]
  ·rw [upL_ne L e] at hk
   rw [put_ne t v (by omega)]
   exact h.pure k w hw hk
 lit := fun q => by
  rw [upL_ne L (by omega)] at q
  obtain ⟨a, a1, a2, a3⟩ := h.lit q
  exact ⟨a, by rw [put_ne t v (by omega)]; exact a1, a2, fun r => a3 (upL_no r)⟩
 one := fun q => by
  rw [upL_ne L (by omega)] at q
  obtain ⟨a, kd, sz, a1, a2, a3⟩ := h.one q
  exact ⟨a, kd, sz, by rw [put_ne t v (by omega)]; exact a1, a2, fun r => a3 (upL_no r)⟩
 app := fun q => by
  rw [upL_ne L (by omega)] at q
  obtain ⟨a, a1, a2, a3⟩ := h.app q
  exact ⟨a, by rw [put_ne t v (by omega)]; exact a1, a2, fun r => a3 (upL_no r)⟩
 two := fun q => by
  rw [upL_ne L (by omega)] at q
  obtain ⟨a, kd, sz, a1, a2, a3⟩ := h.two q
  exact ⟨a, kd, sz, by rw [put_ne t v (by omega)]; exact a1, a2, fun r => a3 (upL_no r)⟩
 all := fun q => by
  rw [upL_ne L (by omega)] at q
  obtain ⟨a, a1, a2, a3⟩ := h.all q
  exact ⟨a, by rw [put_ne t v (by omega)]; exact a1, a2, a3⟩
 res := fun q => by
  rw [upL_ne L (by omega)] at q
  obtain ⟨r, a, a1, a2, a3⟩ := h.res q
  exact ⟨by rw [upL_ne L (by omega)]; exact r, a, by rw [put_ne t v (by omega)]; exact a1, a2, a3⟩
end
theorem Post.none_put {base : Nat} {R : Pl} {m : AM} {w : World} (h : MRep base R m w) (q : Sim.Place) : Post base m (m ++ [none]) R (R.put m.length q) w w := by
 have hle := Pl.le_put R m.length q (h.none_ _ (Nat.le_refl _))
 have old : ∀ (i : Nat) (b : Blk), (m ++ [none])[i]? = some (some b) → m[i]? = some (some b) := by
  intro i b hi
  rcases Nat.lt_or_ge i m.length with hl | hl
  ·rwa [List.getElem?_append_left hl] at hi
  ·rw [List.getElem?_append_right hl] at hi
   rcases Nat.eq_zero_or_pos (i - m.length) with e | e
   ·rw [e] at hi; simp at hi
   ·rw [List.getElem?_eq_none (by simp; omega)] at hi; cases hi
 have ne : ∀ (i : Nat) (b : Blk), m[i]? = some (some b) → i ≠ m.length := fun i b hi => by
  have := (List.getElem?_eq_some_iff.1 hi).1
  omega
 refine ⟨hle, ⟨fun j hj => ?_, fun j d hj => ?_, fun i j b c p r hi hj hb hc hij hp hr => ?_⟩, rfl, rfl, rfl, Nat.le_refl _, fun _ _ _ => rfl, fun k ho => .inr ?_⟩
 ·simp at hj
  rw [Pl.put_other _ _ (by omega)]
  exact h.none_ j (by omega)
 ·obtain ⟨r, h1, h2⟩ := h.rep j d (old j d hj)
  exact ⟨r, hle _ _ h1, h2.mono hle⟩
 ·rw [Pl.put_other _ _ (ne i b (old i b hi))] at hp
  rw [Pl.put_other _ _ (ne j c (old j c hj))] at hr
  exact h.apart i j b c p r (old i b hi) (old j c hj) hb hc hij hp hr
 ·obtain ⟨i, b, p, h1, h2, h3, h4⟩ := ho
  rw [Pl.put_other _ _ (ne i b (old i b h1))] at h3
  exact ⟨i, b, p, old i b h1, h2, h3, h4⟩
def rsV (a o s n c k : Nat) : Value := if c = 0 then .slice (some ⟨k, 0, none⟩) 0 0 else .slice (some ⟨a, o + s, none⟩) n c
section
variable {P : Program} {nt : Nat} {ops : Array Oper} {t : Fm} {m : AM} {K : Fm → AM → Prop} {d T : Nat} {p : String} {af : Array Edge}
theorem Step.rest {x y : Operand} {X e s a o n c : Nat} {kk : IntKind} (hx : evo t x = some (.slice (some ⟨a, o, none⟩) (n + 1) (c + 1))) (hy : evo t y = some (.int kk 1)) (hn : n ≤ c) (hX : P.underlying X = some (.slice e)) (hsz : szB P e = some s)
  (hlt : Nat.blt d nt = true) (hK : K (put t d (rsV a o s n c m.length)) (m ++ [none])) : Step P nt ops ⟨some d, .slice X x (some y) none none, T, p, af, none⟩ t m K := by
 refine .l rfl rfl hlt (by simp [stillB, hX]) (by simp [Op.operands, hx, hy]) ?_
 intro base R w b Q next hb hm hev hn'
 have h1 := hev x (by simp [Op.operands])
 have h2 := hev y (by simp [Op.operands])
 rw [evD_of hx] at h1
 rw [evD_of hy] at h2
 obtain ⟨q, hq, ex⟩ : ∃ q, R a = some q ∧ b.eval x = .slice (some ⟨q.block, q.off + o, none⟩) (n + 1) (c + 1 + q.extra) := by
  generalize b.eval x = x' at h1
  cases h1 with
  | slice _ _ _ _ q hq hle => exact ⟨q, hq, rfl⟩
 have ey : b.eval y = .int kk 1 := by
  generalize b.eval y = y' at h2
  cases h2
  rfl
 have b1 : bnd 0 (some (.int kk 1)) = some 1 := by simp [bnd]
 have b2 : bnd (n + 1) none = some (n + 1) := by simp [bnd]
 obtain ⟨u, hu⟩ : ∃ u, u = (if c + 1 + q.extra = 1 then (⟨q.block, q.off + o, none⟩ : Addr) else (⟨q.block, q.off + o, none⟩ : Addr).add (1 * s)) := ⟨_, rfl⟩
 have hr : (Instr.sliceAt X (b.eval x) (some (b.eval y)) none none).run P w = .ok (.slice (some u) n (c + q.extra)) w := by
  rw [ex, ey, hu]
  simp [Instr.sliceAt, Instr.slice, run_underlying hX, run_bounds (P := P) b1 b2 (show 1 ≤ n + 1 by omega) (show n + 1 ≤ c + 1 + q.extra by omega), run_sizeOf' hsz]
  split <;> rfl
 have hx' : (execOp b.eval ⟨some d, .slice X x (some y) none none, T, p, af, none⟩).run P w = .ok (.value (.slice (some u) n (c + q.extra))) w := by simp [execOp, hr]
 by_cases hc : c = 0
 ·obtain rfl : n = 0 := by omega
  subst hc
  have hrel : ∃ z : Sim.Place, u = ⟨z.block, z.off, none⟩ ∧ z.extra = q.extra := by
   by_cases hz : 0 + 1 + q.extra = 1
   ·rw [if_pos hz] at hu
    exact ⟨⟨q.block, q.off + o, q.extra⟩, hu, rfl⟩
   ·rw [if_neg hz, Addr.add_lit] at hu
    exact ⟨⟨q.block, q.off + o + 1 * s, q.extra⟩, hu, rfl⟩
  obtain ⟨z, hz, hze⟩ := hrel
  refine wp_of_does rfl (.inl hx') (hn' (R.put m.length z) (rsV a o s 0 0 m.length) _ _ w ?_ (Post.none_put hm z) hK)
  have := Rel.slice (R := R.put m.length z) m.length 0 0 0 z (Pl.put_same _ _ _) (Nat.le_refl _)
  rw [hze] at this
  rw [hz]
  simpa [rsV] using this
 ·refine wp_of_does rfl (.inl hx') (hn' (R.put m.length q) (rsV a o s n c m.length) _ _ w ?_ (Post.none_put hm q) hK)
  have hle := Pl.le_put R m.length q (hm.none_ _ (Nat.le_refl _))
  have := Rel.slice (R := R.put m.length q) a (o + s) n c q (hle _ _ hq) hn
  rw [if_neg (by omega), Addr.add_lit] at hu
  rw [hu]
  simpa [rsV, hc, Nat.add_assoc] using this
end
open Go.ChangeMaps (setBlock)
theorem brep_iter {base : Nat} {R : Pl} {b : Blk} {p : Sim.Place} {w w' : World} {r : Nat} {s : ByteArray} {c : Nat} (h : BRep base R b p w) (hr : w.heap[r]? = some (.stringIter s c)) (hs : w.heap.size ≤ w'.heap.size) (hk : ∀ k, k ≠ r → w'.heap[k]? = w.heap[k]?) : BRep base R b p w' := by
 by_cases e : p.block = r
 ·unfold BRep at *
  obtain ⟨h0, h⟩ := h
  refine ⟨by omega, ?_⟩
  split at h
  ·refine ⟨h.1, fun j v hj => ?_⟩
   obtain ⟨v', h1, _⟩ := h.2 j v hj
   unfold World.cell? at h1
   simp only [e, hr] at h1
   cases h1
  ·exact h
  ·obtain ⟨_, _, _, es, h4, _⟩ := h; rw [e, hr] at h4; injection h4 with h4; cases h4
  ·obtain ⟨_, _, es, h4, _⟩ := h; rw [e, hr] at h4; injection h4 with h4; cases h4
  ·obtain ⟨cur, ty, h4, _⟩ := h; rw [e, hr] at h4; injection h4 with h4; cases h4
  ·obtain ⟨cur, ty, h4, _⟩ := h; rw [e, hr] at h4; injection h4 with h4; cases h4
 ·exact h.kept (hk _ e)
theorem owned_iter {base : Nat} {R : Pl} {m : AM} {w : World} {r : Nat} {s : ByteArray} {c : Nat} (hm : MRep base R m w) (hr : w.heap[r]? = some (.stringIter s c)) : ¬ Owned m R r := by
 rintro ⟨i, b, p, h1, h2, h3, rfl⟩
 obtain ⟨q, q1, q2⟩ := hm.rep i b h1
 rw [h3] at q1; injection q1 with q1; subst q1
 unfold BRep at q2
 obtain ⟨_, h⟩ := q2
 split at h
 ·rename_i e; rw [e] at h2; cases h2
 ·rename_i e; rw [e] at h2; cases h2
 ·obtain ⟨_, _, _, es, h4, _⟩ := h; rw [hr] at h4; injection h4 with h4; cases h4
 ·rename_i e; rw [e] at h2; cases h2
 ·obtain ⟨cur, ty, h4, _⟩ := h; rw [hr] at h4; injection h4 with h4; cases h4
 ·obtain ⟨cur, ty, h4, _⟩ := h; rw [hr] at h4; injection h4 with h4; cases h4
section
variable {P : Program} {nt : Nat} {ops : Array Oper}
theorem AWi.ok2 {base : Nat} {Q : Fm → AM → Prop} {QQ : Exit → Act → World → Prop} {more : List Nat} : ∀ (l : List Nat) (t : Fm) (m : AM) (R : Pl) (w : World) (a : Act), AWi P nt ops l t m Q → base ≤ w.heap.size → MRep base R m w → FR R nt t a.tmps →
  (∀ R' t' m' a' w', a'.defers = a.defers → FR R' nt t' a'.tmps → Post base m m' R R' w w' → Q t' m' → wpOps P ops QQ more a' w') → wpOps P ops QQ (l ++ more) a w
 | [], t, m, R, w, a, h, hb, hm, ht, hQ => hQ R t m a w rfl ht (.refl hm) h
 | i :: rest, t, m, R, w, a, ⟨o, ho, h⟩, hb, hm, ht, hQ => by
  rw [List.cons_append, wpOps_cons]
  refine h.ok ho hb hm ht ?_
  intro R' t' m' a' w' k1 k2 k3 k4
  refine AWi.ok2 rest t' m' R' w' a' k4 (Nat.le_trans hb k3.size) k3.rep k2 ?_
  intro R2 t2 m2 a2 w2 q1 q2 q3 q4
  exact hQ R2 t2 m2 a2 w2 (q1.trans k1) q2 (k3.trans q3) q4
theorem AWo.to' {Q : Fm → AM → Prop} : ∀ (l : List Oper) (k : Nat) (t : Fm) (m : AM), (∀ j o, l[j]? = some o → ops[k + j]? = some o) → AWo P nt ops l t m Q → AWi P nt ops (List.range' k l.length) t m Q
 | [], _, _, _, _, h => h
 | o :: rest, k, t, m, hl, h => by
  rw [List.length_cons, List.range'_succ]
  refine ⟨o, by have := hl 0 o rfl; simpa using this, ?_⟩
  exact Step.mono h fun v m' hk => AWo.to' rest (k + 1) _ _ (fun j o' hj => by have := hl (j + 1) o' (by simpa using hj); simpa [Nat.add_assoc, Nat.add_comm 1 j] using this) hk
theorem wpOps_one {QQ : Exit → Act → World → Prop} {i : Nat} {rest : List Nat} {o : Oper} {a : Act} {w : World} {v' : Value} {w' : World} (ho : ops[i]? = some o) (hg : o.guard = none) (hr : Ran P (execOp a.eval o) w v' w') (h : wpOps P ops QQ rest (a.put o.dst v') w') : wpOps P ops QQ (i :: rest) a w := by
 rw [wpOps_cons]
 unfold wpOp
 simp only [ho]
 rw [if_pos (by simp [Region.wanted, hg])]
 exact .inl (wp_of_does rfl hr h)
theorem Post.object {base : Nat} {R : Pl} {m : AM} {w : World} (h : MRep base R m w) (o : Obj) : Post base m m R R w (w.alloc o) := by
 have e : ∀ k, k < w.heap.size → (w.alloc o).heap[k]? = w.heap[k]? := fun k hk => by
  show (w.heap.push o)[k]? = _
  rw [Array.getElem?_push, if_neg (by omega)]
 exact ⟨.refl R, h.kept e, rfl, rfl, rfl, by show _ ≤ (w.heap.push o).size; simp, fun k hk _ => e k hk, fun _ h => .inr h⟩
theorem tmp_of {R : Pl} {t : Fm} {a : Act} {x : Nat} {v : Value} (h : FR R nt t a.tmps) (hx : t x = some v) : Rel R v (a.eval (.tmp x)) := evo_rel h (x := .tmp x) hx
structure ItS (R : Pl) (w : World) (i : Nat) (s : ByteArray) (pos low r : Nat) : Prop where
 at_ : R i = some ⟨r, 0, 0⟩
 obj : w.heap[r]? = some (.stringIter s pos)
 low : low ≤ r
end
def itV (M1 : AM) : Value := .pointer (some ⟨M1.length, 0, none⟩)
section
variable {P : Program} {nt : Nat} {m0 m : AM} {t : Fm}
theorem FR.cons {R : Pl} {l : List (Nat × Value)} {u : Array Value} {d : Nat} {v : Value} (h : FR R nt (Abs.put t d v) u) (hl : All (fun i v => t i = some v) l) : FR R nt (fr ((d, v) :: l)) u := by
 refine h.weak fun i x hi => ?_
 by_cases e : i = d
 ·subst e
  simp only [fr, put_same] at hi ⊢
  exact hi
 ·simp only [fr, put_ne _ _ e] at hi ⊢
  exact fr_all hl i x hi
theorem al_heap {w w1 : World} (h : w1 = w ∨ w1 = w.drew) (k : Nat) : w1.heap[k]? = w.heap[k]? := by rcases h with rfl | rfl <;> rfl
theorem al_size {w w1 : World} (h : w1 = w ∨ w1 = w.drew) : w1.heap.size = w.heap.size := by rcases h with rfl | rfl <;> rfl
theorem al_os {w w1 : World} (h : w1 = w ∨ w1 = w.drew) : w1.os = w.os ∧ w1.tape = w.tape ∧ w1.output = w.output := by rcases h with rfl | rfl <;> exact ⟨rfl, rfl, rfl⟩
theorem setBlock_other {w : World} {r : Nat} {o : Obj} {k : Nat} (h : k ≠ r) : (setBlock w r o).heap[k]? = w.heap[k]? := by
 show (w.heap.setIfInBounds r o)[k]? = _
 rw [Array.getElem?_setIfInBounds_ne (Ne.symm h)]
theorem setBlock_same {w : World} {r : Nat} {o : Obj} (h : r < w.heap.size) : (setBlock w r o).heap[r]? = some o := by
 show (w.heap.setIfInBounds r o)[r]? = _
 simp [h]
theorem setBlock_size {w : World} {r : Nat} {o : Obj} : (setBlock w r o).heap.size = w.heap.size := by
 show (w.heap.setIfInBounds r o).size = _
 simp
theorem Post.iter {base : Nat} {R0 R : Pl} {w0 w w1 : World} {r : Nat} {s : ByteArray} {c : Nat} {o : Obj} (h : Post base m0 m R0 R w0 w) (hr : w.heap[r]? = some (.stringIter s c)) (hlow : w0.heap.size ≤ r) (hw : w1 = w ∨ w1 = w.drew) : Post base m0 m R0 R w0 (setBlock w1 r o) := by
 obtain ⟨o1, o2, o3⟩ := al_os hw
 have hk : ∀ k, k ≠ r → (setBlock w1 r o).heap[k]? = w.heap[k]? := fun k hk => by rw [setBlock_other hk, al_heap hw]
 refine ⟨h.le, ⟨h.rep.none_, fun i b hi => ?_, h.rep.apart⟩, ?_, ?_, ?_, ?_, fun k hk' ho => ?_, h.sub⟩
 ·obtain ⟨p, q1, q2⟩ := h.rep.rep i b hi
  exact ⟨p, q1, brep_iter q2 hr (by rw [setBlock_size, al_size hw]; exact Nat.le_refl _) hk⟩
 ·exact (show w1.os = w0.os from o1.trans h.os)
 ·exact (show w1.tape = w0.tape from o2.trans h.tape)
 ·exact (show w1.output = w0.output from o3.trans h.output)
 ·rw [setBlock_size, al_size hw]; exact h.size
 ·rw [hk k (by omega)]; exact h.keep k hk' ho
theorem FR.putw {R : Pl} {t : Fm} {a : Act} {d : Nat} {v : Value} (h : FR R nt t a.tmps) (hd : t d = none) : FR R nt t (a.put (some d) v).tmps := by
 have hs := h.size
 refine ⟨by show (a.tmps.setIfInBounds d _).size = nt; simpa using hs, fun i x hi => ?_⟩
 have e : i ≠ d := fun e => by rw [e, hd] at hi; cases hi
 have := h.rel i x hi
 show Rel R x ((a.tmps.setIfInBounds d _).getD i undef)
 simp only [Array.getD_eq_getD_getElem?, Array.getElem?_setIfInBounds_ne (Ne.symm e)] at this ⊢
 exact this
theorem eval_put {R : Pl} {t : Fm} {a : Act} {d : Nat} {v : Value} (h : FR R nt t a.tmps) (hd : d < nt) : (a.put (some d) v).eval (.tmp d) = v := by
 have hs := h.size
 show (a.tmps.setIfInBounds d v).getD d undef = v
 simp [hs, hd]
theorem rangeS_reg {idR it x T T1 : Nat} {p1 : String} {af1 : Array Edge} {pre : List Oper} (hit : it < nt) (hT : P.underlying T = some .string) (M1 : AM) (s : ByteArray) (l : List (Nat × Value))
  (hpre : AWo P nt (pre ++ [(⟨some it, .range T (.tmp x), T1, p1, af1, none⟩ : Oper)]).toArray pre t m (fun t1 m1 => t1 x = some (.string s) ∧ m1 = M1 ∧ All (fun i v => t1 i = some v) l))
  {base : Nat} {R0 R : Pl} {w0 w : World} {ac : Act} (hb : base ≤ w0.heap.size) (hp : Post base m0 m R0 R w0 w) (ht : FR R nt t ac.tmps) :
  (Code.region idR (pre ++ [(⟨some it, .range T (.tmp x), T1, p1, af1, none⟩ : Oper)]).toArray false).wp P (fun ex a1 w1 => ex = .normal ∧ ∃ R1 r, Post base m0 (M1 ++ [none]) R0 R1 w0 w1 ∧ FR R1 nt (fr ((it, itV M1) :: l)) a1.tmps ∧ a1.defers = ac.defers ∧ ItS R1 w1 M1.length s 0 w.heap.size r) ac w := by
 refine wp_region ?_
 have hsz : (pre ++ [(⟨some it, .range T (.tmp x), T1, p1, af1, none⟩ : Oper)]).toArray.size = pre.length + 1 := by simp
 rw [hsz, List.range_succ]
 have hi := AWo.to' (ops := (pre ++ [(⟨some it, .range T (.tmp x), T1, p1, af1, none⟩ : Oper)]).toArray) pre 0 t m (fun j o hj => by rw [Nat.zero_add, List.getElem?_toArray]; exact get_old _ hj) hpre
 rw [← List.range_eq_range'] at hi
 refine AWi.ok2 _ t m R w ac hi (Nat.le_trans hb hp.size) hp.rep ht ?_
 rintro R' t' m' a' w' k1 k2 k3 ⟨k4, rfl, k5⟩
 have hxe : a'.eval (.tmp x) = .string s := by
  have h1 := tmp_of k2 k4
  generalize a'.eval (.tmp x) = y at h1
  cases h1
  rfl
 refine wpOps_one (i := pre.length) (by simp; rfl) rfl (v' := .pointer (some ⟨w'.heap.size, 0, none⟩)) (w' := w'.alloc (.stringIter s 0)) (.inl ?_) ?_
 ·rw [show execOp a'.eval (⟨some it, .range T (.tmp x), T1, p1, af1, none⟩ : Oper) = _ from rfl]
  simp [execOp, hxe, Instr.range, run_underlying hT, newObj, Sem.run, Result.andThen]
 ·have q1 := Post.object k3.rep (.stringIter s 0)
  have q2 := Post.none_put q1.rep ⟨w'.heap.size, 0, 0⟩
  have q3 := (hp.trans k3).trans (q1.trans q2)
  refine ⟨rfl, _, w'.heap.size, q3, ?_, ?_, ?_⟩
  ·refine FR.cons (t := t') ?_ k5
   refine (k2.mono q2.le).put hit ?_
   exact .ptr m'.length 0 ⟨w'.heap.size, 0, 0⟩ (Pl.put_same _ _ _)
  ·show (a'.put (some it) _).defers = _
   rw [put_defers, k1]
  ·refine ⟨Pl.put_same _ _ _, ?_, k3.size⟩
   show (w'.heap.push _)[w'.heap.size]? = _
   simp
end
theorem decode_one {s : ByteArray} {k : Nat} (hk : k < s.size) (h : byteAt s k < 128) : Utf8.decode s k = (byteAt s k, 1) := by
 have e : (s.get! (k + 0)).toNat = byteAt s k := by
  unfold byteAt
  rw [Nat.add_zero, getElem?_pos s k hk]
  simp only [Option.getD_some]
  obtain ⟨d⟩ := s
  have hk' : k < d.size := hk
  show (d[k]!).toNat = (d[k]'hk').toNat
  rw [getElem!_pos d k hk']
 unfold Utf8.decode
 simp only [e]
 rw [if_pos h]
section
variable {P : Program} {nt : Nat} {m0 m : AM}
theorem nextS_reg {idN it sN c T2 T3 : Nat} {p2 p3 : String} {af2 af3 : Array Edge} (hsN : sN < nt) (hc : c < nt) (hne : c ≠ sN) {i0 : Nat} {t : Fm} (ht : t it = some (.pointer (some ⟨i0, 0, none⟩))) (htN : t sN = none) (htc : t c = none)
  {base : Nat} {R0 R : Pl} {w0 w : World} {a : Act} {s : ByteArray} {r k : Nat} (hs : ∀ k, k < s.size → byteAt s k < 128) (hp : Post base m0 m R0 R w0 w) (hf : FR R nt t a.tmps) (hi : ItS R w i0 s k w0.heap.size r) :
  (Code.region idN #[(⟨some sN, .next (.tmp it) true, T2, p2, af2, none⟩ : Oper), (⟨some c, .extract (.tmp sN) 0, T3, p3, af3, none⟩ : Oper)] false).wp P (fun ex a2 w2 => ex = .normal ∧ a2.defers = a.defers ∧ Post base m0 m R0 R w0 w2 ∧
   ((s.size ≤ k ∧ a2.eval (.tmp c) = .bool false ∧ FR R nt t a2.tmps) ∨ (k < s.size ∧ a2.eval (.tmp c) = .bool true ∧ FR R nt (put t sN (.tuple #[.bool true, .int .i64 (k : Int), .int .i32 (byteAt s k : Int)])) a2.tmps ∧ ItS R w2 i0 s (k + 1) w0.heap.size r))) a w := by
 refine wp_region ?_
 have hie : a.eval (.tmp it) = .pointer (some ⟨r, 0, none⟩) := by
  have h1 := tmp_of hf ht
  generalize a.eval (.tmp it) = y at h1
  cases h1 with
  | ptr _ _ p h => rw [hi.at_] at h; injection h with h; subst h; rfl
 have hl2 : List.range (#[(⟨some sN, .next (.tmp it) true, T2, p2, af2, none⟩ : Oper), (⟨some c, .extract (.tmp sN) 0, T3, p3, af3, none⟩ : Oper)] : Array Oper).size = [0, 1] := rfl
 rw [hl2]
 have hg : (getObj r).run P w = .ok (.stringIter s k) w := by simp [getObj, Sem.run, hi.obj, Result.andThen]
 rcases Nat.lt_or_ge k s.size with hlt | hge
 ·have hd := decode_one hlt (hs k hlt)
  have hrl : r < w.heap.size := (Array.getElem?_eq_some_iff.1 hi.obj).1
  have hset : (setObj r (.stringIter s (k + 1))).run P w = .ok () (setBlock w r (.stringIter s (k + 1))) := by simp [setObj, Sem.run, hi.obj, Result.andThen, setBlock]
  refine wpOps_one (i := 0) rfl rfl (v' := .tuple #[.bool true, .int .i64 (k : Int), .int .i32 (byteAt s k : Int)]) (w' := setBlock w r (.stringIter s (k + 1))) (.inl ?_) ?_
  ·simp [execOp, hie, Instr.next, hg, hlt, hd, hset, Result.andThen, goInt]
  ·refine wpOps_one (i := 1) rfl rfl (v' := .bool true) (w' := setBlock w r (.stringIter s (k + 1))) (.inl ?_) ?_
   ·simp [execOp, eval_put hf hsN, Instr.extract]
   ·have hf2 : FR R nt (put t sN (.tuple #[.bool true, .int .i64 (k : Int), .int .i32 (byteAt s k : Int)])) (a.put (some sN) (.tuple #[.bool true, .int .i64 (k : Int), .int .i32 (byteAt s k : Int)])).tmps := hf.put hsN (g1_rel (by simp [g1, g0]))
    refine ⟨rfl, by rw [put_defers, put_defers], Post.iter hp hi.obj hi.low (.inl rfl), .inr ⟨hlt, eval_put hf2 hc, hf2.putw (by rw [put_ne _ _ hne]; exact htc), hi.at_, setBlock_same hrl, hi.low⟩⟩
 ·refine wpOps_one (i := 0) rfl rfl (v' := .tuple #[.bool false]) (w' := w) (.inl ?_) ?_
  ·simp [execOp, hie, Instr.next, hg, show ¬ k < s.size by omega, Result.andThen]
  ·refine wpOps_one (i := 1) rfl rfl (v' := .bool false) (w' := w) (.inl ?_) ?_
   ·simp [execOp, eval_put hf hsN, Instr.extract]
   ·exact ⟨rfl, by rw [put_defers, put_defers], hp, .inl ⟨hge, eval_put (hf.putw htN) hc, (hf.putw htN).putw htc⟩⟩
end
end Go.Proofs.YtedbjmgchfgabaaDoor.Abs
namespace Go.Proofs.YtedbjmgchfgabaaDoor.Abs
set_option linter.unusedSimpArgs false
set_option linter.unusedVariables false
open Go.RowKit
open Go.Proofs.YtedbjmgchfgabaaDoor.Sim
open Go.Proofs
section
variable {P : Program} {nt : Nat} {m0 m : AM} {t : Fm} {Q : AEx → Fm → AM → Prop}
def RoundS (Q : AEx → Fm → AM → Prop) (I : Fm → AM → Prop) : AEx → Fm → AM → Prop
 | .normal, t, m => ∃ t2, (∀ i v, t2 i = some v → t i = some v) ∧ I t2 m
 | .ret, t, m => Q .ret t m
 | .exit _, _, _ => False
set_option maxHeartbeats 1000000 in
theorem AW.rangeStr {idR idN b it x sN c T T1 T2 T3 n : Nat} {p1 p2 p3 : String} {af1 af2 af3 : Array Edge} {opsR : List Oper} {body : Code} (hsR : opsR = opsR.take n ++ [(⟨some it, .range T (.tmp x), T1, p1, af1, none⟩ : Oper)]) (hit : Nat.blt it nt = true) (hsN : Nat.blt sN nt = true) (hc : Nat.blt c nt = true) (hT : P.underlying T = some .string)
  (hcN : Nat.beq c sN = false) (M1 : AM) (s : ByteArray) (hs : ∀ k, k < s.size → byteAt s k < 128) (l : List (Nat × Value)) (Inv : Nat → Fm → AM → Prop)
  (hpre : AWo P nt opsR.toArray (opsR.take n) t m (fun t1 m1 => t1 x = some (.string s) ∧ m1 = M1 ∧ All (fun i v => t1 i = some v) l))
  (h0 : Inv 0 (fr ((it, itV M1) :: l)) (M1 ++ [none]))
  (hI : ∀ k t m, Inv k t m → t it = some (itV M1) ∧ t sN = none ∧ t c = none)
  (hround : ∀ k t m, k < s.size → Inv k t m → AW P nt m body (put t sN (.tuple #[.bool true, .int .i64 (k : Int), .int .i32 (byteAt s k : Int)])) m (RoundS Q (Inv (k + 1))))
  (hend : ∀ k t m, s.size ≤ k → Inv k t m → Q .normal t m) :
  AW P nt m0 (.seq (.region idR opsR.toArray false) (.block b (.loop (.seq (.region idN #[(⟨some sN, .next (.tmp it) true, T2, p2, af2, none⟩ : Oper), (⟨some c, .extract (.tmp sN) 0, T3, p3, af3, none⟩ : Oper)] false) (.seq (.cond (.tmp c) .skip (.exit b)) body))))) t m Q := by
 intro base R0 w0 R ac w hb hm0 hp ht
 simp only [Nat.blt_eq] at hit hsN hc
 have n4 : c ≠ sN := fun e => by rw [e] at hcN; simp at hcN
 refine wp_seq (wp_mono (by rw [hsR]; exact rangeS_reg (pre := opsR.take n) hit hT M1 s l (by rw [← hsR]; exact hpre) hb hp ht) ?_)
 rintro ex a1 w1 ⟨rfl, R1, r, q1, f1, d1, i1⟩
 refine wp_block ?_
 let J : Nat → Act → World → Prop := fun u a' w' => ∃ k t' m' R', u = s.size + 1 - k ∧ k ≤ s.size ∧ Inv k t' m' ∧ Post base m0 m' R0 R' w0 w' ∧ FR R' nt t' a'.tmps ∧ a'.defers = ac.defers ∧ ItS R' w' M1.length s k w0.heap.size r
 have hJ0 : ∃ u, J u a1 w1 := ⟨_, 0, _, _, R1, rfl, Nat.zero_le _, h0, q1, f1, d1, i1.at_, i1.obj, Nat.le_trans hp.size i1.low⟩
 open Classical in
 let μ : Act → World → Nat := fun a w => if h : ∃ k, J k a w then Classical.choose (least _ h) else 0
 have hμ : ∀ a w (h : ∃ k, J k a w), J (μ a w) a w ∧ ∀ k, J k a w → μ a w ≤ k := fun a w h => by
  have hs := Classical.choose_spec (least _ h)
  have e : μ a w = Classical.choose (least _ h) := dif_pos h
  rw [e]
  exact ⟨hs.1, fun k hk => Nat.le_of_not_lt fun hlt => hs.2 k hlt hk⟩
 refine wp_loop (fun a w => ∃ k, J k a w) μ hJ0 fun a1 w1 hJ => ?_
 obtain ⟨⟨k, t', m', R', u1, hk, hInv, p1, f1, d1, i1⟩, _⟩ := hμ a1 w1 hJ
 obtain ⟨g1, g2, g3⟩ := hI k t' m' hInv
 refine wp_seq (wp_mono (nextS_reg hsN hc n4 g1 g2 g3 hs p1 f1 i1) ?_)
 rintro ex a2 w2 ⟨rfl, d2, p2, ⟨hge, e2, f2⟩ | ⟨hlt, e2, f2, i2⟩⟩
 ·refine wp_seq (wp_cond_split e2 (fun e => by cases e) fun _ => wp_exit ?_)
  simp only [Exit.then, Exit.inBlock, if_true]
  exact ⟨.normal, t', m', R', rfl, d2.trans d1, p2, f2, hend k t' m' hge hInv⟩
 ·refine wp_seq (wp_cond_split e2 (fun _ => wp_skip ?_) fun e => by cases e)
  have hb2 := Nat.le_trans hb p2.size
  have hrep2 := p2.rep
  refine wp_mono (hround k t' m' hlt hInv base R' w2 R' a2 w2 hb2 hrep2 (.refl hrep2) f2) ?_
  rintro ex a4 w4 ⟨e, t4, m4, R4, rfl, d4, p4, f4, h4⟩
  cases e with
  | normal =>
   obtain ⟨t5, hw, hI5⟩ := h4
   have hJ' : J (s.size + 1 - (k + 1)) a4 w4 := by
    refine ⟨k + 1, t5, m4, R4, rfl, hlt, hI5, p2.trans p4, f4.weak hw, d4.trans (d2.trans d1), p4.le _ _ i2.at_, ?_, i2.low⟩
    rw [p4.keep r (Array.getElem?_eq_some_iff.1 i2.obj).1 (owned_iter hrep2 i2.obj)]
    exact i2.obj
   exact ⟨⟨_, hJ'⟩, Nat.lt_of_le_of_lt ((hμ a4 w4 ⟨_, hJ'⟩).2 _ hJ') (by rw [u1]; omega)⟩
  | exit i => exact h4.elim
  | ret => exact ⟨.ret, t4, m4, R4, rfl, d4.trans (d2.trans d1), p2.trans p4, f4, h4⟩
end
set_option maxRecDepth 100000 in
theorem Apart_bad {m : AM} {sv kv : Value} {B : Brd} {K : List Kd} (hs : Strs m sv B) (hk : Kds m kv K) (hkl : K.length ≤ 9223372036854775807) (hg : goodB B K = false) :
  ACall Tryd.prog 4 #[sv, kv] m (Ret (.bool true) m) := by
 refine ACall.drop (.bool _) ?_
 have haw : ∀ M, ACall Tryd.prog 10 #[] M (Ret (.bool true) M) := fun M => awake_ok
 have hG := fun T => RGood_ok (hs.old T) (hk.old T)
 rw [hg] at hG
 have hO := fun T => of_ok (hk.old T) hkl
 refine ACall.start Tryd.func4 rfl rfl ?_
 have hB := fun T => Best_no (m := m ++ (gb (kvc (K.take 14)) 5 :: T)) (hs.old _) (kds_at (k := 0) (l := K.take 14) rfl) (by rw [good_take]; exact hg)
 (repeat (first|(with_reducible refine AWo.cons ?_)|((with_reducible refine Step.id ?_);first|((with_reducible apply Step.gdT);exact rfl;exact rfl;((rfl)))|((with_reducible apply Step.move);exact rfl;exact rfl)|((with_reducible apply Step.assign);exact rfl;exact rfl)|((with_reducible apply Step.eql);exact rfl;exact rfl;exact rfl)|((with_reducible apply Step.not);exact rfl;exact rfl)|((with_reducible apply Step.extract);exact rfl;exact rfl;exact rfl)|((with_reducible apply Step.pickT);exact rfl;exact rfl;exact rfl;exact rfl;((rfl)))|((with_reducible apply Step.callG fit (k := 0));exact rfl;exact rfl;exact Tryd.func13;exact rfl;exact rfl;exact (hO _);((first|(simp only [zq7, zq8, zq9, zq0, iv_set, bv_set, iv_rep, bv_rep] <;> rfl)|rfl)))|((with_reducible apply Step.callR fit);exact rfl;exact Tryd.func12;exact rfl;exact rfl;exact (hB _))|((with_reducible apply Step.callR fit);exact rfl;exact Tryd.func8;exact rfl;exact rfl;exact (hG _))|((with_reducible apply Step.callR fit);exact rfl;exact Tryd.func10;exact rfl;exact rfl;exact (haw _)))|(with_reducible first|apply AWo.nil|apply AW.seq|apply Then.n|apply AW.regL)|((with_reducible apply AW.condT);exact rfl;((rfl)))))
 (refine AW.ret ?_; (repeat (first | refine Then.r ?_ | refine InBlk.r ?_)))
 exact ⟨_, rfl, rfl, _, rfl⟩
theorem el41 : elemB Tryd.prog 41 = some (42, 1, 24, #[.slice none 0 0]) := by kernel_rfl
theorem un41 : Tryd.prog.underlying 41 = some (.slice 42) := by kernel_rfl
theorem el42 : elemB Tryd.prog 42 = some (4, 1, 1, #[.bool false]) := by kernel_rfl
theorem bs41 {m : AM} {k a w : Nat} : abuildSlice Tryd.prog m k 41 1 [(0, .slice (some ⟨a, 0, none⟩) w w)] = some (.slice (some ⟨k, 0, none⟩) 1 1, m.set k (some { cells := [.slice (some ⟨a, 0, none⟩) w w] })) := by kernel_rfl
def rowsV (w i : Nat) (rs : Nat → Nat) : List Value := (List.range i).map fun y => .slice (some ⟨rs y, 0, none⟩) w w
theorem rowsV_len (w i : Nat) (rs : Nat → Nat) : (rowsV w i rs).length = i := by simp [rowsV]
theorem rowsV_succ (w i : Nat) (rs : Nat → Nat) (b : Nat) : rowsV w (i + 1) (fun y => if y = i then b else rs y) = rowsV w i rs ++ [.slice (some ⟨b, 0, none⟩) w w] := by
 unfold rowsV
 rw [List.range_succ, List.map_append]
 congr 1
 ·exact List.map_congr_left fun y hy => by
   have h := List.mem_range.1 hy
   simp only [if_neg (show y ≠ i by omega)]
 ·simp
structure GrowP (lo : Nat) (M : AM) (w i : Nat) (u : Value) (rs : Nat → Nat) (g : Nat → Value) : Prop where
 row : Row M lo 1 u (rowsV w i rs) i
 low : lo ≤ M.length
 cells : ∀ y, y < i → M[rs y]? = some (some { cells := rgv w g })
 ge : ∀ y, y < i → lo ≤ rs y
 no : ∀ y, y < i → NotOf u (rs y)
 inj : ∀ y z, y < i → z < i → rs y = rs z → y = z
theorem GrowP.grid {lo : Nat} {M : AM} {w i : Nat} {u : Value} {rs : Nat → Nat} {g : Nat → Value} (h : GrowP lo M w i u rs g) (hi : 0 < i) : ∃ ao, lo ≤ ao ∧ GridP M w i i u ao rs (fun _ => g) := by
 obtain ⟨a, kd, sz, h1, h2, rfl, h3⟩ := h.row.pos hi
 rcases h.row with ⟨e, _⟩ | ⟨a', kd', sz', _, e, h4, _, h5⟩
 ·cases e
 ·injection e with e _ _
  injection e with e
  injection e with e _ _
  subst e
  refine ⟨a, h1, Sl.mk (Nat.le_refl _), ⟨_, kd', sz', h4, by rcases h5 with rfl | ⟨rfl, _⟩ <;> rfl, rowsV_len .., fun y hy => by simp [rowsV, hy]⟩, h.cells, h.inj, fun y hy q => h.no y hy i i (by rw [q])⟩
theorem GrowP.push {lo : Nat} {M M' : AM} {w i : Nat} {u u' : Value} {rs : Nat → Nat} {g : Nat → Value} {b : Nat} (h : GrowP lo M w i u rs g) (hr : Row M' lo 1 u' (rowsV w i rs ++ [.slice (some ⟨b, 0, none⟩) w w]) (i + 1)) (hl : M.length ≤ M'.length) (hk : ∀ j, j < M.length → NotOf u j → M'[j]? = M[j]? ∧ NotOf u' j) (hb : M'[b]? = some (some { cells := rgv w g })) (hb1 : M.length ≤ b) (hb2 : NotOf u' b) : GrowP lo M' w (i + 1) u' (fun y => if y = i then b else rs y) g := by
 have hlo := h.low
 have lt : ∀ y, y < i → rs y < M.length := fun y hy => (List.getElem?_eq_some_iff.1 (h.cells y hy)).1
 refine ⟨by rw [rowsV_succ]; exact hr, by omega, fun y hy => ?_, fun y hy => ?_, fun y hy => ?_, fun y z hy hz q => ?_⟩
 ·by_cases e : y = i
  ·rw [if_pos e]; exact hb
  ·rw [if_neg e, (hk _ (lt y (by omega)) (h.no y (by omega))).1]; exact h.cells y (by omega)
 ·by_cases e : y = i
  ·rw [if_pos e]; omega
  ·rw [if_neg e]; exact h.ge y (by omega)
 ·by_cases e : y = i
  ·rw [if_pos e]; exact hb2
  ·rw [if_neg e]; exact (hk _ (lt y (by omega)) (h.no y (by omega))).2
 ·by_cases e : y = i
  ·by_cases e' : z = i
   ·omega
   ·rw [if_pos e, if_neg e'] at q; have := lt z (by omega); omega
  ·by_cases e' : z = i
   ·rw [if_neg e, if_pos e'] at q; have := lt y (by omega); omega
   ·rw [if_neg e, if_neg e'] at q; exact h.inj _ _ (by omega) (by omega) q
theorem GrowP.old {lo : Nat} {M : AM} {w i : Nat} {u : Value} {rs : Nat → Nat} {g : Nat → Value} (h : GrowP lo M w i u rs g) (T : AM) : GrowP lo (M ++ T) w i u rs g :=
 { h with row := h.row.old T, low := by rw [List.length_append]; have := h.low; omega, cells := fun y hy => get_old _ (h.cells y hy) }
theorem bv_rgv (w : Nat) : bv (List.replicate w false) = rgv w (fun _ => .bool false) := by
 unfold bv
 rw [List.map_replicate, rgv_rep]
theorem cellsL_more (w h : Nat) : ∀ k, ∃ rest, cellsL w (h + k) = cellsL w h ++ rest
 | 0 => ⟨[], by simp⟩
 | k + 1 => by
  obtain ⟨r, hr⟩ := cellsL_more w h k
  exact ⟨r ++ rowL w (h + k), by rw [← Nat.add_assoc, cellsL_succ, hr, List.append_assoc]⟩
theorem rowL_more (x y : Nat) : ∀ k, ∃ rest, rowL (x + k) y = rowL x y ++ rest
 | 0 => ⟨[], by simp⟩
 | k + 1 => by
  obtain ⟨r, hr⟩ := rowL_more x y k
  exact ⟨r ++ [(((x + k : Nat) : Int), (y : Int))], by rw [← Nat.add_assoc, rowL_succ, hr, List.append_assoc]⟩
theorem cellsL_split {w h x y : Nat} (hx : x < w) (hy : y < h) : ∃ rest, cellsL w h = cellsL w y ++ rowL x y ++ [cl x y] ++ rest := by
 obtain ⟨r, hr⟩ := cellsL_more w (y + 1) (h - (y + 1))
 obtain ⟨q, hq⟩ := rowL_more (x + 1) y (w - (x + 1))
 rw [show y + 1 + (h - (y + 1)) = h by omega] at hr
 rw [show x + 1 + (w - (x + 1)) = w by omega] at hq
 refine ⟨q ++ r, ?_⟩
 rw [hr, cellsL_succ, hq, rowL_succ]
 simp only [cl, List.append_assoc]
theorem ldr_at {U : Cell → Bool} {all pre rest : List Cell} {d : Cell} (h : all = pre ++ [d] ++ rest) (hl : ldr U [] (pre ++ [d]) = ldr U [] pre ++ [d]) : (ldr U [] all)[(ldr U [] pre).length]? = some d := by
 rw [h, ldr_app, hl]
 obtain ⟨k, hk, _⟩ := ldr_pre U rest (ldr U [] pre ++ [d])
 rw [hk, List.append_assoc, List.getElem?_append_right (Nat.le_refl _), Nat.sub_self]
 rfl
structure ApI (B : Brd) (K : List Kd) (M1 : AM) (mv : Value) (mao : Nat) (mrs : Nat → Nat) (pre : List Cell) (M : AM) (sm : Int) : Prop where
 low : Low0 M1 M
 mt : ∃ mt : Cell → Bool, GridP M (bw B) B.length B.length mv mao mrs (metF mt []) ∧ ∀ d, mt d = true ↔ ∃ a ∈ ldr (usB B) [] pre, Reach (usB B) a d
 sum : ∃ P : Cell → Brd, (∀ c ∈ ldr (usB B) [] pre, PartOf B c (P c)) ∧ sm = ((ldr (usB B) [] pre).map fun c => V (leafM (P c) K) (wholeR B)).sum
 rng : 0 ≤ sm ∧ sm ≤ 256000000 * ((ldr (usB B) [] pre).length : Nat)
namespace ApI
variable {B : Brd} {K : List Kd} {M1 : AM} {mv : Value} {mao : Nat} {mrs : Nat → Nat} {pre : List Cell} {M : AM} {sm : Int}
theorem old (h : ApI B K M1 mv mao mrs pre M sm) (T : AM) : ApI B K M1 mv mao mrs pre (M ++ T) sm := by
 obtain ⟨mt, h1, h2⟩ := h.mt
 exact { h with low := h.low.old T, mt := ⟨mt, h1.old T, h2⟩ }
theorem start (hlo : Low0 M1 M) (hg : GridP M (bw B) B.length B.length mv mao mrs (fun _ _ => .bool false)) : ApI B K M1 mv mao mrs [] M 0 :=
 ⟨hlo, ⟨fun _ => false, hg.congr fun y x _ _ => by simp [metF], fun d => by simp [ldr]⟩, ⟨fun _ => [], fun c hc => by simp [ldr] at hc, by simp [ldr]⟩, by simp [ldr]⟩
theorem skip (h : ApI B K M1 mv mao mrs pre M sm) {d : Cell} (hd : usB B d = false ∨ ∃ a ∈ ldr (usB B) [] pre, Reach (usB B) a d) : ApI B K M1 mv mao mrs (pre ++ [d]) M sm := by
 have e : ldr (usB B) [] (pre ++ [d]) = ldr (usB B) [] pre := by rw [ldr_app]; exact ldr_not hd
 exact ⟨h.low, by rw [e]; exact h.mt, by rw [e]; exact h.sum, by rw [e]; exact h.rng⟩
theorem found (h : ApI B K M1 mv mao mrs pre M sm) {mt : Cell → Bool} (hmt : ∀ d, mt d = true ↔ ∃ a ∈ ldr (usB B) [] pre, Reach (usB B) a d) {d : Cell} (hu : usB B d = true) (hm : mt d = false) {W T : List Cell} (hb : BF B d mt W T T.length) {M' : AM} (hl : M.length ≤ M'.length) (hk : ∀ j, j < M1.length → M'[j]? = M[j]?) (hg' : GridP M' (bw B) B.length B.length mv mao mrs (metF mt W)) (hB0 : 0 < B.length) {v : Int} (hv : v = V (leafM (brdU B W) K) (wholeR B)) (hvr : 0 ≤ v ∧ v ≤ 256000000) :
  ldr (usB B) [] (pre ++ [d]) = ldr (usB B) [] pre ++ [d] ∧ ApI B K M1 mv mao mrs (pre ++ [d]) M' (sm + v) := by
 have hno : ¬ ∃ a ∈ ldr (usB B) [] pre, Reach (usB B) a d := fun q => by rw [(hmt d).2 q] at hm; cases hm
 have e : ldr (usB B) [] (pre ++ [d]) = ldr (usB B) [] pre ++ [d] := by rw [ldr_app]; exact ldr_one hu hno
 obtain ⟨f1, f2⟩ := hb.fin hmt (fun a ha => (ldr_sub ha).2) hu hm
 refine ⟨e, ⟨⟨by have := h.low.len; omega, fun j hj => by rw [hk j hj]; exact h.low.keep j hj⟩, ⟨fun d' => mt d' || decide (d' ∈ W), hg'.congr fun y x _ _ => by simp [metF], by rw [e]; exact f2⟩, ?_, ?_⟩⟩
 ·obtain ⟨P, h1, h2⟩ := h.sum
  rw [e]
  refine ⟨fun c => if c = d then brdU B W else P c, fun c hc => ?_, ?_⟩
  ·show PartOf B c (if c = d then brdU B W else P c)
   by_cases q : c = d
   ·rw [if_pos q, q]; exact brdU_part hB0 f1
   ·rw [if_neg q]
    rcases List.mem_append.1 hc with hc | hc
    ·exact h1 c hc
    ·exact absurd (List.mem_singleton.1 hc) q
  ·rw [List.map_append, List.sum_append, h2, hv]
   congr 1
   ·congr 1
    refine List.map_congr_left fun c hc => ?_
    have q : c ≠ d := fun q => hno ⟨c, hc, by rw [q]; exact .refl⟩
    show _ = V (leafM (if c = d then brdU B W else P c) K) (wholeR B)
    rw [if_neg q]
   ·simp
 ·have := h.rng
  rw [e, List.length_append, List.length_singleton]
  omega
end ApI
theorem wholeR_ok {B : Brd} (h : boardB B = true) : (wholeR B).ok (bw B) (bh B) := by
 have h' := h
 simp only [boardB, skinB, Bool.and_eq_true, decide_eq_true_eq] at h'
 have z0 : (rowOf B 0).size = bw B := rfl
 unfold wholeR R4.ok bh
 simp only
 omega
theorem kinds_g {B : Brd} {K : List Kd} (h : goodB B K = true) : ∀ k ∈ K, 1 ≤ k.g := by
 intro k hk
 simp only [goodB, kindsB, Bool.and_eq_true, List.all_eq_true] at h
 have := h.2.2 k hk
 simp only [kdB, Bool.and_eq_true, decide_eq_true_eq] at this
 omega
set_option maxHeartbeats 16000000 in
set_option maxRecDepth 100000 in
theorem Apart_good {m : AM} {sv kv : Value} {B : Brd} {K : List Kd} (hs : Strs m sv B) (hk : Kds m kv K) (hg : goodB B K = true) :
  ACall Tryd.prog 4 #[sv, kv] m (Ret (.bool true) m) := by
 have hv : boardB B = true := by simp only [goodB, Bool.and_eq_true] at hg; exact hg.1
 have hsk : skinB B = true := by simp only [boardB, Bool.and_eq_true] at hv; exact hv.1
 have hbw : B.length ≤ 16 ∧ bw B ≤ 16 := by
  have := hv
  simp only [boardB, Bool.and_eq_true, decide_eq_true_eq] at this
  exact this.2
 have hB0 : 0 < B.length := by
  have : 1 ≤ B.length := by simp only [skinB, Bool.and_eq_true, decide_eq_true_eq] at hsk; exact hsk.1.1
  omega
 have hkl : K.length ≤ 12 := by
  have h1 : kindsB K = true := by simp only [goodB, Bool.and_eq_true] at hg; exact hg.2
  simp only [kindsB, Bool.and_eq_true, decide_eq_true_eq] at h1; exact h1.1
 have et : K.take 14 = K := List.take_of_length_le (by omega)
 refine ACall.drop (.bool _) ?_
 have haw : ∀ M, ACall Tryd.prog 10 #[] M (Ret (.bool true) M) := fun M => awake_ok
 have hG := fun T => RGood_ok (hs.old T) (hk.old T)
 rw [hg] at hG
 have hO := fun T => of_ok (hk.old T) (by omega)
 rw [et] at hO
 have hB := fun T => Best_ok (m := m ++ (gb (kvc K) 5 :: T)) (hs.old _) (kds_at (k := 0) (l := K) rfl) hg
 obtain ⟨A, O, sl, la, rd⟩ := id hs
 have z0 : (rowOf B 0).size = bw B := rfl
 refine ACall.start Tryd.func4 rfl rfl ?_
 obtain ⟨qq, cc, rfl⟩ := sl.shape
 (repeat (first|(with_reducible refine AWo.cons ?_)|((with_reducible refine Step.id ?_);first|((with_reducible apply Step.move);exact rfl;exact rfl)|((with_reducible apply Step.assign);exact rfl;exact rfl)|((with_reducible apply Step.not);exact rfl;exact rfl)|((with_reducible apply Step.extract);exact rfl;exact rfl;exact rfl)|((with_reducible apply Step.callG fit (k := 0));exact rfl;exact rfl;exact Tryd.func13;exact rfl;exact rfl;exact (hO _);((first|(simp only [zq7, zq8, zq9, zq0, iv_set, bv_set, iv_rep, bv_rep] <;> rfl)|rfl)))|((with_reducible apply Step.callR fit);exact rfl;exact Tryd.func12;exact rfl;exact rfl;exact (hB _))|((with_reducible apply Step.callR fit);exact rfl;exact Tryd.func8;exact rfl;exact rfl;exact (hG _)))|(with_reducible first|apply AWo.nil|apply AW.seq|apply Then.n|apply AW.regL|apply AW.skip)|((with_reducible apply AW.condF);exact rfl;((rfl)))))
 ((with_reducible apply Step.callX fit);exact rfl;exact Tryd.func14;exact rfl;exact rfl;exact (Parts_ok (hs.old _) hv))
 rintro _ M1 ⟨N1, hN1⟩ ⟨pu, pcs, rfl, hpr, hpt⟩
 have hL1 : Low0 m M1 := ⟨by rw [hN1]; simp only [List.length_append]; omega, fun j hj => by rw [hN1, List.append_assoc]; exact List.getElem?_append_left hj⟩
 clear hN1 hO hB hG
 rw [show bh B = B.length from rfl] at hpr hpt
 obtain ⟨pa, psl, pal, prd⟩ := hpr.sl (by have := hL1.len; omega)
 obtain ⟨pq, pcc, rfl⟩ := psl.shape
 clear hpr
 (repeat (first|(with_reducible refine AWo.cons ?_)|((with_reducible refine Step.id ?_);first|((with_reducible apply Step.gdT);exact rfl;exact rfl;((rfl)))|((with_reducible apply Step.move);exact rfl;exact rfl)|((with_reducible apply Step.assign);exact rfl;exact rfl)|((with_reducible apply Step.neq);exact rfl;exact rfl;exact rfl)|((with_reducible apply Step.len);exact rfl;((assumption));((decide +kernel));exact rfl)|((with_reducible apply Step.extract);exact rfl;exact rfl;exact rfl)|((with_reducible apply Step.pickF);exact rfl;exact rfl;exact rfl;exact rfl;((rfl))))|(with_reducible first|apply AWo.nil|apply AW.seq|apply Then.n|apply AW.regL|apply AW.block|apply AW.skip)|((with_reducible apply AW.condF);exact rfl;((rfl)))))
 have hb0 := best_V hg
 generalize bestM B K = bb at *
 refine AW.midX 0 (fun t' M => ∃ mv rs, GrowP M1.length M (bw B) B.length mv rs (fun _ => .bool false) ∧ Low0 M1 M ∧ All (fun i v => t' i = some v) [(0, .slice qq B.length cc), (1, kv), (5, .int .i64 bb), (7, .slice pq (ldr (usB B) [] (cellsL (bw B) B.length)).length pcc), (9, mv)]) ?_ ?_
 ·refine AW.loopW (fun z t M => ∃ (i : Nat) (mv : Value) (rs : Nat → Nat), z = B.length - i ∧ i ≤ B.length ∧ GrowP M1.length M (bw B) i mv rs (fun _ => .bool false) ∧ Low0 M1 M ∧
   t = fr [(0, .slice qq B.length cc), (1, kv), (5, .int .i64 bb), (7, .slice pq (ldr (usB B) [] (cellsL (bw B) B.length)).length pcc), (9, mv), (50, .int .i64 (B.length : Int)), (51, .int .i64 ((i : Nat) : Int))]) ⟨_, [(0, .slice qq B.length cc), (1, kv), (5, .int .i64 bb), (7, .slice pq (ldr (usB B) [] (cellsL (bw B) B.length)).length pcc), (9, .slice none 0 0), (50, .int .i64 (B.length : Int)), (51, .int .i64 ((0 : Nat) : Int))], (by repeat (first | exact trivial | (refine And.intro rfl ?_))), 0, _, fun _ => 0, rfl, Nat.zero_le _, ⟨Row.nil, by simp, fun y hy => by omega, fun y hy => by omega, fun y hy => by omega, fun y z hy => by omega⟩, ⟨by simp, fun j hj => List.getElem?_append_left hj⟩, rfl⟩ ?_
  rintro z t M ⟨i, mv, rs, rfl, hi, hgp, hlo, rfl⟩
  have r0 := fun T => (hL1.trans hlo).rd (rd 0 hB0) T
  rcases Nat.lt_or_ge i B.length with hlt | hgt
  ·refine AW.rebase ?_
   (repeat (first|(with_reducible refine AWo.cons ?_)|((with_reducible refine Step.id ?_);first|((with_reducible apply Step.move);exact rfl;exact rfl)|((with_reducible apply Step.load);exact rfl;((decide +kernel));exact rfl;((exact r0 _)))|((with_reducible apply Step.ix1);exact rfl;((assumption));exact rfl;((decide +kernel));exact rfl;((omega)))|((with_reducible apply Step.lenS);exact rfl;exact un9;exact rfl)|((with_reducible apply Step.lss);exact rfl;exact rfl;exact rfl)|((with_reducible apply Step.make1 0);exact rfl;exact rfl;exact rfl;exact el42;((omega));exact rfl;((first|(simp only [zq7, zq8, zq9, zq0, iv_set, bv_set, iv_rep, bv_rep] <;> rfl)|rfl)))|((with_reducible apply Step.buildS 1);exact rfl;exact rfl;exact (fun _ _ => bs41);exact rfl;((first|(simp only [zq7, zq8, zq9, zq0, iv_set, bv_set, iv_rep, bv_rep] <;> rfl)|rfl))))|(with_reducible first|apply AWo.nil|apply AW.seq|apply Then.n|apply AW.regL|apply AW.block|apply AW.skip)|((with_reducible apply AW.condT);exact rfl;(((simp only [zq1, zq2, zq3, zq4, zq5, zq6];first|assumption|omega))))))
   have hw : (rowOf B 0).size = bw B := rfl
   rw [hw, bv_rgv]
   have hgl := hgp.low
   ((with_reducible apply Step.appRow2 (s := 1) (n := i) (xl := 1) (b0 := M1.length) (c := rowsV (bw B) i rs) (new := [.slice (some ⟨M.length + 0, 0, none⟩) (bw B) (bw B)]));exact rfl;exact rfl;exact (hgp.row.old _);exact (Sl.mk (Nat.le_refl _));exact (fun _ => RdL.new rfl rfl);exact el41;exact un41;exact rfl;exact rfl;exact rfl;((omega));exact rfl;((rw [List.length_append];omega)))
   intro u2 M2 hr2 hml2 hk2 hn2
   have hx0 : (M ++ [some { cells := rgv (bw B) (fun _ => .bool false) }, some { cells := [Value.slice (some { block := M.length + 0, off := 0 }) (bw B) (bw B)] }])[M.length + 0]? = some (some { cells := rgv (bw B) (fun _ => .bool false) }) := (get_app _ _ 0).trans rfl
   rw [List.length_append, List.length_cons, List.length_singleton] at hml2 hk2 hn2
   have hno : NotOf mv (M.length + 0) := by
    refine Classical.byContradiction fun q => ?_
    have := hgp.row.lt_of q
    omega
   have hgp2 : GrowP M1.length M2 (bw B) (i + 1) u2 (fun y => if y = i then M.length + 0 else rs y) (fun _ => .bool false) :=
    hgp.push hr2 (by omega) (fun j hj hn => ⟨by rw [hk2 j (by omega) hn, List.getElem?_append_left hj], hn2 j (by omega) hn⟩) (by rw [hk2 _ (by omega) hno]; exact hx0) (by omega) (hn2 _ (by omega) hno)
   have hlo2 : Low0 M1 M2 := ⟨by omega, fun j hj => by rw [hk2 j (by omega) (NotOf.row hgp.row hj), List.getElem?_append_left (by omega)]; exact hlo.keep j hj⟩
   generalize (fun y => if y = i then M.length + 0 else rs y) = rs2 at *
   clear hr2 hk2 hn2 hx0 hno
   rw [← List.append_nil M2]
   (repeat (first|(with_reducible refine AWo.cons ?_)|((with_reducible refine Step.id ?_);first|((with_reducible apply Step.move);exact rfl;exact rfl)|((with_reducible apply Step.assign);exact rfl;exact rfl)|((with_reducible apply Step.add);exact rfl;exact rfl;((omega));exact rfl))|(with_reducible first|apply AWo.nil|apply Then.n|apply AW.regL|apply InBlk.n)))
   exact ⟨_, [(0, .slice qq B.length cc), (1, kv), (5, .int .i64 bb), (7, .slice pq (ldr (usB B) [] (cellsL (bw B) B.length)).length pcc), (9, u2), (50, .int .i64 (B.length : Int)), (51, .int .i64 ((i + 1 : Nat) : Int))], by omega, (by repeat (first | exact trivial | (refine And.intro rfl ?_))), i + 1, u2, rs2, rfl, by omega, hgp2.old _, hlo2.old _, rfl⟩
  ·obtain rfl : i = B.length := by omega
   refine AW.rebase ?_
   (repeat (first|(with_reducible refine AWo.cons ?_)|((with_reducible refine Step.id ?_);((with_reducible apply Step.lss);exact rfl;exact rfl;exact rfl))|(with_reducible first|apply AWo.nil|apply AW.seq|apply Then.n|apply AW.regL|apply AW.exit|apply Then.e)|((with_reducible apply AW.condF);exact rfl;(((simp only [zq1, zq2, zq3, zq4, zq5, zq6];first|assumption|omega))))))
   exact ⟨rfl, mv, rs, hgp.old _, hlo.old _, (by repeat (first | exact trivial | (refine And.intro rfl ?_)))⟩
 ·rintro t' M ⟨mv, rs, hgp, hlo, hsl⟩
  refine InBlk.hit ?_
  refine Then.n ?_
  refine AW.weak (fr_all hsl) ?_
  clear hsl
  rw [← List.append_nil M]
  (repeat (first|(with_reducible refine AWo.cons ?_)|((with_reducible refine Step.id ?_);first|((with_reducible apply Step.move);exact rfl;exact rfl)|((with_reducible apply Step.assign);exact rfl;exact rfl)|((with_reducible apply Step.len);exact rfl;((assumption));((decide +kernel));exact rfl))|(with_reducible first|apply AWo.nil|apply AW.seq|apply Then.n|apply AW.regL|apply AW.block)))
  obtain ⟨mao, hmao, hgm0⟩ := hgp.grid hB0
  have hge := hgp.ge
  have hI0 : ApI B K M1 mv mao rs [] M 0 := ApI.start hlo hgm0
  clear hgp hlo hgm0
  refine AW.midR 2 (fun t' M => ∃ sm, ApI B K M1 mv mao rs (cellsL (bw B) B.length) M sm ∧ (ldr (usB B) [] (cellsL (bw B) B.length)).length ≤ 12 ∧ All (fun i v => t' i = some v) [(5, .int .i64 bb), (7, .slice pq (ldr (usB B) [] (cellsL (bw B) B.length)).length pcc), (10, .int .i64 sm), (11, .int .i64 (((ldr (usB B) [] (cellsL (bw B) B.length)).length : Nat) : Int))]) ?_ ?_
  ·refine AW.loopW (fun z t M => ∃ (y : Nat) (sm : Int), z = B.length - y ∧ y ≤ B.length ∧ ApI B K M1 mv mao rs (cellsL (bw B) y) M sm ∧ (ldr (usB B) [] (cellsL (bw B) y)).length ≤ 12 ∧
    t = fr [(0, .slice qq B.length cc), (1, kv), (5, .int .i64 bb), (7, .slice pq (ldr (usB B) [] (cellsL (bw B) B.length)).length pcc), (9, mv), (10, .int .i64 sm), (11, .int .i64 (((ldr (usB B) [] (cellsL (bw B) y)).length : Nat) : Int)), (63, .int .i64 (B.length : Int)), (64, .int .i64 ((y : Nat) : Int))]) ⟨_, [(0, .slice qq B.length cc), (1, kv), (5, .int .i64 bb), (7, .slice pq (ldr (usB B) [] (cellsL (bw B) B.length)).length pcc), (9, mv), (10, .int .i64 0), (11, .int .i64 ((0 : Nat) : Int)), (63, .int .i64 (B.length : Int)), (64, .int .i64 ((0 : Nat) : Int))], (by repeat (first | exact trivial | (refine And.intro rfl ?_))), 0, 0, rfl, Nat.zero_le _, hI0.old _, Nat.zero_le _, rfl⟩ ?_
   clear hI0
   rintro z t M ⟨y, sm, rfl, hy, hI, h12, rfl⟩
   rcases Nat.lt_or_ge y B.length with hlt | hgt
   ·have r0 := fun T => (hL1.trans hI.low).rd (rd 0 hB0) T
    refine AW.rebase ?_
    (repeat (first|(with_reducible refine AWo.cons ?_)|((with_reducible refine Step.id ?_);first|((with_reducible apply Step.move);exact rfl;exact rfl)|((with_reducible apply Step.assign);exact rfl;exact rfl)|((with_reducible apply Step.lss);exact rfl;exact rfl;exact rfl))|(with_reducible apply AWo.nil)|((fail_if_success (with_reducible refine AW.atR (id := 16) ?_));(with_reducible apply AW.seq))|(with_reducible first|apply Then.n|apply AW.regL|apply AW.block|apply AW.skip)|((with_reducible apply AW.condT);exact rfl;(((simp only [zq1, zq2, zq3, zq4, zq5, zq6];first|assumption|omega))))))
    refine AW.rangeStr (n := 3) rfl rfl rfl rfl un9q rfl M (rowOf B 0) (fun k hk => by have := (skin_row hsk hB0).2 k (by rw [← z0]; exact hk); omega) [(0, .slice qq B.length cc), (1, kv), (5, .int .i64 bb), (7, .slice pq (ldr (usB B) [] (cellsL (bw B) B.length)).length pcc), (9, mv), (10, .int .i64 sm), (11, .int .i64 (((ldr (usB B) [] (cellsL (bw B) y)).length : Nat) : Int)), (12, .int .i64 ((y : Nat) : Int)), (63, .int .i64 (B.length : Int)), (64, .int .i64 ((y : Nat) : Int))]
     (fun x t M' => ∃ sm, x ≤ bw B ∧ ApI B K M1 mv mao rs (cellsL (bw B) y ++ rowL x y) M' sm ∧ (ldr (usB B) [] (cellsL (bw B) y ++ rowL x y)).length ≤ 12 ∧
      t = fr [(70, itV M), (0, .slice qq B.length cc), (1, kv), (5, .int .i64 bb), (7, .slice pq (ldr (usB B) [] (cellsL (bw B) B.length)).length pcc), (9, mv), (10, .int .i64 sm), (11, .int .i64 (((ldr (usB B) [] (cellsL (bw B) y ++ rowL x y)).length : Nat) : Int)), (12, .int .i64 ((y : Nat) : Int)), (63, .int .i64 (B.length : Int)), (64, .int .i64 ((y : Nat) : Int))]) ?_ ?_ ?_ ?_ ?_
    ·simp only [List.take_succ_cons, List.take_zero]
     (repeat (first|(with_reducible refine AWo.cons ?_)|((with_reducible refine Step.id ?_);first|((with_reducible apply Step.move);exact rfl;exact rfl)|((with_reducible apply Step.load);exact rfl;((decide +kernel));exact rfl;((exact r0 _)))|((with_reducible apply Step.ix1);exact rfl;((assumption));exact rfl;((decide +kernel));exact rfl;((omega))))|(with_reducible apply AWo.nil)))
     exact ⟨rfl, List.append_nil _, (by repeat (first | exact trivial | (refine And.intro rfl ?_)))⟩
    ·refine ⟨sm, Nat.zero_le _, ?_, ?_, ?_⟩
     ·rw [show rowL 0 y = [] from rfl, List.append_nil]; exact hI.old _
     ·rw [show rowL 0 y = [] from rfl, List.append_nil]; exact h12
     ·rw [show rowL 0 y = [] from rfl, List.append_nil]
    ·rintro k t M' ⟨sm, _, _, _, rfl⟩
     exact ⟨rfl, rfl, rfl⟩
    ·clear hI h12 r0 sm
     rintro x t M' hx ⟨sm, _, hI, h12, rfl⟩
     have hxl : x < bw B := by rw [← z0]; exact hx
     have hrl := hI.low
     obtain ⟨mt, hgm, hmt⟩ := hI.mt
     have rg := fun T => RGrade_any ((hL1.trans (hrl.old T)).strs hs) hsk (x : Int) (y : Int)
     have rr := fun T => hgm.rdr hlt T
     have rx := fun T => hgm.rd hlt hxl T
     have slm := hgm.sl
     have hue := usB_eq B ((x : Int), (y : Int))
     have hmx : metF mt [] y x = .bool (mt (cl x y)) := by simp [metF]
     rw [hmx] at rx
     generalize grz B ((x : Int), (y : Int)) = gz at *
     generalize byteAt (rowOf B 0) x = bx at *
     refine AW.rebase ?_
     have hsu : cellsL (bw B) y ++ rowL (x + 1) y = cellsL (bw B) y ++ rowL x y ++ [cl x y] := by rw [rowL_succ, ← List.append_assoc]; rfl
     by_cases hgz : gz < 1
     ·have hus : usB B (cl x y) = false := hue.trans (decide_eq_false (by omega))
      have hsk1 := hI.skip (.inl hus)
      have he : ldr (usB B) [] (cellsL (bw B) y ++ rowL x y ++ [cl x y]) = ldr (usB B) [] (cellsL (bw B) y ++ rowL x y) := by rw [ldr_app]; exact ldr_not (.inl hus)
      (repeat (first|(with_reducible refine AWo.cons ?_)|((with_reducible refine Step.id ?_);first|((with_reducible apply Step.gdF);exact rfl;exact rfl;(((simp only [zq1, zq2, zq3, zq4, zq5, zq6];first|assumption|omega))))|((with_reducible apply Step.move);exact rfl;exact rfl)|((with_reducible apply Step.assign);exact rfl;exact rfl)|((with_reducible apply Step.lss);exact rfl;exact rfl;exact rfl)|((with_reducible apply Step.extract);exact rfl;exact rfl;exact rfl)|((with_reducible apply Step.pickT);exact rfl;exact rfl;exact rfl;exact rfl;(((simp only [zq1, zq2, zq3, zq4, zq5, zq6];first|assumption|omega))))|((with_reducible apply Step.callR fit);exact rfl;exact Tryd.func15;exact rfl;exact rfl;exact (rg _)))|(with_reducible first|apply AWo.nil|apply AW.seq|apply Then.n|apply AW.regL|apply AW.block|apply AW.exit|apply InBlk.hit|apply Then.e)|((with_reducible apply AW.condT);exact rfl;((rfl)))))
      exact ⟨fr [(70, itV M), (0, .slice qq B.length cc), (1, kv), (5, .int .i64 bb), (7, .slice pq (ldr (usB B) [] (cellsL (bw B) B.length)).length pcc), (9, mv), (10, .int .i64 sm), (11, .int .i64 (((ldr (usB B) [] (cellsL (bw B) y ++ rowL x y)).length : Nat) : Int)), (12, .int .i64 ((y : Nat) : Int)), (63, .int .i64 (B.length : Int)), (64, .int .i64 ((y : Nat) : Int))], fr_all (by repeat (first | exact trivial | (refine And.intro rfl ?_))), sm, by omega, by rw [hsu]; exact hsk1.old _, by rw [hsu, he]; exact h12, by rw [hsu, he]⟩
     ·have hus : usB B (cl x y) = true := hue.trans (decide_eq_true (by omega))
      (repeat (first|(with_reducible refine AWo.cons ?_)|((with_reducible refine Step.id ?_);first|((with_reducible apply Step.gdT);exact rfl;exact rfl;(((simp only [zq1, zq2, zq3, zq4, zq5, zq6];first|assumption|omega))))|((with_reducible apply Step.move);exact rfl;exact rfl)|((with_reducible apply Step.assign);exact rfl;exact rfl)|((with_reducible apply Step.load);exact rfl;((decide +kernel));exact rfl;((first|exact rr _|exact rx _)))|((with_reducible apply Step.ix1z);exact rfl;((first|assumption|exact Sl.mk (by omega)));exact rfl;((decide +kernel));exact rfl;((omega)))|((with_reducible apply Step.lss);exact rfl;exact rfl;exact rfl)|((with_reducible apply Step.extract);exact rfl;exact rfl;exact rfl)|((with_reducible apply Step.pickF);exact rfl;exact rfl;exact rfl;exact rfl;(((simp only [zq1, zq2, zq3, zq4, zq5, zq6];first|assumption|omega))))|((with_reducible apply Step.callR fit);exact rfl;exact Tryd.func15;exact rfl;exact rfl;exact (rg _)))|(with_reducible apply AWo.nil)|((fail_if_success (with_reducible refine AW.atR (id := 20) ?_));(with_reducible apply AW.seq))|(with_reducible first|apply Then.n|apply AW.regL|apply AW.block)))
      cases hmc : mt (cl x y) with
      | true =>
       have hr := (hmt _).1 hmc
       have hsk1 := hI.skip (.inr hr)
       have he : ldr (usB B) [] (cellsL (bw B) y ++ rowL x y ++ [cl x y]) = ldr (usB B) [] (cellsL (bw B) y ++ rowL x y) := by rw [ldr_app]; exact ldr_not (.inr hr)
       (repeat (first|(with_reducible first|apply AW.exit|apply InBlk.hit|apply Then.e)|((with_reducible apply AW.condT);exact rfl;((rfl)))))
       exact ⟨fr [(70, itV M), (0, .slice qq B.length cc), (1, kv), (5, .int .i64 bb), (7, .slice pq (ldr (usB B) [] (cellsL (bw B) B.length)).length pcc), (9, mv), (10, .int .i64 sm), (11, .int .i64 (((ldr (usB B) [] (cellsL (bw B) y ++ rowL x y)).length : Nat) : Int)), (12, .int .i64 ((y : Nat) : Int)), (63, .int .i64 (B.length : Int)), (64, .int .i64 ((y : Nat) : Int))], fr_all (by repeat (first | exact trivial | (refine And.intro rfl ?_))), sm, by omega, by rw [hsu]; exact hsk1.old _, by rw [hsu, he]; exact h12, by rw [hsu, he]⟩
      | false =>
       (repeat (first|(with_reducible refine AWo.cons ?_)|((with_reducible refine Step.id ?_);((with_reducible apply Step.move);exact rfl;exact rfl))|(with_reducible first|apply AW.seq|apply Then.n|apply AW.regL|apply AW.skip)|((with_reducible apply AW.condF);exact rfl;((rfl)))))
       ((with_reducible apply Step.callF fit);exact rfl;exact Tryd.func16;exact rfl;exact rfl;exact (Alone_ok (x0 := x) (y0 := y) (hL1.strs hs) hv (hrl.old _) (hgm.old _) hge hus hmc))
       rintro _ M2 ⟨uv, W, T, rfl, hbf, hstr, hl2, hk2, hgm2⟩
       rw [List.append_nil] at hl2 hk2
       have hl12 : Low0 M1 M2 := ⟨by have := hrl.len; omega, fun j hj => by rw [hk2 j (by have := hrl.len; omega) (fun z hz => by have := hge z hz; omega)]; exact hrl.keep j hj⟩
       have hkd : ∀ T, Kds (M2 ++ T) kv K := fun T => by
        obtain ⟨N, hN⟩ := (hL1.trans hl12).ex
        rw [hN, List.append_assoc]; exact hk.old _
       have hO2 := fun T => of_ok (hkd T) (by omega)
       rw [et] at hO2
       have hgU : goodB (brdU B W) K = true := by simp only [goodB, Bool.and_eq_true] at hg ⊢; exact ⟨brdU_ok hv, hg.2⟩
       have hB2 := fun T => Best_ok (m := M2 ++ (gb (kvc K) 5 :: T)) (hstr.old _) (kds_at (k := 0) (l := K) rfl) hgU
       have hbU := best_V hgU
       have hwU : wholeR (brdU B W) = wholeR B := by unfold wholeR; rw [brdU_bw hB0, show bh (brdU B W) = bh B from brdU_len B W]
       rw [hwU] at hbU
       have hf1 := (hbf.fin hmt (fun a ha => (ldr_sub ha).2) hus hmc).1
       have hrok : (wholeR B).ok (bw B) (bh B) := wholeR_ok hv
       have hle : V (leafM (brdU B W) K) (wholeR B) ≤ V (leafM B K) (wholeR B) := part_le (brdU_part hB0 hf1) (fun a b ha hb => by have := (skin_row hsk hb).2 a ha; unfold gr; omega) hrok
       have hvr := V_in hgU (r := wholeR B) (by rw [brdU_bw hB0, show bh (brdU B W) = bh B from brdU_len B W]; exact hrok)
       rw [← hbU] at hle hvr
       rw [← hb0] at hle
       have hlen := psz_len (U := usB B) (w := bw B) (h := bh B) (fun d hd => usB_in hd) hus hbf.nd hf1
       generalize bestM (brdU B W) K = b2 at *
       obtain ⟨rest, hrest⟩ := cellsL_split hxl hlt
       obtain ⟨he, hI2⟩ := hI.found hmt hus hmc hbf hl2 (fun j hj => hk2 j (by have := hrl.len; omega) (fun z hz => by have := hge z hz; omega)) hgm2 hB0 hbU hvr
       have hat := ldr_at hrest he
       have hkn := (List.getElem?_eq_some_iff.1 hat).1
       have hps := hpt.2 _ _ hat
       have hrp := fun T => hl12.rd ((prd (by omega)).at_ _ hps) T
       simp only [← hlen, Nat.zero_add] at hrp
       rw [← hsu] at he hI2
       generalize hkk : (ldr (usB B) [] (cellsL (bw B) y ++ rowL x y)).length = kk at *
       have hk' : (ldr (usB B) [] (cellsL (bw B) y ++ rowL (x + 1) y)).length = kk + 1 := by rw [he, List.length_append, hkk]; rfl
       have hIr := hI.rng
       rw [hkk] at hIr
       rw [← List.append_nil M2]
       (repeat (first|(with_reducible refine AWo.cons ?_)|((with_reducible refine Step.id ?_);first|((with_reducible apply Step.gdT);exact rfl;exact rfl;((first|rfl|(simp only [zq1, zq2, zq3, zq4, zq5, zq6];first|assumption|omega))))|((with_reducible apply Step.move);exact rfl;exact rfl)|((with_reducible apply Step.assign);exact rfl;exact rfl)|((with_reducible apply Step.load);exact rfl;((decide +kernel));exact rfl;((exact hrp _)))|((with_reducible apply Step.ixz (s := 7));exact rfl;((assumption));exact rfl;((decide +kernel));exact rfl;((omega)))|((with_reducible apply Step.field0);exact rfl;((decide +kernel));exact rfl)|((with_reducible apply Step.add);exact rfl;exact rfl;((omega));exact rfl)|((with_reducible apply Step.gtr);exact rfl;exact rfl;exact rfl)|((with_reducible apply Step.geq);exact rfl;exact rfl;exact rfl)|((with_reducible apply Step.neq);exact rfl;exact rfl;exact rfl)|((with_reducible apply Step.len);exact rfl;((assumption));((decide +kernel));exact rfl)|((with_reducible apply Step.extract);exact rfl;exact rfl;exact rfl)|((with_reducible apply Step.pickF);exact rfl;exact rfl;exact rfl;exact rfl;((first|rfl|(simp only [zq1, zq2, zq3, zq4, zq5, zq6];first|assumption|omega))))|((with_reducible apply Step.callG fit (k := 0));exact rfl;exact rfl;exact Tryd.func13;exact rfl;exact rfl;exact (hO2 _);((first|(simp only [zq7, zq8, zq9, zq0, iv_set, bv_set, iv_rep, bv_rep] <;> rfl)|rfl)))|((with_reducible apply Step.callR fit);exact rfl;exact Tryd.func12;exact rfl;exact rfl;exact (hB2 _)))|(with_reducible first|apply AWo.nil|apply AW.seq|apply Then.n|apply AW.regL|apply AW.skip)|((with_reducible apply AW.condF);exact rfl;(focus ((simp;done))))))
       by_cases hk13 : (12 : Int) < (kk : Int) + 1
       ·(repeat (first|(with_reducible refine AWo.cons ?_)|((with_reducible refine Step.id ?_);first|((with_reducible apply Step.assign);exact rfl;exact rfl)|((with_reducible apply Step.callR fit);exact rfl;exact Tryd.func10;exact rfl;exact rfl;exact (haw _)))|(with_reducible first|apply AWo.nil|apply AW.seq|apply Then.n|apply AW.regL)|((with_reducible apply AW.condT);exact rfl;(((simp only [zq1, zq2, zq3, zq4, zq5, zq6];first|assumption|omega))))))
        (refine AW.ret ?_; (repeat (first | refine Then.r ?_ | refine InBlk.r ?_)))
        obtain ⟨N, hN⟩ := (hL1.trans hl12).ex
        exact ⟨_, rfl, rfl, N ++ [gb (kvc K) 5], by rw [hN, List.append_assoc]⟩
       ·(repeat (first|(with_reducible first|apply InBlk.n|apply AW.skip)|((with_reducible apply AW.condF);exact rfl;(((simp only [zq1, zq2, zq3, zq4, zq5, zq6];first|assumption|omega))))))
        exact ⟨fr [(70, itV M), (0, .slice qq B.length cc), (1, kv), (5, .int .i64 bb), (7, .slice pq (ldr (usB B) [] (cellsL (bw B) B.length)).length pcc), (9, mv), (10, .int .i64 (sm + b2)), (11, .int .i64 ((kk : Int) + 1)), (12, .int .i64 ((y : Nat) : Int)), (63, .int .i64 (B.length : Int)), (64, .int .i64 ((y : Nat) : Int))], fr_all (by repeat (first | exact trivial | (refine And.intro rfl ?_))), sm + b2, by omega, hI2.old _, by omega, by rw [hk']; rfl⟩
    ·clear hI h12 r0 sm
     rintro x t M hx ⟨sm, hxw, hI, h12, rfl⟩
     have hxg : bw B ≤ x := by rw [← z0]; exact hx
     obtain rfl : x = bw B := by omega
     rw [← cellsL_succ] at hI h12
     rw [← cellsL_succ]
     refine InBlk.n ?_
     refine Then.n ?_
     refine AW.rebase ?_
     (repeat (first|(with_reducible refine AWo.cons ?_)|((with_reducible refine Step.id ?_);first|((with_reducible apply Step.move);exact rfl;exact rfl)|((with_reducible apply Step.add);exact rfl;exact rfl;((omega));exact rfl))|(with_reducible first|apply AWo.nil|apply Then.n|apply AW.regL)))
     exact ⟨_, [(0, .slice qq B.length cc), (1, kv), (5, .int .i64 bb), (7, .slice pq (ldr (usB B) [] (cellsL (bw B) B.length)).length pcc), (9, mv), (10, .int .i64 sm), (11, .int .i64 (((ldr (usB B) [] (cellsL (bw B) (y + 1))).length : Nat) : Int)), (63, .int .i64 (B.length : Int)), (64, .int .i64 ((y + 1 : Nat) : Int))], by omega, (by repeat (first | exact trivial | (refine And.intro rfl ?_))), y + 1, sm, rfl, by omega, hI.old _, h12, rfl⟩
   ·obtain rfl : y = B.length := by omega
    refine AW.rebase ?_
    (repeat (first|(with_reducible refine AWo.cons ?_)|((with_reducible refine Step.id ?_);((with_reducible apply Step.lss);exact rfl;exact rfl;exact rfl))|(with_reducible first|apply AWo.nil|apply AW.seq|apply Then.n|apply AW.regL|apply AW.exit|apply Then.e)|((with_reducible apply AW.condF);exact rfl;(((simp only [zq1, zq2, zq3, zq4, zq5, zq6];first|assumption|omega))))))
    refine MidR.e ⟨sm, hI.old _, h12, (by repeat (first | exact trivial | (refine And.intro rfl ?_)))⟩
  ·clear hI0
   rintro t' M ⟨sm, hI, h12, hsl⟩
   refine InBlk.hit ?_
   refine Then.n ?_
   refine AW.weak (fr_all hsl) ?_
   clear hsl
   rw [← List.append_nil M]
   have hKg : ∀ k ∈ K, 1 ≤ k.g := kinds_g hg
   obtain ⟨P, hP, hsm⟩ := hI.sum
   have hlaw := parts_law (r := wholeR B) hKg hP (fun d hd => ldr_cover (usB B) (cellsL (bw B) B.length) [] d (usB_in hd) hd) (wholeR_ok hv)
   rw [← hsm, ← hb0] at hlaw
   have hIl := hI.low
   (repeat (first|(with_reducible refine AWo.cons ?_)|((with_reducible refine Step.id ?_);first|((with_reducible apply Step.gdT);exact rfl;exact rfl;(focus (first|(simp only [zq1, zq2, zq3, zq4, zq5, zq6];first|assumption|omega)|(simp;done))))|((with_reducible apply Step.move);exact rfl;exact rfl)|((with_reducible apply Step.assign);exact rfl;exact rfl)|((with_reducible apply Step.leq);exact rfl;exact rfl;exact rfl)|((with_reducible apply Step.eql);exact rfl;exact rfl;exact rfl)|((with_reducible apply Step.len);exact rfl;((assumption));((decide +kernel));exact rfl)|((with_reducible apply Step.pickT);exact rfl;exact rfl;exact rfl;exact rfl;(focus (first|(simp only [zq1, zq2, zq3, zq4, zq5, zq6];first|assumption|omega)|(simp;done))))|((with_reducible apply Step.callR fit);exact rfl;exact Tryd.func10;exact rfl;exact rfl;exact (haw _)))|(with_reducible first|apply AWo.nil|apply AW.seq|apply Then.n|apply AW.regL)))
   (refine AW.ret ?_; (repeat (first | refine Then.r ?_ | refine InBlk.r ?_)))
   obtain ⟨N, hN⟩ := (hL1.trans hIl).ex
   exact ⟨_, rfl, rfl, N, by rw [hN, List.append_nil]⟩
theorem TopApart_ok {m : AM} {sv kv : Value} {B : Brd} {K : List Kd} (hs : Strs m sv B) (hk : Kds m kv K) (hkl : K.length ≤ 9223372036854775807) :
  ACall Tryd.prog 4 #[sv, kv] m (Ret (.bool true) m) := by
 cases hg : goodB B K with
 | false => exact Apart_bad hs hk hkl hg
 | true => exact Apart_good hs hk hg
end Go.Proofs.YtedbjmgchfgabaaDoor.Abs
