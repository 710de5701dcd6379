/- Proved here: what the proof of CutFill rests on, part 4 of 4. Conditions: those that each theorem names. -/
import Derived.Test.YtibhgdglbillaaaDoorCutFillK3
namespace Go.Proofs.YtibhgdglbillaaaDoor.Abs
set_option linter.unusedSimpArgs false
set_option linter.unusedVariables false
open Go.RowKit
open Go.Proofs.YtibhgdglbillaaaDoor.Sim
open Go.Proofs
/-- The table's rows from i on are there. -/
def FT (M : AM) (b0 k N : Nat) (ls ws : List Int) (i : Nat) : Prop :=
  ∃ tcl : List Value, M[b0]? = some (some { cells := tcl }) ∧ tcl.length = k + 1 ∧ ∀ r, i ≤ r → r ≤ k → ∃ (a : Nat) (kd : Kind), tcl[r]? = some (.slice (some ⟨a, 0, none⟩) (N + 1) (N + 1)) ∧ b0 < a ∧ M[a]? = some (some { cells := iv (fR N ls ws r), kind := kd })
set_option maxHeartbeats 16000000 in
set_option maxRecDepth 100000 in
theorem Fill_ok {m : AM} {v u : Value} {ls ws : List Int} {N : Nat} (hl : Ints m v ls) (hw : Ints m u ws) (hok : fillB (N : Nat) ls ws = true) :
    ACall Tryd.prog 38 #[.int .i64 (N : Nat), v, u] m (More (fun m' w => ∃ q, m.length ≤ q ∧ w = .tuple #[.int .i64 ((fR N ls ws 0).getD N 0), .slice (some ⟨q, 0, none⟩) ls.length ls.length, .int .i64 0] ∧ m'[q]? = some (some { cells := iv (csP N ls ws ls.length) })) m) := by
  have hF := FiOk.of hok
  have hN2 := hF.n2
  have hln := hF.len
  have hl12 := hF.l12
  have hit := hF.it
  have hRB := fun i => fR_bd (N := N) (ls := ls) (ws := ws) (fun i hi => (hit i hi).1) (fun i hi => (hit i hi).2.2) i
  obtain ⟨a, o, h1, h2, h3⟩ := id hl
  obtain ⟨b, p, k1, k2, k3⟩ := id hw
  refine ACall.start Tryd.func38 rfl rfl ?_
  (repeat (first | (with_reducible refine AWo.cons ?_) | ((with_reducible refine Step.id ?_); first | ((with_reducible apply Step.gdT); exact rfl; exact rfl; (focus (first | rfl | (simp only [decide_eq_true_eq, decide_eq_false_iff_not, Bool.not_eq_true', Bool.not_eq_false', Bool.not_true, Bool.not_false]; first | assumption | omega)))) | ((with_reducible apply Step.move); exact rfl; exact rfl) | ((with_reducible apply Step.assign); exact rfl; exact rfl) | ((with_reducible apply Step.lss); exact rfl; exact rfl; exact rfl) | ((with_reducible apply Step.gtr); exact rfl; exact rfl; exact rfl) | ((with_reducible apply Step.neq); exact rfl; exact rfl; exact rfl) | ((with_reducible apply Step.len); exact rfl; (focus (assumption)); (focus (decide +kernel)); exact rfl) | ((with_reducible apply Step.pickF); exact rfl; exact rfl; exact rfl; exact rfl; (focus (first | rfl | (simp only [decide_eq_true_eq, decide_eq_false_iff_not, Bool.not_eq_true', Bool.not_eq_false', Bool.not_true, Bool.not_false]; first | assumption | omega))))) | (with_reducible refine AWo.nil ?_) | ((with_reducible apply AW.seq)) | ((with_reducible apply Then.n)) | ((with_reducible apply AW.regL)) | ((with_reducible apply AW.block)) | ((with_reducible apply AW.skip)) | ((with_reducible apply AW.condF); exact rfl; (focus ((simp only [decide_eq_true_eq, decide_eq_false_iff_not, Bool.not_eq_true', Bool.not_eq_false', Bool.not_true, Bool.not_false]; first | assumption | omega))))))
  refine AW.loopT (fun q t L => ∃ k : Nat, q = ls.length - k ∧ k ≤ ls.length ∧ L = [] ∧ t = [(0, .int .i64 (N : Nat)), (1, v), (2, u), (37, v), (38, .int .i64 (ls.length : Nat)), (39, .int .i64 (k : Nat))]) ⟨_, _, _, (Or.inl ⟨rfl, (by repeat (first | exact trivial | (refine And.intro rfl ?_)))⟩), 0, rfl, Nat.zero_le _, rfl, rfl⟩ ?_
  rintro q t L ⟨k, rfl, hk, rfl, rfl⟩
  rcases Nat.lt_or_ge k ls.length with hlt | hge
  · have r1 := h3 k hlt
    have r2 := k3 k (by omega)
    obtain ⟨x1, x2, x3, x4⟩ := hit k hlt
    generalize ls.getD k 0 = x at *
    generalize ws.getD k 0 = y at *
    (repeat (first | (with_reducible refine AWo.cons ?_) | ((with_reducible refine Step.id ?_); first | ((with_reducible apply Step.gdT); exact rfl; exact rfl; (focus ((simp only [decide_eq_true_eq, decide_eq_false_iff_not, Bool.not_eq_true', Bool.not_eq_false', Bool.not_true, Bool.not_false]; first | assumption | omega)))) | ((with_reducible apply Step.move); exact rfl; exact rfl) | ((with_reducible apply Step.assign); exact rfl; exact rfl) | ((with_reducible apply Step.load); exact rfl; (focus (decide +kernel)); exact rfl; (focus (exact Rd.old _ (by assumption)))) | ((with_reducible apply Step.ix1); exact rfl; (focus (assumption)); exact rfl; (focus (decide +kernel)); exact rfl; (focus (omega))) | ((with_reducible apply Step.add); exact rfl; exact rfl; (focus (omega)); exact rfl) | ((with_reducible apply Step.lss); exact rfl; exact rfl; exact rfl) | ((with_reducible apply Step.gtr); exact rfl; exact rfl; exact rfl) | ((with_reducible apply Step.pickF); exact rfl; exact rfl; exact rfl; exact rfl; (focus ((simp only [decide_eq_true_eq, decide_eq_false_iff_not, Bool.not_eq_true', Bool.not_eq_false', Bool.not_true, Bool.not_false]; first | assumption | omega))))) | (with_reducible refine AWo.nil ?_) | ((with_reducible apply AW.seq)) | ((with_reducible apply Then.n)) | ((with_reducible apply AW.regL)) | ((with_reducible apply AW.block)) | ((with_reducible apply InBlk.n)) | ((with_reducible apply AW.skip)) | ((with_reducible apply AW.condT); exact rfl; (focus ((simp only [decide_eq_true_eq, decide_eq_false_iff_not, Bool.not_eq_true', Bool.not_eq_false', Bool.not_true, Bool.not_false]; first | assumption | omega)))) | ((with_reducible apply AW.condF); exact rfl; (focus ((simp only [decide_eq_true_eq, decide_eq_false_iff_not, Bool.not_eq_true', Bool.not_eq_false', Bool.not_true, Bool.not_false]; first | assumption | omega))))))
    exact ⟨_, _, _, by omega, (Or.inl ⟨rfl, (by repeat (first | exact trivial | (refine And.intro rfl ?_)))⟩), k + 1, rfl, by omega, rfl, rfl⟩
  · obtain rfl : k = ls.length := by omega
    have e1 : (ls.length : Int) + 1 = ((ls.length + 1 : Nat) : Int) := rfl
    have e2 : (N : Int) + 1 = ((N + 1 : Nat) : Int) := rfl
    (repeat (first | (with_reducible refine AWo.cons ?_) | ((with_reducible refine Step.id ?_); first | ((with_reducible apply Step.move); exact rfl; exact rfl) | ((with_reducible apply Step.assign); exact rfl; exact rfl) | ((with_reducible apply Step.ix1z); exact rfl; (focus (exact Sl.mk (by omega))); exact rfl; (focus (decide +kernel)); exact rfl; (focus (omega))) | ((with_reducible apply Step.addE); exact rfl; exact rfl; (focus (assumption)); (focus (omega)); exact rfl) | ((with_reducible apply Step.sub); exact rfl; exact rfl; (focus (omega)); exact rfl) | ((with_reducible apply Step.lss); exact rfl; exact rfl; exact rfl) | ((with_reducible apply Step.len); exact rfl; (focus (assumption)); (focus (decide +kernel)); exact rfl) | ((with_reducible apply Step.make1 0); exact rfl; exact rfl; exact rfl; exact el122; (focus (omega)); exact rfl; (focus (first | (simp only [List.nil_append, List.cons_append, List.set_cons_zero, List.set_cons_succ, iv_set, bv_set, iv_rep, bv_rep]; done) | (simp only [List.nil_append, List.cons_append, List.set_cons_zero, List.set_cons_succ, iv_set, bv_set, iv_rep, bv_rep]; rfl) | rfl))) | ((with_reducible apply Step.store (k := 0)); exact rfl; exact rfl; exact rfl; exact rfl; (focus (decide +kernel)); exact rfl; exact rfl; (focus (first | omega | (simp [iv, bv]; done) | (simp [iv, bv]; omega))); (focus (first | (simp only [List.nil_append, List.cons_append, List.set_cons_zero, List.set_cons_succ, iv_set, bv_set, iv_rep, bv_rep]; done) | (simp only [List.nil_append, List.cons_append, List.set_cons_zero, List.set_cons_succ, iv_set, bv_set, iv_rep, bv_rep]; rfl) | rfl))) | ((with_reducible apply Step.make1 1); exact rfl; exact rfl; exact rfl; exact el47; (focus (omega)); exact rfl; (focus (first | (simp only [List.nil_append, List.cons_append, List.set_cons_zero, List.set_cons_succ, iv_set, bv_set, iv_rep, bv_rep]; done) | (simp only [List.nil_append, List.cons_append, List.set_cons_zero, List.set_cons_succ, iv_set, bv_set, iv_rep, bv_rep]; rfl) | rfl)))) | (with_reducible refine AWo.nil ?_) | ((with_reducible apply AW.seq)) | ((with_reducible apply Then.n)) | ((with_reducible apply AW.regL)) | ((with_reducible apply AW.block)) | ((with_reducible apply AW.exit)) | ((with_reducible apply InBlk.hit)) | ((with_reducible apply Then.e)) | ((with_reducible apply AW.condF); exact rfl; (focus ((simp only [decide_eq_true_eq, decide_eq_false_iff_not, Bool.not_eq_true', Bool.not_eq_false', Bool.not_true, Bool.not_false]; first | assumption | omega))))))
    refine AW.loopW (fun rk t M => ∃ i : Nat, rk = i ∧ i ≤ ls.length ∧ (∃ Nn, M = m ++ Nn) ∧ m.length < M.length ∧ FT M m.length ls.length N ls ws i ∧
      t = fr [(0, .int .i64 (N : Nat)), (1, v), (2, u), (11, .slice (some ⟨m.length + 0, 0, none⟩) (ls.length + 1) (ls.length + 1)), (12, .int .i64 ((i : Int) - 1))]) ⟨_, _, (by repeat (first | exact trivial | (refine And.intro rfl ?_))), ls.length, rfl, Nat.le_refl _, ⟨_, rfl⟩, by simp, ?_, rfl⟩ ?_
    · refine ⟨_, by rw [show m.length = m.length + 0 from rfl, get_app]; rfl, by simp, fun r hr1 hr2 => ?_⟩
      obtain rfl : r = ls.length := by omega
      exact ⟨m.length + 1, .own, by simp, by omega, by rw [fR_last, get_app]; rfl⟩
    rintro i t M ⟨_, rfl, hi, hMN, hML, hFT, rfl⟩
    obtain ⟨tcl, t1, t2, t3⟩ := hFT
    cases i with
    | zero =>
      (repeat (first | (with_reducible refine AWo.cons ?_) | ((with_reducible refine Step.id ?_); first | ((with_reducible apply Step.move); exact rfl; exact rfl) | ((with_reducible apply Step.geq); exact rfl; exact rfl; exact rfl)) | (with_reducible refine AWo.nil ?_) | ((fail_if_success (with_reducible refine AW.atR (id := 19) ?_)); ((with_reducible apply AW.seq))) | ((with_reducible apply Then.n)) | ((with_reducible apply AW.regL)) | ((with_reducible apply AW.exit)) | ((with_reducible apply InBlk.hit)) | ((with_reducible apply Then.e)) | ((with_reducible apply AW.condF); exact rfl; (focus (rfl)))))
      refine AW.rebase ?_
      (repeat (first | (with_reducible refine AWo.cons ?_) | ((with_reducible refine Step.id ?_); first | ((with_reducible apply Step.move); exact rfl; exact rfl) | ((with_reducible apply Step.assign); exact rfl; exact rfl) | ((with_reducible apply Step.len); exact rfl; (focus (assumption)); (focus (decide +kernel)); exact rfl) | ((with_reducible apply Step.make1 0); exact rfl; exact rfl; exact rfl; exact el47; (focus (omega)); exact rfl; (focus (first | (simp only [List.nil_append, List.cons_append, List.set_cons_zero, List.set_cons_succ, iv_set, bv_set, iv_rep, bv_rep]; done) | (simp only [List.nil_append, List.cons_append, List.set_cons_zero, List.set_cons_succ, iv_set, bv_set, iv_rep, bv_rep]; rfl) | rfl)))) | (with_reducible refine AWo.nil ?_) | ((with_reducible apply AW.seq)) | ((with_reducible apply Then.n)) | ((with_reducible apply AW.regL)) | ((with_reducible apply AW.block))))
      rw [csP_zero (N := N) (ws := ws)]
      refine AW.loopT (fun q t L => ∃ i : Nat, q = ls.length - i ∧ i ≤ ls.length ∧ L = [some { cells := iv (csP N ls ws i) }] ∧ t = [(0, .int .i64 (N : Nat)), (1, v), (2, u), (11, .slice (some ⟨m.length + 0, 0, none⟩) (ls.length + 1) (ls.length + 1)), (14, .slice (some ⟨M.length + 0, 0, none⟩) ls.length ls.length), (15, .int .i64 (rm N ls ws i : Nat)), (136, v), (137, .int .i64 (ls.length : Nat)), (138, .int .i64 (i : Nat))]) ⟨_, _, _, (Or.inl ⟨rfl, (by repeat (first | exact trivial | (refine And.intro rfl ?_)))⟩), 0, rfl, Nat.zero_le _, rfl, rfl⟩ ?_
      rintro q t L ⟨i, rfl, hi', rfl, rfl⟩
      rcases Nat.lt_or_ge i ls.length with hil | hil
      · obtain ⟨a1, kd1, s1, s2, s3⟩ := t3 (i + 1) (Nat.zero_le _) (by omega)
        obtain ⟨a0, kd0, u1, u2, u3⟩ := t3 i (Nat.zero_le _) (by omega)
        obtain ⟨x1, x2, x3, x4⟩ := hit i hil
        obtain ⟨N1, hN1⟩ := hMN
        have lR1 := fR_len (N := N) (ls := ls) (ws := ws) (i + 1)
        have lR0 := fR_len (N := N) (ls := ls) (ws := ws) i
        have hb1 := hRB (i + 1)
        have hb0 := hRB i
        have hrm := rm_le (N := N) (ls := ls) (ws := ws) i
        have hset := csP_set (N := N) (ls := ls) (ws := ws) (i := i)
        have hskip := csP_skip (N := N) (ls := ls) (ws := ws) (i := i)
        have hrs := rm_succ (N := N) (ls := ls) (ws := ws) i
        have hgc : gcK N ls ws i = gcU (fQ N ls ws i (rm N ls ws i)) (rm N ls ws i / (ls.getD i 0).toNat + 1) := rfl
        have hfq : ∀ c, fQ N ls ws i (rm N ls ws i) c = decide ((c : Int) * ws.getD i 0 + (fR N ls ws (i + 1)).getD (rm N ls ws i - c * (ls.getD i 0).toNat) 0 = (fR N ls ws i).getD (rm N ls ws i) 0) := fun c => rfl
        have r5 := h3 i hil
        have r6 := k3 i (by omega)
        have lcs := csP_len (N := N) (ls := ls) (ws := ws) i
        have ex : ls.getD i 0 = ((ls.getD i 0).toNat : Int) := by omega
        rw [ex] at r5 x1 x2
        generalize hrm' : rm N ls ws (i + 1) = rm' at *
        generalize hcs' : csP N ls ws (i + 1) = cs' at *
        generalize gcK N ls ws i = g at *
        generalize fQ N ls ws i (rm N ls ws i) = Q at *
        generalize rm N ls ws i = r at *
        generalize (ls.getD i 0).toNat = X at *
        generalize ws.getD i 0 = w at *
        generalize fR N ls ws (i + 1) = R1 at *
        generalize fR N ls ws i = R0 at *
        generalize csP N ls ws i = cs at *
        have z1 : ∀ T, Rd (M ++ T) (m.length + 0) (i + 1) (.slice (some ⟨a1, 0, none⟩) (N + 1) (N + 1)) := fun T => ⟨_, get_old _ t1, s1⟩
        have z2 : ∀ T, Rd (M ++ T) (m.length + 0) i (.slice (some ⟨a0, 0, none⟩) (N + 1) (N + 1)) := fun T => ⟨_, get_old _ t1, u1⟩
        have z5 : ∀ T, Rd (M ++ T) a (o + i) (.int .i64 (X : Nat)) := fun T => by rw [hN1]; exact (r5.old _).old _
        have z6 : ∀ T, Rd (M ++ T) b (p + i) (.int .i64 w) := fun T => by rw [hN1]; exact (r6.old _).old _
        have z4 : ∀ T, Rd (M ++ T) a0 r (.int .i64 (R0.getD r 0)) := fun T => ⟨_, get_old _ u3, iv_get (by omega)⟩
        have hdiv : ((r / X + 1 : Nat) : Int) - 1 = (r : Int) / (X : Int) := by push_cast; omega
        have e4 : (i : Int) + 1 = ((i + 1 : Nat) : Int) := rfl
        have b0 := hb0 r
        generalize R0.getD r 0 = y0 at *
        clear hit hRB hb0 t3
        (repeat (first | (with_reducible refine AWo.cons ?_) | ((with_reducible refine Step.id ?_); first | ((with_reducible apply Step.move); exact rfl; exact rfl) | ((with_reducible apply Step.assign); exact rfl; exact rfl) | ((with_reducible apply Step.load); exact rfl; (focus (decide +kernel)); exact rfl; (focus (exact z5 _))) | ((with_reducible apply Step.ix1); exact rfl; (focus (assumption)); exact rfl; (focus (decide +kernel)); exact rfl; (focus (omega))) | ((with_reducible apply Step.lss); exact rfl; exact rfl; exact rfl) | ((with_reducible apply Step.quo); exact rfl; exact rfl; (focus (omega)); (focus (omega)); exact rfl)) | (with_reducible refine AWo.nil ?_) | ((with_reducible apply AW.seq)) | ((with_reducible apply Then.n)) | ((with_reducible apply AW.regL)) | ((with_reducible apply AW.block)) | ((with_reducible apply AW.skip)) | ((with_reducible apply AW.condT); exact rfl; (focus ((simp only [decide_eq_true_eq, decide_eq_false_iff_not, Bool.not_eq_true', Bool.not_eq_false', Bool.not_true, Bool.not_false]; first | assumption | omega))))))
        refine AW.loopT (fun q t L => ∃ c : Nat, q = c ∧ c ≤ r / X + 1 ∧ g = gcU Q c ∧ L = [some { cells := iv cs }] ∧ t = [(0, .int .i64 (N : Nat)), (1, v), (2, u), (11, .slice (some ⟨m.length + 0, 0, none⟩) (ls.length + 1) (ls.length + 1)), (14, .slice (some ⟨M.length + 0, 0, none⟩) ls.length ls.length), (15, .int .i64 (r : Nat)), (136, v), (137, .int .i64 (ls.length : Nat)), (138, .int .i64 (i : Nat)), (16, .int .i64 (i : Nat)), (17, .int .i64 (X : Nat)), (18, .int .i64 ((c : Int) - 1))])
          ⟨_, [(0, .int .i64 (N : Nat)), (1, v), (2, u), (11, .slice (some ⟨m.length + 0, 0, none⟩) (ls.length + 1) (ls.length + 1)), (14, .slice (some ⟨M.length + 0, 0, none⟩) ls.length ls.length), (15, .int .i64 (r : Nat)), (136, v), (137, .int .i64 (ls.length : Nat)), (138, .int .i64 (i : Nat)), (16, .int .i64 (i : Nat)), (17, .int .i64 (X : Nat)), (18, .int .i64 ((r : Int) / (X : Int)))], _, (Or.inl ⟨rfl, (by repeat (first | exact trivial | (refine And.intro rfl ?_)))⟩), r / X + 1, rfl, Nat.le_refl _, hgc, rfl, by rw [hdiv]⟩ ?_
        rintro c t L ⟨_, rfl, hc, hg, rfl, rfl⟩
        cases c with
        | zero =>
          have hg0 : g = 0 := hg
          (repeat (first | (with_reducible refine AWo.cons ?_) | ((with_reducible refine Step.id ?_); first | ((with_reducible apply Step.move); exact rfl; exact rfl) | ((with_reducible apply Step.addE); exact rfl; exact rfl; (focus (assumption)); (focus (omega)); exact rfl) | ((with_reducible apply Step.geq); exact rfl; exact rfl; exact rfl)) | (with_reducible refine AWo.nil ?_) | ((with_reducible apply AW.seq)) | ((with_reducible apply Then.n)) | ((with_reducible apply AW.regL)) | ((with_reducible apply AW.exit)) | ((with_reducible apply InBlk.n)) | ((with_reducible apply InBlk.hit)) | ((with_reducible apply Then.e)) | ((with_reducible apply AW.condF); exact rfl; (focus (rfl)))))
          exact ⟨_, [(0, .int .i64 (N : Nat)), (1, v), (2, u), (11, .slice (some ⟨m.length + 0, 0, none⟩) (ls.length + 1) (ls.length + 1)), (14, .slice (some ⟨M.length + 0, 0, none⟩) ls.length ls.length), (15, .int .i64 (r : Nat)), (136, v), (137, .int .i64 (ls.length : Nat)), (138, .int .i64 (i + 1 : Nat))], _, by omega, (Or.inl ⟨rfl, (by repeat (first | exact trivial | (refine And.intro rfl ?_)))⟩), i + 1, rfl, by omega, by rw [hcs', hskip hg0], by rw [hrm', hrs, hg0, Nat.zero_mul, Nat.sub_zero]⟩
        | succ c =>
          have e3 : ((c + 1 : Nat) : Int) - 1 = ((c : Nat) : Int) := by omega
          rw [e3]
          have hcx : c * X ≤ r := Nat.le_trans (Nat.mul_le_mul_right X (show c ≤ r / X by omega)) (Nat.div_mul_le_self _ _)
          have hc2 : c ≤ 2000 := Nat.le_trans (Nat.le_trans (Nat.le_mul_of_pos_right c (by omega)) hcx) (by omega)
          have hcw0 : 0 ≤ (c : Int) * w := Int.mul_nonneg (by omega) (by omega)
          have hcw1 : (c : Int) * w ≤ 2000 * 1000000 := Int.mul_le_mul (by omega) (by omega) (by omega) (by omega)
          have e5 : (c : Int) * (X : Int) = ((c * X : Nat) : Int) := (Int.natCast_mul c X).symm
          have e6 : (r : Int) - ((c * X : Nat) : Int) = ((r - c * X : Nat) : Int) := by omega
          have b1 := hb1 (r - c * X)
          have hq := hfq c
          have z3 : ∀ T, Rd (M ++ T) a1 (r - c * X) (.int .i64 (R1.getD (r - c * X) 0)) := fun T => ⟨_, get_old _ s3, iv_get (by omega)⟩
          generalize R1.getD (r - c * X) 0 = y1 at *
          generalize hcX : c * X = cX at *
          by_cases heq : (c : Int) * w + y1 = y0
          · rw [decide_eq_true heq] at hq
            have hgc' : g = c := by rw [hg, gcU, hq]; rfl
            (repeat (first | (with_reducible refine AWo.cons ?_) | ((with_reducible refine Step.id ?_); first | ((with_reducible apply Step.move); exact rfl; exact rfl) | ((with_reducible apply Step.assign); exact rfl; exact rfl) | ((with_reducible apply Step.load); exact rfl; (focus (decide +kernel)); exact rfl; (focus (first | exact z1 _ | exact z2 _ | exact z3 _ | exact z4 _ | exact z6 _))) | ((with_reducible apply Step.ix1z); exact rfl; (focus (exact Sl.mk (by omega))); exact rfl; (focus (decide +kernel)); exact rfl; (focus (omega))) | ((with_reducible apply Step.ix1); exact rfl; (focus (assumption)); exact rfl; (focus (decide +kernel)); exact rfl; (focus (omega))) | ((with_reducible apply Step.addE); exact rfl; exact rfl; (focus (assumption)); (focus (omega)); exact rfl) | ((with_reducible apply Step.subE); exact rfl; exact rfl; (focus (assumption)); (focus (omega)); exact rfl) | ((with_reducible apply Step.mulE); exact rfl; exact rfl; (focus (assumption)); (focus (omega)); exact rfl) | ((with_reducible apply Step.add); exact rfl; exact rfl; (focus (omega)); exact rfl) | ((with_reducible apply Step.mul); exact rfl; exact rfl; (focus (omega)); exact rfl) | ((with_reducible apply Step.geq); exact rfl; exact rfl; exact rfl) | ((with_reducible apply Step.eql); exact rfl; exact rfl; exact rfl) | ((with_reducible apply Step.store (k := 0)); exact rfl; exact rfl; exact rfl; exact rfl; (focus (decide +kernel)); exact rfl; exact rfl; (focus (first | omega | (simp [iv, bv]; done) | (simp [iv, bv]; omega))); (focus (first | (simp only [List.nil_append, List.cons_append, List.set_cons_zero, List.set_cons_succ, iv_set, bv_set, iv_rep, bv_rep]; done) | (simp only [List.nil_append, List.cons_append, List.set_cons_zero, List.set_cons_succ, iv_set, bv_set, iv_rep, bv_rep]; rfl) | rfl)))) | (with_reducible refine AWo.nil ?_) | ((with_reducible apply AW.seq)) | ((with_reducible apply Then.n)) | ((with_reducible apply AW.regL)) | ((with_reducible apply AW.block)) | ((with_reducible apply AW.drawL fit); (focus (decide +kernel))) | ((with_reducible apply AW.exit)) | ((with_reducible apply InBlk.n)) | ((with_reducible apply InBlk.hit)) | ((with_reducible apply InBlk.miss); exact rfl) | ((with_reducible apply Then.e)) | ((with_reducible apply AW.skip)) | ((with_reducible apply AW.condT); exact rfl; (focus (first | rfl | (simp only [decide_eq_true_eq, decide_eq_false_iff_not, Bool.not_eq_true', Bool.not_eq_false', Bool.not_true, Bool.not_false]; first | assumption | omega))))))
            exact ⟨_, [(0, .int .i64 (N : Nat)), (1, v), (2, u), (11, .slice (some ⟨m.length + 0, 0, none⟩) (ls.length + 1) (ls.length + 1)), (14, .slice (some ⟨M.length + 0, 0, none⟩) ls.length ls.length), (15, .int .i64 (r - cX : Nat)), (136, v), (137, .int .i64 (ls.length : Nat)), (138, .int .i64 (i + 1 : Nat))], [some { cells := iv (cs.set i (c : Nat)) }], by omega, (Or.inl ⟨rfl, (by repeat (first | exact trivial | (refine And.intro rfl ?_)))⟩), i + 1, rfl, by omega, by rw [hcs', ← hset, hgc'], by rw [hrm', hrs, hgc', hcX]⟩
          · rw [decide_eq_false heq] at hq
            (repeat (first | (with_reducible refine AWo.cons ?_) | ((with_reducible refine Step.id ?_); first | ((with_reducible apply Step.move); exact rfl; exact rfl) | ((with_reducible apply Step.assign); exact rfl; exact rfl) | ((with_reducible apply Step.load); exact rfl; (focus (decide +kernel)); exact rfl; (focus (first | exact z1 _ | exact z2 _ | exact z3 _ | exact z4 _ | exact z6 _))) | ((with_reducible apply Step.ix1z); exact rfl; (focus (exact Sl.mk (by omega))); exact rfl; (focus (decide +kernel)); exact rfl; (focus (omega))) | ((with_reducible apply Step.ix1); exact rfl; (focus (assumption)); exact rfl; (focus (decide +kernel)); exact rfl; (focus (omega))) | ((with_reducible apply Step.addE); exact rfl; exact rfl; (focus (assumption)); (focus (omega)); exact rfl) | ((with_reducible apply Step.subE); exact rfl; exact rfl; (focus (assumption)); (focus (omega)); exact rfl) | ((with_reducible apply Step.mulE); exact rfl; exact rfl; (focus (assumption)); (focus (omega)); exact rfl) | ((with_reducible apply Step.add); exact rfl; exact rfl; (focus (omega)); exact rfl) | ((with_reducible apply Step.sub); exact rfl; exact rfl; (focus (omega)); exact rfl) | ((with_reducible apply Step.mul); exact rfl; exact rfl; (focus (omega)); exact rfl) | ((with_reducible apply Step.geq); exact rfl; exact rfl; exact rfl) | ((with_reducible apply Step.eql); exact rfl; exact rfl; exact rfl)) | (with_reducible refine AWo.nil ?_) | ((with_reducible apply AW.seq)) | ((with_reducible apply Then.n)) | ((with_reducible apply AW.regL)) | ((with_reducible apply AW.block)) | ((with_reducible apply AW.drawL fit); (focus (decide +kernel))) | ((with_reducible apply InBlk.n)) | ((with_reducible apply AW.skip)) | ((with_reducible apply AW.condT); exact rfl; (focus (rfl))) | ((with_reducible apply AW.condF); exact rfl; (focus ((simp only [decide_eq_true_eq, decide_eq_false_iff_not, Bool.not_eq_true', Bool.not_eq_false', Bool.not_true, Bool.not_false]; first | assumption | omega))))))
            exact ⟨_, [(0, .int .i64 (N : Nat)), (1, v), (2, u), (11, .slice (some ⟨m.length + 0, 0, none⟩) (ls.length + 1) (ls.length + 1)), (14, .slice (some ⟨M.length + 0, 0, none⟩) ls.length ls.length), (15, .int .i64 (r : Nat)), (136, v), (137, .int .i64 (ls.length : Nat)), (138, .int .i64 (i : Nat)), (16, .int .i64 (i : Nat)), (17, .int .i64 (X : Nat)), (18, .int .i64 ((c : Int) - 1))], _, by omega, (Or.inl ⟨rfl, (by repeat (first | exact trivial | (refine And.intro rfl ?_)))⟩), c, rfl, by omega, by rw [hg, gcU, hq]; rfl, rfl, rfl⟩
      · obtain rfl : i = ls.length := by omega
        obtain ⟨a0, kd0, s1, s2, s3⟩ := t3 0 (Nat.zero_le _) (Nat.zero_le _)
        have lR0 := fR_len (N := N) (ls := ls) (ws := ws) 0
        have z1 : ∀ T, Rd (M ++ T) (m.length + 0) 0 (.slice (some ⟨a0, 0, none⟩) (N + 1) (N + 1)) := fun T => ⟨_, get_old _ t1, s1⟩
        have z2 : ∀ T, Rd (M ++ T) a0 N (.int .i64 ((fR N ls ws 0).getD N 0)) := fun T => ⟨_, get_old _ s3, iv_get (by omega)⟩
        (repeat (first | (with_reducible refine AWo.cons ?_) | ((with_reducible refine Step.id ?_); first | ((with_reducible apply Step.move); exact rfl; exact rfl) | ((with_reducible apply Step.assign); exact rfl; exact rfl) | ((with_reducible apply Step.load); exact rfl; (focus (decide +kernel)); exact rfl; (focus (first | exact z1 _ | exact z2 _))) | ((with_reducible apply Step.ix1z); exact rfl; (focus (exact Sl.mk (by omega))); exact rfl; (focus (decide +kernel)); exact rfl; (focus (omega))) | ((with_reducible apply Step.ix1 (k := 0)); exact rfl; (focus (exact Sl.mk (by omega))); exact rfl; (focus (decide +kernel)); exact rfl; (focus (omega))) | ((with_reducible apply Step.lss); exact rfl; exact rfl; exact rfl)) | (with_reducible refine AWo.nil ?_) | ((with_reducible apply AW.seq)) | ((with_reducible apply Then.n)) | ((with_reducible apply AW.regL)) | ((with_reducible apply AW.exit)) | ((with_reducible apply InBlk.hit)) | ((with_reducible apply Then.e)) | ((with_reducible apply AW.condF); exact rfl; (focus ((simp only [decide_eq_true_eq, decide_eq_false_iff_not, Bool.not_eq_true', Bool.not_eq_false', Bool.not_true, Bool.not_false]; first | assumption | omega))))))
        (refine AW.ret ?_; (repeat (first | refine Then.r ?_ | refine InBlk.r ?_)))
        obtain ⟨N1, hN1⟩ := hMN
        exact ⟨_, rfl, N1 ++ [some { cells := iv (csP N ls ws ls.length) }], by rw [hN1, List.append_assoc], M.length, by omega, rfl, by rw [show M.length = M.length + 0 from rfl, get_app]; rfl⟩
    | succ i =>
      have e3 : ((i + 1 : Nat) : Int) - 1 = ((i : Nat) : Int) := by omega
      have e4 : (i : Int) + 1 = ((i + 1 : Nat) : Int) := rfl
      rw [e3]
      refine AW.rebase ?_
      obtain ⟨a', kd, s1, s2, s3⟩ := t3 (i + 1) (Nat.le_refl _) hi
      obtain ⟨x1, x2, x3, x4⟩ := hit i (by omega)
      have lR := fR_len (N := N) (ls := ls) (ws := ws) (i + 1)
      have hRB' := hRB (i + 1)
      have hfr := fR_succ (N := N) (ls := ls) (ws := ws) (i := i) (by omega)
      have r5 := h3 i (by omega)
      have r6 := k3 i (by omega)
      generalize fR N ls ws (i + 1) = R at *
      have ex : ls.getD i 0 = ((ls.getD i 0).toNat : Int) := by omega
      rw [ex] at r5 x1 x2
      generalize (ls.getD i 0).toNat = X at *
      generalize ws.getD i 0 = w at *
      have r0 : ∀ T, Rd (M ++ T) (m.length + 0) (i + 1) (.slice (some ⟨a', 0, none⟩) (N + 1) (N + 1)) := fun T => ⟨_, get_old _ t1, s1⟩
      have hI : ∀ T, Ints (M ++ T) (.slice (some ⟨a', 0, none⟩) (N + 1) (N + 1)) R := fun T => (ints_at s3 rfl (N + 1) lR.symm).old T
      have hcl := fun T => clone_pos (hI T) (by omega) (by omega)
      rw [lR] at hcl
      have hb : ∀ T, (M ++ T)[m.length + 0]? = some (some { cells := tcl }) := fun T => get_old _ t1
      obtain ⟨M1, hM1⟩ : ∃ M1 : AM, M1 = (M ++ ([some { cells := iv R, kind := .grow, size := 1 }] : AM)).set (m.length + 0) (some { cells := tcl.set i (.slice (some ⟨M.length + 0, 0, none⟩) (N + 1) (N + 1)) }) := ⟨_, rfl⟩
      have hM1N : ∃ Nn, M1 = m ++ Nn := by
        obtain ⟨N1, rfl⟩ := hMN
        rw [hM1, List.append_assoc]
        exact set_high (by omega) _
      have hM1l : M1.length = M.length + 1 := by rw [hM1]; simp
      have w1 : M1[m.length]? = some (some { cells := tcl.set i (.slice (some ⟨M.length + 0, 0, none⟩) (N + 1) (N + 1)) }) := by rw [hM1, show m.length + 0 = m.length from rfl]; exact List.getElem?_set_self (by simp; omega)
      have w2 : M1[M.length]? = some (some { cells := iv R, kind := .grow, size := 1 }) := by rw [hM1, List.getElem?_set_ne (by omega)]; simp
      have w3 : ∀ (c : Nat) (bb : Option Blk), m.length < c → M[c]? = some bb → M1[c]? = some bb := fun c bb q1 q2 => by rw [hM1, List.getElem?_set_ne (by omega)]; exact get_old _ q2
      (repeat (first | (with_reducible refine AWo.cons ?_) | ((with_reducible refine Step.id ?_); first | ((with_reducible apply Step.move); exact rfl; exact rfl) | ((with_reducible apply Step.load); exact rfl; (focus (decide +kernel)); exact rfl; (focus (exact r0 _))) | ((with_reducible apply Step.ix1z); exact rfl; (focus (exact Sl.mk (by omega))); exact rfl; (focus (decide +kernel)); exact rfl; (focus (omega))) | ((with_reducible apply Step.addE); exact rfl; exact rfl; (focus (assumption)); (focus (omega)); exact rfl) | ((with_reducible apply Step.geq); exact rfl; exact rfl; exact rfl) | ((with_reducible apply Step.callN fit (k := 0)); exact rfl; exact rfl; exact Tryd.func86; exact rfl; exact rfl; exact (hcl _); (focus (first | (simp only [List.nil_append, List.cons_append, List.set_cons_zero, List.set_cons_succ, iv_set, bv_set, iv_rep, bv_rep]; done) | (simp only [List.nil_append, List.cons_append, List.set_cons_zero, List.set_cons_succ, iv_set, bv_set, iv_rep, bv_rep]; rfl) | rfl)))) | (with_reducible refine AWo.nil ?_) | ((with_reducible apply AW.seq)) | ((with_reducible apply Then.n)) | ((with_reducible apply AW.regL)) | ((with_reducible apply AW.block)) | ((with_reducible apply AW.skip)) | ((with_reducible apply AW.condT); exact rfl; (focus (rfl)))))
      ((with_reducible apply Step.storeWk (kd := .own)); exact rfl; exact rfl; exact (hb _); exact rfl; exact (show i < tcl.length by omega); (focus (decide +kernel)); exact rfl; exact rfl; exact hM1.symm)
      obtain ⟨N1, hN1⟩ := hM1N
      have r5' : Rd M1 a (o + i) (.int .i64 (X : Nat)) := by rw [hN1]; exact r5.old _
      (repeat (first | (with_reducible refine AWo.cons ?_) | ((with_reducible refine Step.id ?_); first | ((with_reducible apply Step.move); exact rfl; exact rfl) | ((with_reducible apply Step.assign); exact rfl; exact rfl) | ((with_reducible apply Step.load); exact rfl; (focus (decide +kernel)); exact rfl; (focus (assumption))) | ((with_reducible apply Step.ix1); exact rfl; (focus (assumption)); exact rfl; (focus (decide +kernel)); exact rfl; (focus (omega)))) | (with_reducible refine AWo.nil ?_) | ((with_reducible apply AW.seq)) | ((with_reducible apply Then.n)) | ((with_reducible apply AW.regL)) | ((with_reducible apply AW.block))))
      refine AW.loopW (fun rk t M' => ∃ j : Nat, rk = (N + 1 - X) - j ∧ j ≤ N + 1 - X ∧ M' = M1.set (M.length) (some { cells := iv (rU R X w j), kind := .grow, size := 1 }) ∧
        t = fr [(0, .int .i64 (N : Nat)), (1, v), (2, u), (11, .slice (some ⟨m.length + 0, 0, none⟩) (ls.length + 1) (ls.length + 1)), (12, .int .i64 (i : Nat)), (13, .int .i64 (X + j : Nat))]) ⟨_, _, (by repeat (first | exact trivial | (refine And.intro rfl ?_))), 0, rfl, Nat.zero_le _, (set_same w2).symm, rfl⟩ ?_
      rintro rk t M' ⟨j, rfl, hj, hM', rfl⟩
      have v1 : M'[m.length]? = some (some { cells := tcl.set i (.slice (some ⟨M.length + 0, 0, none⟩) (N + 1) (N + 1)) }) := by rw [hM', List.getElem?_set_ne (by omega)]; exact w1
      have v2 : M'[M.length]? = some (some { cells := iv (rU R X w j), kind := .grow, size := 1 }) := by rw [hM']; exact List.getElem?_set_self (by omega)
      have hM'N : ∃ Nn, M' = m ++ Nn := by rw [hM', hN1]; exact set_high (by omega) _
      have hM'l : M'.length = M1.length := by rw [hM', List.length_set]
      have lU := rU_len R X w j
      rcases Nat.lt_or_ge j (N + 1 - X) with hjl | hjl
      · obtain ⟨N2, hN2⟩ := hM'N
        have y1 : Rd M' (m.length + 0) i (.slice (some ⟨M.length + 0, 0, none⟩) (N + 1) (N + 1)) := ⟨_, v1, List.getElem?_set_self (by omega)⟩
        have y3 : Rd M' (M.length + 0) (X + j) (.int .i64 ((rU R X w j).getD (X + j) 0)) := ⟨_, v2, iv_get (by omega)⟩
        have y4 : Rd M' (M.length + 0) j (.int .i64 ((rU R X w j).getD j 0)) := ⟨_, v2, iv_get (by omega)⟩
        have y5 : Rd M' a (o + i) (.int .i64 (X : Nat)) := by rw [hN2]; exact r5.old _
        have y6 : Rd M' b (p + i) (.int .i64 w) := by rw [hN2]; exact r6.old _
        have hbd := rU_bd (x := X) (w := w) hRB' (by omega) (by omega) j (by omega)
        have q1 := hbd (X + j)
        have q2 := hbd j
        have e5 : ((X + j : Nat) : Int) - (X : Int) = ((j : Nat) : Int) := by omega
        have e6 : ((X + j : Nat) : Int) + 1 = ((X + (j + 1) : Nat) : Int) := by omega
        have hM2 : M'.set (M.length + 0) (some { cells := (iv (rU R X w j)).set (X + j) (.int .i64 (Max.max ((rU R X w j).getD (X + j) 0) ((rU R X w j).getD j 0 + w))), kind := .grow, size := 1 }) = M1.set (M.length) (some { cells := iv (rU R X w (j + 1)), kind := .grow, size := 1 }) := by
          rw [hM']
          try simp only [Nat.add_zero]
          rw [List.set_set, iv_set]
          rfl
        have hiv : X + j < (iv (rU R X w j)).length := by rw [show (iv (rU R X w j)).length = (rU R X w j).length by simp [iv]]; omega
        generalize (rU R X w j).getD (X + j) 0 = z1 at *
        generalize (rU R X w j).getD j 0 = z2 at *
        clear hit hRB hRB' t3 hbd w3
        (repeat (first | (with_reducible refine AWo.cons ?_) | ((with_reducible refine Step.id ?_); first | ((with_reducible apply Step.move); exact rfl; exact rfl) | ((with_reducible apply Step.load); exact rfl; (focus (decide +kernel)); exact rfl; (focus (assumption))) | ((with_reducible apply Step.ix1z); exact rfl; (focus (exact Sl.mk (by omega))); exact rfl; (focus (decide +kernel)); exact rfl; (focus (omega))) | ((with_reducible apply Step.ix1); exact rfl; (focus (assumption)); exact rfl; (focus (decide +kernel)); exact rfl; (focus (omega))) | ((with_reducible apply Step.subE); exact rfl; exact rfl; (focus (assumption)); (focus (omega)); exact rfl) | ((with_reducible apply Step.add); exact rfl; exact rfl; (focus (omega)); exact rfl) | ((with_reducible apply Step.leq); exact rfl; exact rfl; exact rfl) | ((with_reducible apply Step.max); exact rfl; exact rfl; exact rfl)) | (with_reducible refine AWo.nil ?_) | ((with_reducible apply AW.seq)) | ((with_reducible apply Then.n)) | ((with_reducible apply AW.regL)) | ((with_reducible apply AW.block)) | ((with_reducible apply AW.drawL fit); (focus (decide +kernel))) | ((with_reducible apply AW.skip)) | ((with_reducible apply AW.condT); exact rfl; (focus ((simp only [decide_eq_true_eq, decide_eq_false_iff_not, Bool.not_eq_true', Bool.not_eq_false', Bool.not_true, Bool.not_false]; first | assumption | omega))))))
        ((with_reducible apply Step.storeWk (kd := .grow)); exact rfl; exact rfl; exact v2; exact rfl; exact hiv; (focus (decide +kernel)); exact rfl; exact rfl; exact hM2)
        (repeat (first | (with_reducible refine AWo.cons ?_) | ((with_reducible refine Step.id ?_); first | ((with_reducible apply Step.move); exact rfl; exact rfl) | ((with_reducible apply Step.assign); exact rfl; exact rfl) | ((with_reducible apply Step.addE); exact rfl; exact rfl; (focus (assumption)); (focus (omega)); exact rfl)) | (with_reducible refine AWo.nil ?_) | ((with_reducible apply Then.n)) | ((with_reducible apply AW.regL)) | ((with_reducible apply InBlk.n))))
        exact ⟨_, _, by omega, (by repeat (first | exact trivial | (refine And.intro rfl ?_))), j + 1, rfl, by omega, rfl, rfl⟩
      · obtain rfl : j = N + 1 - X := by omega
        have hFT' : FT M' m.length ls.length N ls ws i := ⟨tcl.set i (.slice (some ⟨M.length + 0, 0, none⟩) (N + 1) (N + 1)), v1, by rw [List.length_set]; exact t2, fun r hr1 hr2 => by
          rcases Nat.lt_or_eq_of_le hr1 with h | rfl
          · obtain ⟨a2, kd2, q1, q2, q3⟩ := t3 r (by omega) hr2
            have q4 := (List.getElem?_eq_some_iff.1 q3).1
            exact ⟨a2, kd2, by rw [List.getElem?_set_ne (by omega)]; exact q1, q2, by rw [hM', List.getElem?_set_ne (by omega)]; exact w3 _ _ q2 q3⟩
          · exact ⟨M.length, .grow, List.getElem?_set_self (by omega), by omega, by rw [hfr]; exact v2⟩⟩
        clear hit hRB hRB' t3 w3
        (repeat (first | (with_reducible refine AWo.cons ?_) | ((with_reducible refine Step.id ?_); first | ((with_reducible apply Step.move); exact rfl; exact rfl) | ((with_reducible apply Step.assign); exact rfl; exact rfl) | ((with_reducible apply Step.sub); exact rfl; exact rfl; (focus (omega)); exact rfl) | ((with_reducible apply Step.leq); exact rfl; exact rfl; exact rfl)) | (with_reducible refine AWo.nil ?_) | ((with_reducible apply AW.seq)) | ((with_reducible apply Then.n)) | ((with_reducible apply AW.regL)) | ((with_reducible apply AW.exit)) | ((with_reducible apply InBlk.n)) | ((with_reducible apply InBlk.hit)) | ((with_reducible apply Then.e)) | ((with_reducible apply AW.condF); exact rfl; (focus ((simp only [decide_eq_true_eq, decide_eq_false_iff_not, Bool.not_eq_true', Bool.not_eq_false', Bool.not_true, Bool.not_false]; first | assumption | omega))))))
        exact ⟨_, [(0, .int .i64 (N : Nat)), (1, v), (2, u), (11, .slice (some ⟨m.length + 0, 0, none⟩) (ls.length + 1) (ls.length + 1)), (12, .int .i64 ((i : Int) - 1))], by omega, (by repeat (first | exact trivial | (refine And.intro rfl ?_))), i, rfl, by omega, hM'N, by omega, hFT', rfl⟩
end Go.Proofs.YtibhgdglbillaaaDoor.Abs
namespace Go.Proofs.YtibhgdglbillaaaDoor.Abs
set_option linter.unusedSimpArgs false
set_option linter.unusedVariables false
open Go.RowKit
open Go.Proofs.YtibhgdglbillaaaDoor.Sim
open Go.Proofs
set_option maxHeartbeats 16000000 in
set_option maxRecDepth 100000 in
theorem RFill_ok {m : AM} {v u : Value} {ls ws : List Int} {N : Nat} (hl : Ints m v ls) (hw : Ints m u ws) (hok : fillB (N : Nat) ls ws = true) :
    ACall Tryd.prog 39 #[.int .i64 (N : Nat), v, u] m (More (fun m' w => ∃ q, m.length ≤ q ∧ w = .tuple #[.int .i64 ((fR N ls ws 0).getD N 0), .slice (some ⟨q, 0, none⟩) ls.length ls.length, .int .i64 0] ∧ m'[q]? = some (some { cells := iv (csP N ls ws ls.length) })) m) := by
  have hF := FiOk.of hok
  have hN2 := hF.n2
  have hln := hF.len
  have hl12 := hF.l12
  have hit := hF.it
  have hRB := fun i => fR_bd (N := N) (ls := ls) (ws := ws) (fun i hi => (hit i hi).1) (fun i hi => (hit i hi).2.2) i
  obtain ⟨a, o, h1, h2, h3⟩ := id hl
  obtain ⟨b, p, k1, k2, k3⟩ := id hw
  refine ACall.start Tryd.func39 rfl rfl ?_
  (repeat (first | (with_reducible refine AWo.cons ?_) | ((with_reducible refine Step.id ?_); first | ((with_reducible apply Step.gdT); exact rfl; exact rfl; (focus (first | rfl | (simp only [decide_eq_true_eq, decide_eq_false_iff_not, Bool.not_eq_true', Bool.not_eq_false', Bool.not_true, Bool.not_false]; first | assumption | omega)))) | ((with_reducible apply Step.move); exact rfl; exact rfl) | ((with_reducible apply Step.assign); exact rfl; exact rfl) | ((with_reducible apply Step.lss); exact rfl; exact rfl; exact rfl) | ((with_reducible apply Step.gtr); exact rfl; exact rfl; exact rfl) | ((with_reducible apply Step.neq); exact rfl; exact rfl; exact rfl) | ((with_reducible apply Step.len); exact rfl; (focus (assumption)); (focus (decide +kernel)); exact rfl) | ((with_reducible apply Step.pickF); exact rfl; exact rfl; exact rfl; exact rfl; (focus (first | rfl | (simp only [decide_eq_true_eq, decide_eq_false_iff_not, Bool.not_eq_true', Bool.not_eq_false', Bool.not_true, Bool.not_false]; first | assumption | omega))))) | (with_reducible refine AWo.nil ?_) | ((with_reducible apply AW.seq)) | ((with_reducible apply Then.n)) | ((with_reducible apply AW.regL)) | ((with_reducible apply AW.block)) | ((with_reducible apply AW.skip)) | ((with_reducible apply AW.condF); exact rfl; (focus ((simp only [decide_eq_true_eq, decide_eq_false_iff_not, Bool.not_eq_true', Bool.not_eq_false', Bool.not_true, Bool.not_false]; first | assumption | omega))))))
  refine AW.loopT (fun q t L => ∃ k : Nat, q = ls.length - k ∧ k ≤ ls.length ∧ L = [] ∧ t = [(0, .int .i64 (N : Nat)), (1, v), (2, u), (37, .int .i64 (ls.length : Nat)), (38, .int .i64 (k : Nat))]) ⟨_, _, _, (Or.inl ⟨rfl, (by repeat (first | exact trivial | (refine And.intro rfl ?_)))⟩), 0, rfl, Nat.zero_le _, rfl, rfl⟩ ?_
  rintro q t L ⟨k, rfl, hk, rfl, rfl⟩
  rcases Nat.lt_or_ge k ls.length with hlt | hge
  · have r1 := h3 k hlt
    have r2 := k3 k (by omega)
    obtain ⟨x1, x2, x3, x4⟩ := hit k hlt
    generalize ls.getD k 0 = x at *
    generalize ws.getD k 0 = y at *
    (repeat (first | (with_reducible refine AWo.cons ?_) | ((with_reducible refine Step.id ?_); first | ((with_reducible apply Step.gdT); exact rfl; exact rfl; (focus ((simp only [decide_eq_true_eq, decide_eq_false_iff_not, Bool.not_eq_true', Bool.not_eq_false', Bool.not_true, Bool.not_false]; first | assumption | omega)))) | ((with_reducible apply Step.move); exact rfl; exact rfl) | ((with_reducible apply Step.assign); exact rfl; exact rfl) | ((with_reducible apply Step.load); exact rfl; (focus (decide +kernel)); exact rfl; (focus (exact Rd.old _ (by assumption)))) | ((with_reducible apply Step.ix1); exact rfl; (focus (assumption)); exact rfl; (focus (decide +kernel)); exact rfl; (focus (omega))) | ((with_reducible apply Step.add); exact rfl; exact rfl; (focus (omega)); exact rfl) | ((with_reducible apply Step.lss); exact rfl; exact rfl; exact rfl) | ((with_reducible apply Step.gtr); exact rfl; exact rfl; exact rfl) | ((with_reducible apply Step.pickF); exact rfl; exact rfl; exact rfl; exact rfl; (focus ((simp only [decide_eq_true_eq, decide_eq_false_iff_not, Bool.not_eq_true', Bool.not_eq_false', Bool.not_true, Bool.not_false]; first | assumption | omega))))) | (with_reducible refine AWo.nil ?_) | ((with_reducible apply AW.seq)) | ((with_reducible apply Then.n)) | ((with_reducible apply AW.regL)) | ((with_reducible apply AW.block)) | ((with_reducible apply InBlk.n)) | ((with_reducible apply AW.skip)) | ((with_reducible apply AW.condT); exact rfl; (focus ((simp only [decide_eq_true_eq, decide_eq_false_iff_not, Bool.not_eq_true', Bool.not_eq_false', Bool.not_true, Bool.not_false]; first | assumption | omega)))) | ((with_reducible apply AW.condF); exact rfl; (focus ((simp only [decide_eq_true_eq, decide_eq_false_iff_not, Bool.not_eq_true', Bool.not_eq_false', Bool.not_true, Bool.not_false]; first | assumption | omega))))))
    exact ⟨_, _, _, by omega, (Or.inl ⟨rfl, (by repeat (first | exact trivial | (refine And.intro rfl ?_)))⟩), k + 1, rfl, by omega, rfl, rfl⟩
  · obtain rfl : k = ls.length := by omega
    have e1 : (ls.length : Int) + 1 = ((ls.length + 1 : Nat) : Int) := rfl
    have e2 : (N : Int) + 1 = ((N + 1 : Nat) : Int) := rfl
    (repeat (first | (with_reducible refine AWo.cons ?_) | ((with_reducible refine Step.id ?_); first | ((with_reducible apply Step.move); exact rfl; exact rfl) | ((with_reducible apply Step.assign); exact rfl; exact rfl) | ((with_reducible apply Step.ix1z); exact rfl; (focus (exact Sl.mk (by omega))); exact rfl; (focus (decide +kernel)); exact rfl; (focus (omega))) | ((with_reducible apply Step.addE); exact rfl; exact rfl; (focus (assumption)); (focus (omega)); exact rfl) | ((with_reducible apply Step.sub); exact rfl; exact rfl; (focus (omega)); exact rfl) | ((with_reducible apply Step.lss); exact rfl; exact rfl; exact rfl) | ((with_reducible apply Step.len); exact rfl; (focus (assumption)); (focus (decide +kernel)); exact rfl) | ((with_reducible apply Step.make1 0); exact rfl; exact rfl; exact rfl; exact el122; (focus (omega)); exact rfl; (focus (first | (simp only [List.nil_append, List.cons_append, List.set_cons_zero, List.set_cons_succ, iv_set, bv_set, iv_rep, bv_rep]; done) | (simp only [List.nil_append, List.cons_append, List.set_cons_zero, List.set_cons_succ, iv_set, bv_set, iv_rep, bv_rep]; rfl) | rfl))) | ((with_reducible apply Step.store (k := 0)); exact rfl; exact rfl; exact rfl; exact rfl; (focus (decide +kernel)); exact rfl; exact rfl; (focus (first | omega | (simp [iv, bv]; done) | (simp [iv, bv]; omega))); (focus (first | (simp only [List.nil_append, List.cons_append, List.set_cons_zero, List.set_cons_succ, iv_set, bv_set, iv_rep, bv_rep]; done) | (simp only [List.nil_append, List.cons_append, List.set_cons_zero, List.set_cons_succ, iv_set, bv_set, iv_rep, bv_rep]; rfl) | rfl))) | ((with_reducible apply Step.make1 1); exact rfl; exact rfl; exact rfl; exact el47; (focus (omega)); exact rfl; (focus (first | (simp only [List.nil_append, List.cons_append, List.set_cons_zero, List.set_cons_succ, iv_set, bv_set, iv_rep, bv_rep]; done) | (simp only [List.nil_append, List.cons_append, List.set_cons_zero, List.set_cons_succ, iv_set, bv_set, iv_rep, bv_rep]; rfl) | rfl)))) | (with_reducible refine AWo.nil ?_) | ((with_reducible apply AW.seq)) | ((with_reducible apply Then.n)) | ((with_reducible apply AW.regL)) | ((with_reducible apply AW.block)) | ((with_reducible apply AW.exit)) | ((with_reducible apply InBlk.hit)) | ((with_reducible apply Then.e)) | ((with_reducible apply AW.condF); exact rfl; (focus ((simp only [decide_eq_true_eq, decide_eq_false_iff_not, Bool.not_eq_true', Bool.not_eq_false', Bool.not_true, Bool.not_false]; first | assumption | omega))))))
    refine AW.loopW (fun rk t M => ∃ i : Nat, rk = i ∧ i ≤ ls.length ∧ (∃ Nn, M = m ++ Nn) ∧ m.length < M.length ∧ FT M m.length ls.length N ls ws i ∧
      t = fr [(0, .int .i64 (N : Nat)), (1, v), (2, u), (10, .slice (some ⟨m.length + 0, 0, none⟩) (ls.length + 1) (ls.length + 1)), (11, .int .i64 ((i : Int) - 1))]) ⟨_, _, (by repeat (first | exact trivial | (refine And.intro rfl ?_))), ls.length, rfl, Nat.le_refl _, ⟨_, rfl⟩, by simp, ?_, rfl⟩ ?_
    · refine ⟨_, by rw [show m.length = m.length + 0 from rfl, get_app]; rfl, by simp, fun r hr1 hr2 => ?_⟩
      obtain rfl : r = ls.length := by omega
      exact ⟨m.length + 1, .own, by simp, by omega, by rw [fR_last, get_app]; rfl⟩
    rintro i t M ⟨_, rfl, hi, hMN, hML, hFT, rfl⟩
    obtain ⟨tcl, t1, t2, t3⟩ := hFT
    cases i with
    | zero =>
      (repeat (first | (with_reducible refine AWo.cons ?_) | ((with_reducible refine Step.id ?_); first | ((with_reducible apply Step.move); exact rfl; exact rfl) | ((with_reducible apply Step.geq); exact rfl; exact rfl; exact rfl)) | (with_reducible refine AWo.nil ?_) | ((fail_if_success (with_reducible refine AW.atR (id := 19) ?_)); ((with_reducible apply AW.seq))) | ((with_reducible apply Then.n)) | ((with_reducible apply AW.regL)) | ((with_reducible apply AW.exit)) | ((with_reducible apply InBlk.hit)) | ((with_reducible apply Then.e)) | ((with_reducible apply AW.condF); exact rfl; (focus (rfl)))))
      refine AW.rebase ?_
      (repeat (first | (with_reducible refine AWo.cons ?_) | ((with_reducible refine Step.id ?_); first | ((with_reducible apply Step.move); exact rfl; exact rfl) | ((with_reducible apply Step.assign); exact rfl; exact rfl) | ((with_reducible apply Step.len); exact rfl; (focus (assumption)); (focus (decide +kernel)); exact rfl) | ((with_reducible apply Step.make1 0); exact rfl; exact rfl; exact rfl; exact el47; (focus (omega)); exact rfl; (focus (first | (simp only [List.nil_append, List.cons_append, List.set_cons_zero, List.set_cons_succ, iv_set, bv_set, iv_rep, bv_rep]; done) | (simp only [List.nil_append, List.cons_append, List.set_cons_zero, List.set_cons_succ, iv_set, bv_set, iv_rep, bv_rep]; rfl) | rfl)))) | (with_reducible refine AWo.nil ?_) | ((with_reducible apply AW.seq)) | ((with_reducible apply Then.n)) | ((with_reducible apply AW.regL)) | ((with_reducible apply AW.block))))
      rw [csP_zero (N := N) (ws := ws)]
      refine AW.loopT (fun q t L => ∃ i : Nat, q = ls.length - i ∧ i ≤ ls.length ∧ L = [some { cells := iv (csP N ls ws i) }] ∧ t = [(0, .int .i64 (N : Nat)), (1, v), (2, u), (10, .slice (some ⟨m.length + 0, 0, none⟩) (ls.length + 1) (ls.length + 1)), (13, .slice (some ⟨M.length + 0, 0, none⟩) ls.length ls.length), (140, .int .i64 (ls.length : Nat)), (141, .int .i64 (i : Nat))]) ⟨_, _, _, (Or.inl ⟨rfl, (by repeat (first | exact trivial | (refine And.intro rfl ?_)))⟩), 0, rfl, Nat.zero_le _, rfl, rfl⟩ ?_
      rintro q t L ⟨i, rfl, hi', rfl, rfl⟩
      rcases Nat.lt_or_ge i ls.length with hil | hil
      · obtain ⟨a1, kd1, s1, s2, s3⟩ := t3 (i + 1) (Nat.zero_le _) (by omega)
        obtain ⟨a0, kd0, u1, u2, u3⟩ := t3 i (Nat.zero_le _) (by omega)
        obtain ⟨x1, x2, x3, x4⟩ := hit i hil
        obtain ⟨N1, hN1⟩ := hMN
        have lcs := csP_len (N := N) (ls := ls) (ws := ws) i
        (repeat (first | (with_reducible refine AWo.cons ?_) | ((with_reducible refine Step.id ?_); first | ((with_reducible apply Step.move); exact rfl; exact rfl) | ((with_reducible apply Step.assign); exact rfl; exact rfl) | ((with_reducible apply Step.lss); exact rfl; exact rfl; exact rfl)) | (with_reducible refine AWo.nil ?_) | ((with_reducible apply AW.seq)) | ((with_reducible apply Then.n)) | ((with_reducible apply AW.regL)) | ((with_reducible apply AW.block)) | ((with_reducible apply AW.skip)) | ((with_reducible apply AW.condT); exact rfl; (focus ((simp only [decide_eq_true_eq, decide_eq_false_iff_not, Bool.not_eq_true', Bool.not_eq_false', Bool.not_true, Bool.not_false]; first | assumption | omega))))))
        refine AW.loopT (fun q t L => ∃ j : Nat, q = i - j ∧ j ≤ i ∧ L = [some { cells := iv (csP N ls ws i) }] ∧ t = [(0, .int .i64 (N : Nat)), (1, v), (2, u), (10, .slice (some ⟨m.length + 0, 0, none⟩) (ls.length + 1) (ls.length + 1)), (13, .slice (some ⟨M.length + 0, 0, none⟩) ls.length ls.length), (140, .int .i64 (ls.length : Nat)), (141, .int .i64 (i : Nat)), (14, .int .i64 (i : Nat)), (15, .int .i64 (rm N ls ws j : Nat)), (145, .int .i64 (i : Nat)), (146, .int .i64 (j : Nat))]) ⟨_, _, _, (Or.inl ⟨rfl, (by repeat (first | exact trivial | (refine And.intro rfl ?_)))⟩), 0, rfl, Nat.zero_le _, rfl, rfl⟩ ?_
        rintro q t L ⟨j, rfl, hj, rfl, rfl⟩
        rcases Nat.lt_or_ge j i with hji | hji
        · have r5 := h3 j (by omega)
          obtain ⟨y1, y2, _, _⟩ := hit j (by omega)
          have ex : ls.getD j 0 = ((ls.getD j 0).toNat : Int) := by omega
          rw [ex] at r5 y1 y2
          have hgle := gcK_le (N := N) (ls := ls) (ws := ws) j
          have hrs := rm_succ (N := N) (ls := ls) (ws := ws) j
          have hrl := rm_le (N := N) (ls := ls) (ws := ws) j
          have hcg := csP_get (N := N) (ls := ls) (ws := ws) (i := i) (j := j) (by omega)
          rw [if_pos hji] at hcg
          have z5 : ∀ T, Rd (M ++ T) a (o + j) (.int .i64 ((ls.getD j 0).toNat : Nat)) := fun T => by rw [hN1]; exact (r5.old _).old _
          have z7 : Rd (M ++ [some { cells := iv (csP N ls ws i) }]) (M.length + 0) j (.int .i64 (gcK N ls ws j : Nat)) := by rw [← hcg]; exact Rd.new rfl (iv_get (by omega))
          generalize hrm' : rm N ls ws (j + 1) = rm' at *
          generalize gcK N ls ws j = g at *
          generalize rm N ls ws j = r at *
          generalize (ls.getD j 0).toNat = X at *
          generalize csP N ls ws i = cs at *
          have e5 : (g : Int) * (X : Int) = ((g * X : Nat) : Int) := (Int.natCast_mul g X).symm
          have e6 : (r : Int) - ((g * X : Nat) : Int) = ((r - g * X : Nat) : Int) := by omega
          clear hit hRB t3
          generalize g * X = gX at *
          (repeat (first | (with_reducible refine AWo.cons ?_) | ((with_reducible refine Step.id ?_); first | ((with_reducible apply Step.move); exact rfl; exact rfl) | ((with_reducible apply Step.assign); exact rfl; exact rfl) | ((with_reducible apply Step.load); exact rfl; (focus (decide +kernel)); exact rfl; (focus (first | assumption | exact z5 _))) | ((with_reducible apply Step.ix1z); exact rfl; (focus (exact Sl.mk (by omega))); exact rfl; (focus (decide +kernel)); exact rfl; (focus (omega))) | ((with_reducible apply Step.ix1); exact rfl; (focus (assumption)); exact rfl; (focus (decide +kernel)); exact rfl; (focus (omega))) | ((with_reducible apply Step.subE); exact rfl; exact rfl; (focus (assumption)); (focus (omega)); exact rfl) | ((with_reducible apply Step.mulE); exact rfl; exact rfl; (focus (assumption)); (focus (omega)); exact rfl) | ((with_reducible apply Step.add); exact rfl; exact rfl; (focus (omega)); exact rfl) | ((with_reducible apply Step.lss); exact rfl; exact rfl; exact rfl)) | (with_reducible refine AWo.nil ?_) | ((with_reducible apply AW.seq)) | ((with_reducible apply Then.n)) | ((with_reducible apply AW.regL)) | ((with_reducible apply AW.block)) | ((with_reducible apply AW.drawL fit); (focus (decide +kernel))) | ((with_reducible apply InBlk.n)) | ((with_reducible apply AW.skip)) | ((with_reducible apply AW.condT); exact rfl; (focus ((simp only [decide_eq_true_eq, decide_eq_false_iff_not, Bool.not_eq_true', Bool.not_eq_false', Bool.not_true, Bool.not_false]; first | assumption | omega))))))
          exact ⟨_, [(0, .int .i64 (N : Nat)), (1, v), (2, u), (10, .slice (some ⟨m.length + 0, 0, none⟩) (ls.length + 1) (ls.length + 1)), (13, .slice (some ⟨M.length + 0, 0, none⟩) ls.length ls.length), (140, .int .i64 (ls.length : Nat)), (141, .int .i64 (i : Nat)), (14, .int .i64 (i : Nat)), (15, .int .i64 (r - gX : Nat)), (145, .int .i64 (i : Nat)), (146, .int .i64 (j + 1 : Nat))], _, by omega, (Or.inl ⟨rfl, (by repeat (first | exact trivial | (refine And.intro rfl ?_)))⟩), j + 1, rfl, by omega, rfl, by rw [hrm', hrs]⟩
        · obtain rfl : j = i := by omega
          have lR1 := fR_len (N := N) (ls := ls) (ws := ws) (j + 1)
          have lR0 := fR_len (N := N) (ls := ls) (ws := ws) j
          have hb1 := hRB (j + 1)
          have hb0 := hRB j
          have hrm := rm_le (N := N) (ls := ls) (ws := ws) j
          have hset : ∀ x : Nat, (csP N ls ws j).set j (x : Nat) = (csP N ls ws j).set j (x : Nat) := fun x => rfl
          have hset := csP_set (N := N) (ls := ls) (ws := ws) (i := j)
          have hc0 := csP_get (N := N) (ls := ls) (ws := ws) (i := j) (j := j) hil
          rw [if_neg (by omega)] at hc0
          have hgc : gcK N ls ws j = gcU (fQ N ls ws j (rm N ls ws j)) (rm N ls ws j / (ls.getD j 0).toNat + 1) := rfl
          have hfq : ∀ c, fQ N ls ws j (rm N ls ws j) c = decide ((c : Int) * ws.getD j 0 + (fR N ls ws (j + 1)).getD (rm N ls ws j - c * (ls.getD j 0).toNat) 0 = (fR N ls ws j).getD (rm N ls ws j) 0) := fun c => rfl
          have r5 := h3 j hil
          have r6 := k3 j (by omega)
          have ex : ls.getD j 0 = ((ls.getD j 0).toNat : Int) := by omega
          rw [ex] at r5 x1 x2
          generalize hcs' : csP N ls ws (j + 1) = cs' at *
          generalize gcK N ls ws j = g at *
          generalize fQ N ls ws j (rm N ls ws j) = Q at *
          generalize rm N ls ws j = r at *
          generalize (ls.getD j 0).toNat = X at *
          generalize ws.getD j 0 = w at *
          generalize fR N ls ws (j + 1) = R1 at *
          generalize fR N ls ws j = R0 at *
          generalize csP N ls ws j = cs at *
          have z1 : ∀ T, Rd (M ++ T) (m.length + 0) (j + 1) (.slice (some ⟨a1, 0, none⟩) (N + 1) (N + 1)) := fun T => ⟨_, get_old _ t1, s1⟩
          have z2 : ∀ T, Rd (M ++ T) (m.length + 0) j (.slice (some ⟨a0, 0, none⟩) (N + 1) (N + 1)) := fun T => ⟨_, get_old _ t1, u1⟩
          have z5 : ∀ T, Rd (M ++ T) a (o + j) (.int .i64 (X : Nat)) := fun T => by rw [hN1]; exact (r5.old _).old _
          have z6 : ∀ T, Rd (M ++ T) b (p + j) (.int .i64 w) := fun T => by rw [hN1]; exact (r6.old _).old _
          have z4 : ∀ T, Rd (M ++ T) a0 r (.int .i64 (R0.getD r 0)) := fun T => ⟨_, get_old _ u3, iv_get (by omega)⟩
          have e4 : (j : Int) + 1 = ((j + 1 : Nat) : Int) := rfl
          have b0 := hb0 r
          have hcs0 : cs = cs.set j ((gcU Q 0 : Nat) : Int) := by
            refine (set_same ?_).symm
            have hjl : j < cs.length := by omega
            rw [List.getElem?_eq_getElem hjl]
            have : cs.getD j 0 = cs[j] := by simp [hjl]
            rw [← this, hc0]; rfl
          generalize R0.getD r 0 = y0 at *
          clear hit hRB hb0 t3
          (repeat (first | (with_reducible refine AWo.cons ?_) | ((with_reducible refine Step.id ?_); first | ((with_reducible apply Step.assign); exact rfl; exact rfl) | ((with_reducible apply Step.lss); exact rfl; exact rfl; exact rfl)) | (with_reducible refine AWo.nil ?_) | ((with_reducible apply AW.seq)) | ((with_reducible apply Then.n)) | ((with_reducible apply AW.regL)) | ((with_reducible apply AW.block)) | ((with_reducible apply AW.exit)) | ((with_reducible apply InBlk.hit)) | ((with_reducible apply Then.e)) | ((with_reducible apply AW.condF); exact rfl; (focus ((simp only [decide_eq_true_eq, decide_eq_false_iff_not, Bool.not_eq_true', Bool.not_eq_false', Bool.not_true, Bool.not_false]; first | assumption | omega))))))
          refine AW.loopT (fun q t L => ∃ c : Nat, q = r / X + 1 - c ∧ c ≤ r / X + 1 ∧ L = [some { cells := iv (cs.set j ((gcU Q c : Nat) : Int)) }] ∧ t = [(0, .int .i64 (N : Nat)), (1, v), (2, u), (10, .slice (some ⟨m.length + 0, 0, none⟩) (ls.length + 1) (ls.length + 1)), (13, .slice (some ⟨M.length + 0, 0, none⟩) ls.length ls.length), (140, .int .i64 (ls.length : Nat)), (141, .int .i64 (j : Nat)), (14, .int .i64 (j : Nat)), (15, .int .i64 (r : Nat)), (17, .int .i64 (c : Nat))])
            ⟨_, _, [some { cells := iv cs }], (Or.inl ⟨rfl, (by repeat (first | exact trivial | (refine And.intro rfl ?_)))⟩), 0, rfl, Nat.zero_le _, by rw [← hcs0], rfl⟩ ?_
          rintro q t L ⟨c, rfl, hc, rfl, rfl⟩
          rcases Nat.lt_or_ge c (r / X + 1) with hcl | hcl
          · have hcx : c * X ≤ r := Nat.le_trans (Nat.mul_le_mul_right X (show c ≤ r / X by omega)) (Nat.div_mul_le_self _ _)
            have hc2 : c ≤ 2000 := Nat.le_trans (Nat.le_trans (Nat.le_mul_of_pos_right c (by omega)) hcx) (by omega)
            have hcw0 : 0 ≤ (c : Int) * w := Int.mul_nonneg (by omega) (by omega)
            have hcw1 : (c : Int) * w ≤ 2000 * 1000000 := Int.mul_le_mul (by omega) (by omega) (by omega) (by omega)
            have e5 : (c : Int) * (X : Int) = ((c * X : Nat) : Int) := (Int.natCast_mul c X).symm
            have e6 : (r : Int) - ((c * X : Nat) : Int) = ((r - c * X : Nat) : Int) := by omega
            have b1 := hb1 (r - c * X)
            have hq := hfq c
            have z3 : ∀ T, Rd (M ++ T) a1 (r - c * X) (.int .i64 (R1.getD (r - c * X) 0)) := fun T => ⟨_, get_old _ s3, iv_get (by omega)⟩
            have hcsl : (cs.set j ((gcU Q c : Nat) : Int)).length = ls.length := by rw [List.length_set]; exact lcs
            have hst : (cs.set j ((gcU Q c : Nat) : Int)).set j ((c : Nat) : Int) = cs.set j ((c : Nat) : Int) := List.set_set ..
            generalize hcsc : cs.set j ((gcU Q c : Nat) : Int) = csc at *
            generalize R1.getD (r - c * X) 0 = y1 at *
            generalize hcX : c * X = cX at *
            by_cases heq : (c : Int) * w + y1 = y0
            · rw [decide_eq_true heq] at hq
              have hgc' : gcU Q (c + 1) = c := by rw [gcU, hq]; rfl
              (repeat (first | (with_reducible refine AWo.cons ?_) | ((with_reducible refine Step.id ?_); first | ((with_reducible apply Step.move); exact rfl; exact rfl) | ((with_reducible apply Step.assign); exact rfl; exact rfl) | ((with_reducible apply Step.load); exact rfl; (focus (decide +kernel)); exact rfl; (focus (first | exact z1 _ | exact z2 _ | exact z3 _ | exact z4 _ | exact z5 _ | exact z6 _))) | ((with_reducible apply Step.ix1z); exact rfl; (focus (exact Sl.mk (by omega))); exact rfl; (focus (decide +kernel)); exact rfl; (focus (omega))) | ((with_reducible apply Step.ix1); exact rfl; (focus (assumption)); exact rfl; (focus (decide +kernel)); exact rfl; (focus (omega))) | ((with_reducible apply Step.addE); exact rfl; exact rfl; (focus (assumption)); (focus (omega)); exact rfl) | ((with_reducible apply Step.subE); exact rfl; exact rfl; (focus (assumption)); (focus (omega)); exact rfl) | ((with_reducible apply Step.mulE); exact rfl; exact rfl; (focus (assumption)); (focus (omega)); exact rfl) | ((with_reducible apply Step.add); exact rfl; exact rfl; (focus (omega)); exact rfl) | ((with_reducible apply Step.mul); exact rfl; exact rfl; (focus (omega)); exact rfl) | ((with_reducible apply Step.leq); exact rfl; exact rfl; exact rfl) | ((with_reducible apply Step.eql); exact rfl; exact rfl; exact rfl) | ((with_reducible apply Step.store (k := 0)); exact rfl; exact rfl; exact rfl; exact rfl; (focus (decide +kernel)); exact rfl; exact rfl; (focus (first | omega | (simp [iv, bv]; done) | (simp [iv, bv]; omega))); (focus (first | (simp only [List.nil_append, List.cons_append, List.set_cons_zero, List.set_cons_succ, iv_set, bv_set, iv_rep, bv_rep]; done) | (simp only [List.nil_append, List.cons_append, List.set_cons_zero, List.set_cons_succ, iv_set, bv_set, iv_rep, bv_rep]; rfl) | rfl)))) | (with_reducible refine AWo.nil ?_) | ((with_reducible apply AW.seq)) | ((with_reducible apply Then.n)) | ((with_reducible apply AW.regL)) | ((with_reducible apply AW.block)) | ((with_reducible apply AW.drawL fit); (focus (decide +kernel))) | ((with_reducible apply InBlk.n)) | ((with_reducible apply AW.skip)) | ((with_reducible apply AW.condT); exact rfl; (focus ((simp only [decide_eq_true_eq, decide_eq_false_iff_not, Bool.not_eq_true', Bool.not_eq_false', Bool.not_true, Bool.not_false]; first | assumption | omega))))))
              exact ⟨_, _, [some { cells := iv (csc.set j ((c : Nat) : Int)) }], by omega, (Or.inl ⟨rfl, (by repeat (first | exact trivial | (refine And.intro rfl ?_)))⟩), c + 1, rfl, by omega, by rw [hgc', hst], rfl⟩
            · rw [decide_eq_false heq] at hq
              have hgc' : gcU Q (c + 1) = gcU Q c := by rw [gcU, hq]; rfl
              (repeat (first | (with_reducible refine AWo.cons ?_) | ((with_reducible refine Step.id ?_); first | ((with_reducible apply Step.move); exact rfl; exact rfl) | ((with_reducible apply Step.assign); exact rfl; exact rfl) | ((with_reducible apply Step.load); exact rfl; (focus (decide +kernel)); exact rfl; (focus (first | exact z1 _ | exact z2 _ | exact z3 _ | exact z4 _ | exact z5 _ | exact z6 _))) | ((with_reducible apply Step.ix1z); exact rfl; (focus (exact Sl.mk (by omega))); exact rfl; (focus (decide +kernel)); exact rfl; (focus (omega))) | ((with_reducible apply Step.ix1); exact rfl; (focus (assumption)); exact rfl; (focus (decide +kernel)); exact rfl; (focus (omega))) | ((with_reducible apply Step.addE); exact rfl; exact rfl; (focus (assumption)); (focus (omega)); exact rfl) | ((with_reducible apply Step.subE); exact rfl; exact rfl; (focus (assumption)); (focus (omega)); exact rfl) | ((with_reducible apply Step.mulE); exact rfl; exact rfl; (focus (assumption)); (focus (omega)); exact rfl) | ((with_reducible apply Step.add); exact rfl; exact rfl; (focus (omega)); exact rfl) | ((with_reducible apply Step.mul); exact rfl; exact rfl; (focus (omega)); exact rfl) | ((with_reducible apply Step.leq); exact rfl; exact rfl; exact rfl) | ((with_reducible apply Step.eql); exact rfl; exact rfl; exact rfl)) | (with_reducible refine AWo.nil ?_) | ((with_reducible apply AW.seq)) | ((with_reducible apply Then.n)) | ((with_reducible apply AW.regL)) | ((with_reducible apply AW.block)) | ((with_reducible apply AW.drawL fit); (focus (decide +kernel))) | ((with_reducible apply InBlk.n)) | ((with_reducible apply AW.skip)) | ((with_reducible apply AW.condT); exact rfl; (focus ((simp only [decide_eq_true_eq, decide_eq_false_iff_not, Bool.not_eq_true', Bool.not_eq_false', Bool.not_true, Bool.not_false]; first | assumption | omega)))) | ((with_reducible apply AW.condF); exact rfl; (focus ((simp only [decide_eq_true_eq, decide_eq_false_iff_not, Bool.not_eq_true', Bool.not_eq_false', Bool.not_true, Bool.not_false]; first | assumption | omega))))))
              exact ⟨_, _, _, by omega, (Or.inl ⟨rfl, (by repeat (first | exact trivial | (refine And.intro rfl ?_)))⟩), c + 1, rfl, by omega, by rw [hgc', hcsc], rfl⟩
          · obtain rfl : c = r / X + 1 := by omega
            have e5 : ((r / X + 1 : Nat) : Int) * (X : Int) = (((r / X + 1) * X : Nat) : Int) := (Int.natCast_mul _ X).symm
            have hgt : r < (r / X + 1) * X := by rw [Nat.mul_comm]; exact Nat.lt_mul_div_succ r (by omega)
            have hle : (r / X + 1) * X ≤ r + X := by rw [Nat.add_mul]; have := Nat.div_mul_le_self r X; omega
            rw [← hgc]
            rw [hset]
            generalize r / X + 1 = c at *
            generalize c * X = cX at *
            (repeat (first | (with_reducible refine AWo.cons ?_) | ((with_reducible refine Step.id ?_); first | ((with_reducible apply Step.move); exact rfl; exact rfl) | ((with_reducible apply Step.load); exact rfl; (focus (decide +kernel)); exact rfl; (focus (exact z5 _))) | ((with_reducible apply Step.ix1); exact rfl; (focus (assumption)); exact rfl; (focus (decide +kernel)); exact rfl; (focus (omega))) | ((with_reducible apply Step.addE); exact rfl; exact rfl; (focus (assumption)); (focus (omega)); exact rfl) | ((with_reducible apply Step.mulE); exact rfl; exact rfl; (focus (assumption)); (focus (omega)); exact rfl) | ((with_reducible apply Step.leq); exact rfl; exact rfl; exact rfl)) | (with_reducible refine AWo.nil ?_) | ((with_reducible apply AW.seq)) | ((with_reducible apply Then.n)) | ((with_reducible apply AW.regL)) | ((with_reducible apply AW.exit)) | ((with_reducible apply InBlk.n)) | ((with_reducible apply InBlk.hit)) | ((with_reducible apply Then.e)) | ((with_reducible apply AW.condF); exact rfl; (focus ((simp only [decide_eq_true_eq, decide_eq_false_iff_not, Bool.not_eq_true', Bool.not_eq_false', Bool.not_true, Bool.not_false]; first | assumption | omega))))))
            exact ⟨_, [(0, .int .i64 (N : Nat)), (1, v), (2, u), (10, .slice (some ⟨m.length + 0, 0, none⟩) (ls.length + 1) (ls.length + 1)), (13, .slice (some ⟨M.length + 0, 0, none⟩) ls.length ls.length), (140, .int .i64 (ls.length : Nat)), (141, .int .i64 (j + 1 : Nat))], _, by omega, (Or.inl ⟨rfl, (by repeat (first | exact trivial | (refine And.intro rfl ?_)))⟩), j + 1, rfl, by omega, by rw [hcs'], rfl⟩
      · obtain rfl : i = ls.length := by omega
        obtain ⟨a0, kd0, s1, s2, s3⟩ := t3 0 (Nat.zero_le _) (Nat.zero_le _)
        have lR0 := fR_len (N := N) (ls := ls) (ws := ws) 0
        have z1 : ∀ T, Rd (M ++ T) (m.length + 0) 0 (.slice (some ⟨a0, 0, none⟩) (N + 1) (N + 1)) := fun T => ⟨_, get_old _ t1, s1⟩
        have z2 : ∀ T, Rd (M ++ T) a0 N (.int .i64 ((fR N ls ws 0).getD N 0)) := fun T => ⟨_, get_old _ s3, iv_get (by omega)⟩
        (repeat (first | (with_reducible refine AWo.cons ?_) | ((with_reducible refine Step.id ?_); first | ((with_reducible apply Step.move); exact rfl; exact rfl) | ((with_reducible apply Step.assign); exact rfl; exact rfl) | ((with_reducible apply Step.load); exact rfl; (focus (decide +kernel)); exact rfl; (focus (first | exact z1 _ | exact z2 _))) | ((with_reducible apply Step.ix1z); exact rfl; (focus (exact Sl.mk (by omega))); exact rfl; (focus (decide +kernel)); exact rfl; (focus (omega))) | ((with_reducible apply Step.ix1 (k := 0)); exact rfl; (focus (exact Sl.mk (by omega))); exact rfl; (focus (decide +kernel)); exact rfl; (focus (omega))) | ((with_reducible apply Step.lss); exact rfl; exact rfl; exact rfl)) | (with_reducible refine AWo.nil ?_) | ((with_reducible apply AW.seq)) | ((with_reducible apply Then.n)) | ((with_reducible apply AW.regL)) | ((with_reducible apply AW.exit)) | ((with_reducible apply InBlk.hit)) | ((with_reducible apply Then.e)) | ((with_reducible apply AW.condF); exact rfl; (focus ((simp only [decide_eq_true_eq, decide_eq_false_iff_not, Bool.not_eq_true', Bool.not_eq_false', Bool.not_true, Bool.not_false]; first | assumption | omega))))))
        (refine AW.ret ?_; (repeat (first | refine Then.r ?_ | refine InBlk.r ?_)))
        obtain ⟨N1, hN1⟩ := hMN
        exact ⟨_, rfl, N1 ++ [some { cells := iv (csP N ls ws ls.length) }], by rw [hN1, List.append_assoc], M.length, by omega, rfl, by rw [show M.length = M.length + 0 from rfl, get_app]; rfl⟩
    | succ i =>
      have e3 : ((i + 1 : Nat) : Int) - 1 = ((i : Nat) : Int) := by omega
      have e4 : (i : Int) + 1 = ((i + 1 : Nat) : Int) := rfl
      rw [e3]
      refine AW.rebase ?_
      obtain ⟨a', kd, s1, s2, s3⟩ := t3 (i + 1) (Nat.le_refl _) hi
      obtain ⟨x1, x2, x3, x4⟩ := hit i (by omega)
      have lR := fR_len (N := N) (ls := ls) (ws := ws) (i + 1)
      have hRB' := hRB (i + 1)
      have hfr := fR_succ (N := N) (ls := ls) (ws := ws) (i := i) (by omega)
      have r5 := h3 i (by omega)
      have r6 := k3 i (by omega)
      generalize fR N ls ws (i + 1) = R at *
      have ex : ls.getD i 0 = ((ls.getD i 0).toNat : Int) := by omega
      rw [ex] at r5 x1 x2
      generalize (ls.getD i 0).toNat = X at *
      generalize ws.getD i 0 = w at *
      have r0 : ∀ T, Rd (M ++ T) (m.length + 0) (i + 1) (.slice (some ⟨a', 0, none⟩) (N + 1) (N + 1)) := fun T => ⟨_, get_old _ t1, s1⟩
      have hI : ∀ T, Ints (M ++ T) (.slice (some ⟨a', 0, none⟩) (N + 1) (N + 1)) R := fun T => (ints_at s3 rfl (N + 1) lR.symm).old T
      have hr := ints_rdl (m := M) (a := a') (o := 0) (l := R) (by omega) (fun k hk => (⟨_, s3, by rw [Nat.zero_add]; exact iv_get hk⟩ : Rd M a' (0 + k) (.int .i64 (R.getD k 0))))
      have hb : ∀ T, (M ++ T)[m.length + 0]? = some (some { cells := tcl }) := fun T => get_old _ t1
      obtain ⟨M1, hM1⟩ : ∃ M1 : AM, M1 = (M ++ ([some { cells := [] }, some { cells := iv R, kind := .grow, size := 1 }] : AM)).set (m.length + 0) (some { cells := tcl.set i (.slice (some ⟨M.length + 1, 0, none⟩) (N + 1) (N + 1)) }) := ⟨_, rfl⟩
      have hM1N : ∃ Nn, M1 = m ++ Nn := by
        obtain ⟨N1, rfl⟩ := hMN
        rw [hM1, List.append_assoc]
        exact set_high (by omega) _
      have hM1l : M1.length = M.length + 2 := by rw [hM1]; simp
      have w1 : M1[m.length]? = some (some { cells := tcl.set i (.slice (some ⟨M.length + 1, 0, none⟩) (N + 1) (N + 1)) }) := by rw [hM1, show m.length + 0 = m.length from rfl]; exact List.getElem?_set_self (by simp; omega)
      have w2 : M1[M.length + 1]? = some (some { cells := iv R, kind := .grow, size := 1 }) := by rw [hM1, List.getElem?_set_ne (by omega)]; simp
      have w3 : ∀ (c : Nat) (bb : Option Blk), m.length < c → M[c]? = some bb → M1[c]? = some bb := fun c bb q1 q2 => by rw [hM1, List.getElem?_set_ne (by omega)]; exact get_old _ q2
      (repeat (first | (with_reducible refine AWo.cons ?_) | ((with_reducible refine Step.id ?_); first | ((with_reducible apply Step.move); exact rfl; exact rfl) | ((with_reducible apply Step.load); exact rfl; (focus (decide +kernel)); exact rfl; (focus (exact r0 _))) | ((with_reducible apply Step.ix1z); exact rfl; (focus (exact Sl.mk (by omega))); exact rfl; (focus (decide +kernel)); exact rfl; (focus (omega))) | ((with_reducible apply Step.addE); exact rfl; exact rfl; (focus (assumption)); (focus (omega)); exact rfl) | ((with_reducible apply Step.geq); exact rfl; exact rfl; exact rfl) | ((with_reducible apply Step.buildS 0); exact rfl; exact rfl; exact (fun _ _ => bs47e); exact rfl; (focus (first | (simp only [List.nil_append, List.cons_append, List.set_cons_zero, List.set_cons_succ, iv_set, bv_set, iv_rep, bv_rep]; done) | (simp only [List.nil_append, List.cons_append, List.set_cons_zero, List.set_cons_succ, iv_set, bv_set, iv_rep, bv_rep]; rfl) | rfl)))) | (with_reducible refine AWo.nil ?_) | ((with_reducible apply AW.seq)) | ((with_reducible apply Then.n)) | ((with_reducible apply AW.regL)) | ((with_reducible apply AW.block)) | ((with_reducible apply AW.skip)) | ((with_reducible apply AW.condT); exact rfl; (focus (rfl)))))
      ((with_reducible apply Step.appE (k := 1)); exact rfl; exact rfl; exact rfl; exact el47; exact un47s; exact rfl; exact rfl; exact (hr.old _); (focus (rw [show (iv R).length = R.length by simp [iv]]; omega)); (focus (omega)); exact (iv_one _); (focus (omega)); exact rfl; (focus (first | (simp only [List.nil_append, List.cons_append, List.set_cons_zero, List.set_cons_succ, iv_set, bv_set, iv_rep, bv_rep]; done) | (simp only [List.nil_append, List.cons_append, List.set_cons_zero, List.set_cons_succ, iv_set, bv_set, iv_rep, bv_rep]; rfl) | rfl)))
      (repeat (first | (with_reducible refine AWo.cons ?_) | ((with_reducible refine Step.id ?_); ((with_reducible apply Step.ix1z); exact rfl; (focus (exact Sl.mk (by omega))); exact rfl; (focus (decide +kernel)); exact rfl; (focus (omega))))))
      ((with_reducible apply Step.storeWk (kd := .own)); exact rfl; exact rfl; exact (hb _); exact rfl; exact (show i < tcl.length by omega); (focus (decide +kernel)); exact rfl; exact rfl; exact hM1.symm)
      obtain ⟨N1, hN1⟩ := hM1N
      have r5' : Rd M1 a (o + i) (.int .i64 (X : Nat)) := by rw [hN1]; exact r5.old _
      (repeat (first | (with_reducible refine AWo.cons ?_) | ((with_reducible refine Step.id ?_); first | ((with_reducible apply Step.move); exact rfl; exact rfl) | ((with_reducible apply Step.assign); exact rfl; exact rfl) | ((with_reducible apply Step.load); exact rfl; (focus (decide +kernel)); exact rfl; (focus (assumption))) | ((with_reducible apply Step.ix1); exact rfl; (focus (assumption)); exact rfl; (focus (decide +kernel)); exact rfl; (focus (omega)))) | (with_reducible refine AWo.nil ?_) | ((with_reducible apply AW.seq)) | ((with_reducible apply Then.n)) | ((with_reducible apply AW.regL)) | ((with_reducible apply AW.block))))
      refine AW.loopW (fun rk t M' => ∃ j : Nat, rk = (N + 1 - X) - j ∧ j ≤ N + 1 - X ∧ M' = M1.set (M.length + 1) (some { cells := iv (rU R X w j), kind := .grow, size := 1 }) ∧
        t = fr [(0, .int .i64 (N : Nat)), (1, v), (2, u), (10, .slice (some ⟨m.length + 0, 0, none⟩) (ls.length + 1) (ls.length + 1)), (11, .int .i64 (i : Nat)), (12, .int .i64 (X + j : Nat))]) ⟨_, _, (by repeat (first | exact trivial | (refine And.intro rfl ?_))), 0, rfl, Nat.zero_le _, (set_same w2).symm, rfl⟩ ?_
      rintro rk t M' ⟨j, rfl, hj, hM', rfl⟩
      have v1 : M'[m.length]? = some (some { cells := tcl.set i (.slice (some ⟨M.length + 1, 0, none⟩) (N + 1) (N + 1)) }) := by rw [hM', List.getElem?_set_ne (by omega)]; exact w1
      have v2 : M'[M.length + 1]? = some (some { cells := iv (rU R X w j), kind := .grow, size := 1 }) := by rw [hM']; exact List.getElem?_set_self (by omega)
      have hM'N : ∃ Nn, M' = m ++ Nn := by rw [hM', hN1]; exact set_high (by omega) _
      have hM'l : M'.length = M1.length := by rw [hM', List.length_set]
      have lU := rU_len R X w j
      rcases Nat.lt_or_ge j (N + 1 - X) with hjl | hjl
      · obtain ⟨N2, hN2⟩ := hM'N
        have y1 : Rd M' (m.length + 0) i (.slice (some ⟨M.length + 1, 0, none⟩) (N + 1) (N + 1)) := ⟨_, v1, List.getElem?_set_self (by omega)⟩
        have y3 : Rd M' (M.length + 1) (X + j) (.int .i64 ((rU R X w j).getD (X + j) 0)) := ⟨_, v2, iv_get (by omega)⟩
        have y4 : Rd M' (M.length + 1) j (.int .i64 ((rU R X w j).getD j 0)) := ⟨_, v2, iv_get (by omega)⟩
        have y5 : Rd M' a (o + i) (.int .i64 (X : Nat)) := by rw [hN2]; exact r5.old _
        have y6 : Rd M' b (p + i) (.int .i64 w) := by rw [hN2]; exact r6.old _
        have hbd := rU_bd (x := X) (w := w) hRB' (by omega) (by omega) j (by omega)
        have q1 := hbd (X + j)
        have q2 := hbd j
        have e5 : ((X + j : Nat) : Int) - (X : Int) = ((j : Nat) : Int) := by omega
        have e6 : ((X + j : Nat) : Int) + 1 = ((X + (j + 1) : Nat) : Int) := by omega
        have hM2 : M'.set (M.length + 1) (some { cells := (iv (rU R X w j)).set (X + j) (.int .i64 (Max.max ((rU R X w j).getD (X + j) 0) ((rU R X w j).getD j 0 + w))), kind := .grow, size := 1 }) = M1.set (M.length + 1) (some { cells := iv (rU R X w (j + 1)), kind := .grow, size := 1 }) := by
          rw [hM']
          try simp only [Nat.add_zero]
          rw [List.set_set, iv_set]
          rfl
        have hiv : X + j < (iv (rU R X w j)).length := by rw [show (iv (rU R X w j)).length = (rU R X w j).length by simp [iv]]; omega
        generalize (rU R X w j).getD (X + j) 0 = z1 at *
        generalize (rU R X w j).getD j 0 = z2 at *
        clear hit hRB hRB' t3 hbd w3
        (repeat (first | (with_reducible refine AWo.cons ?_) | ((with_reducible refine Step.id ?_); first | ((with_reducible apply Step.move); exact rfl; exact rfl) | ((with_reducible apply Step.load); exact rfl; (focus (decide +kernel)); exact rfl; (focus (assumption))) | ((with_reducible apply Step.ix1z); exact rfl; (focus (exact Sl.mk (by omega))); exact rfl; (focus (decide +kernel)); exact rfl; (focus (omega))) | ((with_reducible apply Step.ix1); exact rfl; (focus (assumption)); exact rfl; (focus (decide +kernel)); exact rfl; (focus (omega))) | ((with_reducible apply Step.subE); exact rfl; exact rfl; (focus (assumption)); (focus (omega)); exact rfl) | ((with_reducible apply Step.add); exact rfl; exact rfl; (focus (omega)); exact rfl) | ((with_reducible apply Step.leq); exact rfl; exact rfl; exact rfl) | ((with_reducible apply Step.max); exact rfl; exact rfl; exact rfl)) | (with_reducible refine AWo.nil ?_) | ((with_reducible apply AW.seq)) | ((with_reducible apply Then.n)) | ((with_reducible apply AW.regL)) | ((with_reducible apply AW.block)) | ((with_reducible apply AW.drawL fit); (focus (decide +kernel))) | ((with_reducible apply AW.skip)) | ((with_reducible apply AW.condT); exact rfl; (focus ((simp only [decide_eq_true_eq, decide_eq_false_iff_not, Bool.not_eq_true', Bool.not_eq_false', Bool.not_true, Bool.not_false]; first | assumption | omega))))))
        ((with_reducible apply Step.storeWk (kd := .grow)); exact rfl; exact rfl; exact v2; exact rfl; exact hiv; (focus (decide +kernel)); exact rfl; exact rfl; exact hM2)
        (repeat (first | (with_reducible refine AWo.cons ?_) | ((with_reducible refine Step.id ?_); first | ((with_reducible apply Step.move); exact rfl; exact rfl) | ((with_reducible apply Step.assign); exact rfl; exact rfl) | ((with_reducible apply Step.addE); exact rfl; exact rfl; (focus (assumption)); (focus (omega)); exact rfl)) | (with_reducible refine AWo.nil ?_) | ((with_reducible apply Then.n)) | ((with_reducible apply AW.regL)) | ((with_reducible apply InBlk.n))))
        exact ⟨_, _, by omega, (by repeat (first | exact trivial | (refine And.intro rfl ?_))), j + 1, rfl, by omega, rfl, rfl⟩
      · obtain rfl : j = N + 1 - X := by omega
        have hFT' : FT M' m.length ls.length N ls ws i := ⟨tcl.set i (.slice (some ⟨M.length + 1, 0, none⟩) (N + 1) (N + 1)), v1, by rw [List.length_set]; exact t2, fun r hr1 hr2 => by
          rcases Nat.lt_or_eq_of_le hr1 with h | rfl
          · obtain ⟨a2, kd2, q1, q2, q3⟩ := t3 r (by omega) hr2
            have q4 := (List.getElem?_eq_some_iff.1 q3).1
            exact ⟨a2, kd2, by rw [List.getElem?_set_ne (by omega)]; exact q1, q2, by rw [hM', List.getElem?_set_ne (by omega)]; exact w3 _ _ q2 q3⟩
          · exact ⟨M.length + 1, .grow, List.getElem?_set_self (by omega), by omega, by rw [hfr]; exact v2⟩⟩
        clear hit hRB hRB' t3 w3
        (repeat (first | (with_reducible refine AWo.cons ?_) | ((with_reducible refine Step.id ?_); first | ((with_reducible apply Step.move); exact rfl; exact rfl) | ((with_reducible apply Step.assign); exact rfl; exact rfl) | ((with_reducible apply Step.sub); exact rfl; exact rfl; (focus (omega)); exact rfl) | ((with_reducible apply Step.leq); exact rfl; exact rfl; exact rfl)) | (with_reducible refine AWo.nil ?_) | ((with_reducible apply AW.seq)) | ((with_reducible apply Then.n)) | ((with_reducible apply AW.regL)) | ((with_reducible apply AW.exit)) | ((with_reducible apply InBlk.n)) | ((with_reducible apply InBlk.hit)) | ((with_reducible apply Then.e)) | ((with_reducible apply AW.condF); exact rfl; (focus ((simp only [decide_eq_true_eq, decide_eq_false_iff_not, Bool.not_eq_true', Bool.not_eq_false', Bool.not_true, Bool.not_false]; first | assumption | omega))))))
        exact ⟨_, [(0, .int .i64 (N : Nat)), (1, v), (2, u), (10, .slice (some ⟨m.length + 0, 0, none⟩) (ls.length + 1) (ls.length + 1)), (11, .int .i64 ((i : Int) - 1))], by omega, (by repeat (first | exact trivial | (refine And.intro rfl ?_))), i, rfl, by omega, hM'N, by omega, hFT', rfl⟩
end Go.Proofs.YtibhgdglbillaaaDoor.Abs
namespace Go.Proofs.YtibhgdglbillaaaDoor.Abs
set_option linter.unusedSimpArgs false
set_option linter.unusedVariables false
open Go.RowKit
open Go.Proofs.YtibhgdglbillaaaDoor.Sim
open Go.Proofs
set_option maxHeartbeats 4000000 in
set_option maxRecDepth 100000 in
theorem CutFill_ok {m : AM} {v u : Value} {ls ws : List Int} {n : Int} (hl : Ints m v ls) (hw : Ints m u ws) (hlen : ls.length ≤ 9223372036854775807 ∧ ws.length ≤ 9223372036854775807) : ACall Tryd.prog 10 #[.int .i64 n, v, u] m (Ret (.bool true) m) := by
  obtain ⟨a, o, h1, h2, h3⟩ := id hl
  have hM : 0 < m.length := by omega
  cases hok : fillB n ls ws with
  | false =>
    refine ACall.start Tryd.func10 rfl rfl ?_
    (repeat (first | (with_reducible refine AWo.cons ?_) | ((with_reducible refine Step.id ?_); first | ((with_reducible apply Step.gdT); exact rfl; exact rfl; (focus (rfl))) | ((with_reducible apply Step.move); exact rfl; exact rfl) | ((with_reducible apply Step.assign); exact rfl; exact rfl) | ((with_reducible apply Step.eql); exact rfl; exact rfl; exact rfl) | ((with_reducible apply Step.extract); exact rfl; exact rfl; exact rfl) | ((with_reducible apply Step.pickT); exact rfl; exact rfl; exact rfl; exact rfl; (focus (rfl))) | ((with_reducible apply Step.callR fit); exact rfl; exact Tryd.func38; exact rfl; exact rfl; exact (Fill_no (hl.old _) (hw.old _) hlen hok)) | ((with_reducible apply Step.callR fit); exact rfl; exact Tryd.func39; exact rfl; exact rfl; exact (RFill_no (hl.old _) (hw.old _) hlen hok)) | ((with_reducible apply Step.callR fit); exact rfl; exact Tryd.func40; exact rfl; exact rfl; exact (equalI_ok ((ints_nil hM).old _) ((ints_nil hM).old _) (by simp) rfl)) | ((with_reducible apply Step.callR fit); exact rfl; exact Tryd.func21; exact rfl; exact rfl; exact (awake_ok))) | (with_reducible refine AWo.nil ?_) | ((with_reducible apply AW.seq)) | ((with_reducible apply Then.n)) | ((with_reducible apply AW.regL))))
    (refine AW.retD (l := [(6, _)]) (by repeat (first | exact trivial | (refine And.intro ⟨rfl, by (exact .bool _)⟩ ?_))) ?_; (repeat (first | refine Then.r ?_ | refine InBlk.r ?_)))
    exact ⟨_, rfl, rfl, rfl⟩
  | true =>
    have hF := FiOk.of hok
    have h0 := hF.n0
    have hl12 := hF.l12
    obtain ⟨N, rfl⟩ := Int.eq_ofNat_of_zero_le h0
    have lcs := csP_len (N := N) (ls := ls) (ws := ws) ls.length
    refine ACall.drop (.bool _) ?_
    refine ACall.start Tryd.func10 rfl rfl ?_
    (repeat (first | (with_reducible refine AWo.cons ?_) | ((with_reducible refine Step.id ?_); first | ((with_reducible apply Step.move); exact rfl; exact rfl) | ((with_reducible apply Step.assign); exact rfl; exact rfl)) | (with_reducible refine AWo.nil ?_) | ((with_reducible apply AW.seq)) | ((with_reducible apply Then.n)) | ((with_reducible apply AW.regL))))
    ((with_reducible apply Step.callX fit); exact rfl; exact Tryd.func38; exact rfl; exact rfl; exact (Fill_ok (hl.old _) (hw.old _) hok))
    rintro _ m1 ⟨N1, hN1⟩ ⟨q1, hq1, rfl, hc1⟩
    have hl1 : ∀ T, Ints (m1 ++ T) v ls := fun T => by rw [hN1]; exact ((hl.old _).old _).old _
    have hw1 : ∀ T, Ints (m1 ++ T) u ws := fun T => by rw [hN1]; exact ((hw.old _).old _).old _
    (repeat (first | (with_reducible refine AWo.cons ?_) | ((with_reducible refine Step.id ?_); first | ((with_reducible apply Step.move); exact rfl; exact rfl) | ((with_reducible apply Step.assign); exact rfl; exact rfl) | ((with_reducible apply Step.extract); exact rfl; exact rfl; exact rfl)) | (with_reducible refine AWo.nil ?_) | ((with_reducible apply AW.seq)) | ((with_reducible apply Then.n)) | ((with_reducible apply AW.regL))))
    ((with_reducible apply Step.callX fit); exact rfl; exact Tryd.func39; exact rfl; exact rfl; exact (RFill_ok (hl1 _) (hw1 _) hok))
    rintro _ m2 ⟨N2, hN2⟩ ⟨q2, hq2, rfl, hc2⟩
    have hm2 : ∃ Nn, m2 = m ++ Nn := ⟨N1 ++ N2, by rw [hN2, hN1]; simp⟩
    generalize csP N ls ws ls.length = cs at *
    have i1 : Ints m2 (.slice (some ⟨q1, 0, none⟩) ls.length ls.length) cs := ints_at (by rw [hN2]; exact get_old _ (get_old _ hc1)) rfl _ lcs.symm
    have i2 : Ints m2 (.slice (some ⟨q2, 0, none⟩) ls.length ls.length) cs := ints_at hc2 rfl _ lcs.symm
    have eq : ∀ T, ACall Tryd.prog 40 #[.slice (some ⟨q1, 0, none⟩) ls.length ls.length, .slice (some ⟨q2, 0, none⟩) ls.length ls.length] (m2 ++ T) (Ret (.bool true) (m2 ++ T)) := fun T => equalI_ok (i1.old T) (i2.old T) (by omega) (by simp)
    clear hN1 hN2 hc1 hc2 i1 i2
    (repeat (first | (with_reducible refine AWo.cons ?_) | ((with_reducible refine Step.id ?_); first | ((with_reducible apply Step.gdT); exact rfl; exact rfl; (focus (first | rfl | (simp; done)))) | ((with_reducible apply Step.move); exact rfl; exact rfl) | ((with_reducible apply Step.assign); exact rfl; exact rfl) | ((with_reducible apply Step.eql); exact rfl; exact rfl; exact rfl) | ((with_reducible apply Step.extract); exact rfl; exact rfl; exact rfl) | ((with_reducible apply Step.pickT); exact rfl; exact rfl; exact rfl; exact rfl; (focus (first | rfl | (simp; done)))) | ((with_reducible apply Step.callR fit); exact rfl; exact Tryd.func40; exact rfl; exact rfl; exact (eq _)) | ((with_reducible apply Step.callR fit); exact rfl; exact Tryd.func21; exact rfl; exact rfl; exact (awake_ok))) | (with_reducible refine AWo.nil ?_) | ((with_reducible apply AW.seq)) | ((with_reducible apply Then.n)) | ((with_reducible apply AW.regL))))
    (refine AW.ret ?_; (repeat (first | refine Then.r ?_ | refine InBlk.r ?_)))
    obtain ⟨N3, hN3⟩ := hm2
    exact ⟨_, rfl, by simp, N3 ++ [], by rw [hN3, List.append_assoc]⟩
end Go.Proofs.YtibhgdglbillaaaDoor.Abs
namespace Go.Proofs.YtibhgdglbillaaaDoor.Abs
set_option linter.unusedSimpArgs false
set_option linter.unusedVariables false
open Go.RowKit
open Go.Proofs.YtibhgdglbillaaaDoor.Sim
open Go.ChangeShapes Go.WideShapes Go.Deep
def RelSelf (v : Value) : Prop := ∃ c, v = .agg c ∧ ∀ R, Rel R (.agg c) (.agg c)
def Okarg3 (W : World) (a : AR) : Prop := Okarg W a ∨ RelSelf a.1
theorem top_call3 {P : Program} {f : FuncId} {W : World} (ars : List AR) (h : ∀ a ∈ ars, Okarg3 W a) (hc : ACall P f (mkVs 0 ars).toArray (ars.map mkB) (Ret (.bool true) (ars.map mkB))) :
    Calls P f (ars.map (·.1)).toArray W fun e w' => e = .returned (.bool true) ∧ Below W.heap.size W w' := by
  let R : Pl := fun i => (ars[i]?).bind mkP
  have hm : MRep W.heap.size R (ars.map mkB) W := by
    refine ⟨fun i hi => ?_, fun i b hi => ?_, fun i j b c p q hi hj hb _ _ _ _ => ?_⟩
    · simp only [List.length_map] at hi
      simp [R, List.getElem?_eq_none hi]
    · rw [List.getElem?_map] at hi
      cases ha : ars[i]? with
      | none => rw [ha] at hi; cases hi
      | some a =>
        rw [ha] at hi
        simp only [Option.map_some, Option.some.injEq] at hi
        obtain ⟨v, c⟩ := a
        rcases h _ (List.mem_of_getElem? ha) with (h1 | ⟨bb, o, n, cap, h1, h2, h3, h4, h5⟩) | ⟨l, h1, hl⟩
        · simp only at h1
          cases v with
          | slice x n cap => cases x with
            | none => simp [mkB] at hi
            | some x => simp [g0] at h1
          | _ => simp [mkB] at hi
        · simp only at h1
          subst h1
          simp only [mkB, Option.some.injEq] at hi
          subst hi
          refine ⟨⟨bb, o, cap - n⟩, by simp [R, ha, mkP], h3, ?_⟩
          refine ⟨fun e => by simp at e, fun j x hj => ⟨x, h4 j x hj, g0_rel (h5 x (List.mem_of_getElem? hj))⟩⟩
        · simp only at h1
          subst h1
          simp [mkB] at hi
    · rw [List.getElem?_map] at hi
      cases ha : ars[i]? with
      | none => rw [ha] at hi; cases hi
      | some a =>
        rw [ha] at hi
        simp only [Option.map_some, Option.some.injEq] at hi
        obtain ⟨v, c'⟩ := a
        cases v with
        | slice x n cap => cases x with
          | none => simp [mkB] at hi
          | some x => simp only [mkB, Option.some.injEq] at hi; subst hi; cases hb
        | _ => simp [mkB] at hi
  have hargs : Rels R (mkVs 0 ars).toArray (ars.map (·.1)).toArray := by
    refine ⟨by simp [mkVs_len], fun i hi => ?_⟩
    simp only [List.size_toArray, mkVs_len] at hi
    have ha : ars[i]? = some ars[i] := List.getElem?_eq_getElem hi
    have e1 : (mkVs 0 ars).toArray.getD i undef = mkV i ars[i].1 := by
      simp [mkVs_get, ha]
    have e2 : (ars.map (·.1)).toArray.getD i undef = ars[i].1 := by simp [hi]
    rw [e1, e2]
    generalize ars[i] = a at ha
    obtain ⟨v, c⟩ := a
    rcases h _ (List.mem_of_getElem? ha) with (h1 | ⟨bb, o, n, cap, h1, h2, h3, h4, h5⟩) | ⟨l, h1, hl⟩
    · simp only at h1 ⊢
      cases v with
      | slice x n cap => cases x with
        | none => exact g0_rel h1
        | some x => simp [g0] at h1
      | _ => exact g0_rel h1
    · simp only at h1 ⊢
      subst h1
      have := Rel.slice (R := R) i 0 n n ⟨bb, o, cap - n⟩ (by simp [R, ha, mkP]) (Nat.le_refl _)
      rw [show n + (cap - n) = cap by omega] at this
      simpa [mkV] using this
    · simp only at h1 ⊢
      subst h1
      exact hl R
  refine (hc W.heap.size R W _ (Nat.le_refl _) hm hargs).mono ?_
  rintro e w' ⟨v, v', R', m', rfl, k1, k2, rfl, rfl⟩
  cases k1
  exact ⟨rfl, k2.below hm (Nat.le_refl _)⟩
theorem RelSelf.rect (r : Rc) : RelSelf r.v := ⟨_, rfl, fun R => rel_aggI R [r.x, r.y, r.w, r.h]⟩
theorem RelSelf.kind (k : Kd) : RelSelf k.v := ⟨_, rfl, fun R => .agg _ _ rfl fun i hi => by
  simp at hi
  rcases (show i = 0 ∨ i = 1 ∨ i = 2 ∨ i = 3 ∨ i = 4 by omega) with rfl | rfl | rfl | rfl | rfl
  · exact .int _ _
  · exact .int _ _
  · exact .int _ _
  · exact .int _ _
  · exact .bool _⟩
def sv (l : List ByteArray) : List Value := l.map .string
section
variable {H : Type} {enc : TypeId × Value → H} {P : Program} {w : World} {base : Nat} {spare : Nat → Bool} {held : Bool}
def kv (l : List Kd) : List Value := l.flatMap Kd.cells
end
end Go.Proofs.YtibhgdglbillaaaDoor.Abs
namespace Go.Proofs.YtibhgdglbillaaaDoor.Abs
set_option linter.unusedSimpArgs false
set_option linter.unusedVariables false
open Go.RowKit
open Go.Proofs.YtibhgdglbillaaaDoor.Sim
open Go.Proofs
section
variable (leaf : R4 → Int) (w h : Nat) (t : List Int)
end
section
variable {leaf : R4 → Int} {w h : Nat} {t : List Int}
end
/-- The memory in which block q holds some cells. -/
def MC (m : AM) (q : Nat) (c : List Value) : AM := m.set q (some { cells := c })
section
variable {m : AM} {q : Nat} {c c' : List Value}
theorem MC.len : (MC m q c).length = m.length := by simp [MC]
theorem MC.at (hq : q < m.length) : (MC m q c)[q]? = some (some { cells := c }) := by unfold MC; exact List.getElem?_set_self hq
theorem MC.ne {a : Nat} (h : a ≠ q) : (MC m q c)[a]? = m[a]? := by unfold MC; exact List.getElem?_set_ne (fun e => h e.symm)
theorem MC.set (hq : q < m.length) (T : AM) : (MC m q c ++ T).set q (some { cells := c' }) = MC m q c' ++ T := by
  unfold MC
  rw [List.set_append_left _ _ (by simpa using hq), List.set_set]
theorem MC.rd {a o : Nat} {x : Value} (h : a ≠ q) (hr : Rd m a o x) : Rd (MC m q c) a o x := by
  obtain ⟨b, h1, h2⟩ := hr
  exact ⟨b, by rw [MC.ne h]; exact h1, h2⟩
theorem MC.ints {v : Value} {l : List Int} {m1 N : AM} (hm : m = m1 ++ N) (hq1 : m1.length ≤ q) (h : Ints m1 v l) : Ints (MC m q c) v l := by
  subst hm
  obtain ⟨N', hN'⟩ := set_high (N := N) hq1 (some { cells := c })
  unfold MC
  rw [hN']
  exact h.old _
/-- A turned block of flat cells: what may be let go behind it. -/
theorem MC.cut (hq : q < m.length) (hg : ∀ x ∈ c', g0 x = true) (T X : AM) (hX : ∀ b, some b ∈ X → isMapK b.kind = false ∧ ∀ x ∈ b.cells, g0 x = true) (n j : Nat) (b : Blk) (h : (MC m q c' ++ (T ++ X))[j]? = some (some b)) :
    (j < (MC m q c ++ T).length ∧ (MC m q c ++ T)[j]? = some (some b)) ∨ (isMapK b.kind = false ∧ ∀ x ∈ b.cells, Ren rid n x x) := by
  have e : (MC m q c').length = (MC m q c).length := by rw [MC.len, MC.len]
  rcases Nat.lt_or_ge j (MC m q c').length with hj | hj
  · rw [List.getElem?_append_left hj] at h
    by_cases ej : j = q
    · subst ej
      rw [MC.at hq] at h
      simp only [Option.some.injEq] at h
      subst h
      exact .inr ⟨rfl, fun x hx => Ren.of_g0 (hg x hx)⟩
    · rw [MC.ne ej] at h
      refine .inl ⟨by rw [List.length_append]; omega, ?_⟩
      rw [List.getElem?_append_left (by omega), MC.ne ej]
      exact h
  · rw [List.getElem?_append_right hj] at h
    rcases Nat.lt_or_ge (j - (MC m q c').length) T.length with hj2 | hj2
    · rw [List.getElem?_append_left hj2] at h
      refine .inl ⟨by rw [List.length_append]; omega, ?_⟩
      rw [List.getElem?_append_right (by omega), ← e]
      exact h
    · rw [List.getElem?_append_right hj2] at h
      obtain ⟨h1, h2⟩ := hX b (List.mem_of_getElem? h)
      exact .inr ⟨h1, fun x hx => Ren.of_g0 (h2 x hx)⟩
end
end Go.Proofs.YtibhgdglbillaaaDoor.Abs
namespace Go.Proofs.YtibhgdglbillaaaDoor.Abs
set_option linter.unusedSimpArgs false
set_option linter.unusedVariables false
open Go.RowKit
open Go.Proofs.YtibhgdglbillaaaDoor.Sim
open Go.Proofs
def I64s (t : List Int) : Prop := ∀ i, -9223372036854775808 ≤ t.getD i 0 ∧ t.getD i 0 ≤ 9223372036854775807
end Go.Proofs.YtibhgdglbillaaaDoor.Abs
namespace Go.Proofs.YtibhgdglbillaaaDoor.Abs
set_option linter.unusedSimpArgs false
set_option linter.unusedVariables false
open Go.RowKit
open Go.Proofs.YtibhgdglbillaaaDoor.Sim
open Go.ChangeShapes Go.WideShapes Go.Deep
section
variable {H : Type} {enc : TypeId × Value → H} {P : Program} {w : World} {base : Nat} {spare : Nat → Bool} {held : Bool}
theorem arg_ints64 {r : Reach} {b0 : Nat} {T e : TypeId} {a : Option Addr} {n c : Nat} {d : DataW H} {p : List MemPlace} (ht : P.underlying T = some (.slice e)) (he : P.underlying e = some (.int .i64)) (hce : P.cellsOf e = 1) (hok : Value.okWide P w r b0 T (.slice a n c)) (h : DataW.Trod enc P w base spare held T (.slice a n c) d p) :
    ∃ l : List Int, l.length = n ∧ n ≤ maxLen ∧ Okarg w (.slice a n c, iv l) ∧ (∀ M : AM, ∀ i, M[i]? = some (mkB (.slice a n c, iv l)) → Ints M (mkV i (.slice a n c)) l) ∧ I64s l := by
  obtain ⟨fuel, h⟩ := h
  rcases ok_slice ht hok with ⟨rfl, rfl, rfl⟩ | ⟨b, o, rfl, hle, hlt⟩
  · exact ⟨[], rfl, by unfold maxLen; omega, .inl rfl, fun M i hi => ⟨i, 0, .inl ⟨rfl, rfl⟩, (List.getElem?_eq_some_iff.1 hi).1, fun k hk => by simp at hk⟩, fun i => by simp⟩
  · rcases open_ints ht he hce h with ⟨hcs, _⟩ | ⟨x, l, c', zs, hcs, _, hl, hm, hz, _, hcell, hwf⟩
    · simp [Value.cells] at hcs
    · simp [Value.cells] at hcs
      obtain ⟨rfl, rfl, rfl⟩ := hcs
      have hzl : n ≤ zs.length := by rw [hz]; split <;> omega
      have hlen : (zs.take n).length = n := by simp; omega
      refine ⟨zs.take n, hlen, by omega, .inr ⟨b, o, n, c, rfl, hle, hlt, fun j x hj => ?_, g0_iv _⟩, fun M i hi => ?_, fun i => ?_⟩
      · simp only [iv, List.getElem?_map] at hj
        by_cases hjn : j < n
        · rw [List.getElem?_take, if_pos hjn, List.getElem?_eq_getElem (by omega)] at hj
          simp only [Option.map_some, Option.some.injEq] at hj
          have := hcell j (by omega)
          rw [Addr.add_lit] at this
          rw [this, ← hj]
          simp [show j < zs.length by omega]
        · rw [List.getElem?_take, if_neg hjn] at hj
          cases hj
      · simp only [mkB] at hi
        exact ints_at hi rfl n hlen.symm
      · by_cases hi : i < (zs.take n).length
        · rw [getD_in _ _ hi]
          have := hwf _ (List.mem_of_mem_take (List.getElem_mem hi))
          simp only [Lit.wf, Bool.and_eq_true, decide_eq_true_eq, IntKind.min, IntKind.max, IntKind.signed, IntKind.bits] at this
          simpa using this
        · rw [List.getD_eq_getElem?_getD, List.getElem?_eq_none (by omega)]
          simp
end
end Go.Proofs.YtibhgdglbillaaaDoor.Abs
