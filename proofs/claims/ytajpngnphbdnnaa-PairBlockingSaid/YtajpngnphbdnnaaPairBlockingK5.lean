/- Proved here: what the proof of PairBlocking rests on, part 5 of 5. Conditions: those that each theorem names. -/
import Derived.Test.YtajpngnphbdnnaaPairBlockingK4
namespace Go.Proofs.Ytajpngnphbdnnaa.Abs
set_option linter.unusedSimpArgs false
set_option linter.unusedVariables false
open Go.RowKit
open Go.Proofs.Ytajpngnphbdnnaa.Sim
open Go.Proofs
open Hung
set_option maxRecDepth 100000 in
theorem RBlocking_no {m : AM} {lv rv mv : Value} {u : Ru} {L R : List Gl} {M : List Int} (hl : Gls m lv L) (hr : Gls m rv R) (h1 : L.length ≤ 9223372036854775807) (h2 : R.length ≤ 9223372036854775807) (hM : Ints m mv M) (hMl : M.length ≤ 9223372036854775807) (hok : okB L R u = false) : ACall Try.prog 40 #[lv, rv, u.v, mv] m (Ret (.tuple #[.slice none 0 0, .int .i64 2]) m) := by
  have r0 : ∀ T : AM, RdL (m ++ (some { cells := u.cells } :: T)) (m.length + 0) 0 u.cells := fun T => RdL.new rfl rfl
  have hw : wghR L R u M = (0, 0, 2) := by unfold wghR; rw [if_neg (by rw [hok]; simp)]
  have w2 := fun T => RWeigh_ok (u := u) (hl.old T) (hr.old T) h1 h2 (hM.old T) hMl hw
  refine ACall.start Try.func40 rfl rfl ?_
  (repeat (first | (with_reducible refine AWo.cons ?_) | ((with_reducible refine Step.id ?_); first | ((with_reducible apply Step.move); exact rfl; exact rfl) | ((with_reducible apply Step.assign); exact rfl; exact rfl) | ((with_reducible apply Step.loadL (n := 8)); exact rfl; (focus (decide +kernel)); (focus (decide +kernel)); exact rfl; (focus (exact RdL.new rfl rfl)); exact rfl; exact rfl) | ((with_reducible apply Step.neq); exact rfl; exact rfl; exact rfl) | ((with_reducible apply Step.extract); exact rfl; exact rfl; exact rfl) | ((with_reducible apply Step.callR fit); exact rfl; exact Try.func27; exact rfl; exact rfl; exact (w2 _)) | ((with_reducible apply Step.box 0); exact rfl; exact rfl; (focus (kernel_rfl)); exact rfl; (focus (first | (simp only [List.nil_append, List.cons_append, List.set_cons_zero, List.set_cons_succ, iv_set, bv_set, iv_rep, bv_rep]; done) | (simp only [List.nil_append, List.cons_append, List.set_cons_zero, List.set_cons_succ, iv_set, bv_set, iv_rep, bv_rep]; rfl) | rfl)))) | (with_reducible refine AWo.nil ?_) | ((with_reducible apply AW.seq)) | ((with_reducible apply Then.n)) | ((with_reducible apply AW.regL)) | ((with_reducible apply AW.condT); exact rfl; (focus (rfl)))))
  (refine AW.retD (l := [(8, _), (9, _)]) (by repeat (first | exact trivial | (refine And.intro ⟨rfl, by (first | exact .int _ _ | exact Ren.of_g0 rfl)⟩ ?_))) ?_; (repeat (first | refine Then.r ?_ | refine InBlk.r ?_)))
  exact ⟨_, rfl, rfl, rfl⟩
set_option maxHeartbeats 8000000 in
set_option maxRecDepth 100000 in
theorem RBlocking_ok {m : AM} {lv rv mv : Value} {u : Ru} {L R : List Gl} {M : List Int} (hl : Gls m lv L) (hr : Gls m rv R) (h1 : L.length ≤ 9223372036854775807) (h2 : R.length ≤ 9223372036854775807) (hM : Ints m mv M) (hMl : M.length ≤ 9223372036854775807) (hok : okB L R u = true) :
    ACall Try.prog 40 #[lv, rv, u.v, mv] m (More (fun m' v => ∃ w, v = .tuple #[w, .int .i64 (wgh (cT u L R) L.length R.length M).2.2] ∧ Prs m' w (blk (cT u L R) L.length R.length M)) m) := by
  have r0 : ∀ T : AM, RdL (m ++ (some { cells := u.cells } :: T)) (m.length + 0) 0 u.cells := fun T => RdL.new rfl rfl
  obtain ⟨kk1, kk2, kk3⟩ := okB_iff hok
  obtain ⟨hl32, hr32⟩ := okB_len hok
  have hcs := cT_cs kk3 kk1 kk2
  obtain ⟨la, lo, l1, l2, _⟩ := id hl
  obtain ⟨ra, ro0, r1, r2, _⟩ := id hr
  obtain ⟨s, q, e, hw⟩ : ∃ s q e, wgh (cT u L R) L.length R.length M = (s, q, e) := ⟨_, _, _, rfl⟩
  have hwR : wghR L R u M = (s, q, e) := by unfold wghR; rw [if_pos hok]; exact hw
  have w2 := fun T => RWeigh_ok (u := u) (hl.old T) (hr.old T) h1 h2 (hM.old T) hMl hwR
  unfold blk
  rw [hw]
  refine ACall.start Try.func40 rfl rfl ?_
  by_cases he : e = 0
  · rw [if_pos he]
    subst he
    have hlen : M.length = L.length := by
      unfold wgh at hw
      split at hw
      · injection hw with _ hw; injection hw with _ hw; cases hw
      · omega
    have hval : ∃ tk s q, wgS (cT u L R) R.length M L.length = some (tk, s, q) := by
      unfold wgh at hw
      rw [if_neg (by omega)] at hw
      split at hw
      · exact ⟨_, _, _, by assumption⟩
      · injection hw with _ hw; injection hw with _ hw; cases hw
    obtain ⟨tk, s', q', hval⟩ := hval
    obtain ⟨v1, v2, _⟩ := wgS_val hval
    (repeat (first | (with_reducible refine AWo.cons ?_) | ((with_reducible refine Step.id ?_); first | ((with_reducible apply Step.move); exact rfl; exact rfl) | ((with_reducible apply Step.assign); exact rfl; exact rfl) | ((with_reducible apply Step.loadL (n := 8)); exact rfl; (focus (decide +kernel)); (focus (decide +kernel)); exact rfl; (focus (exact RdL.new rfl rfl)); exact rfl; exact rfl) | ((with_reducible apply Step.neq); exact rfl; exact rfl; exact rfl) | ((with_reducible apply Step.extract); exact rfl; exact rfl; exact rfl) | ((with_reducible apply Step.callR fit); exact rfl; exact Try.func27; exact rfl; exact rfl; exact (w2 _)) | ((with_reducible apply Step.box 0); exact rfl; exact rfl; (focus (kernel_rfl)); exact rfl; (focus (first | (simp only [List.nil_append, List.cons_append, List.set_cons_zero, List.set_cons_succ, iv_set, bv_set, iv_rep, bv_rep]; done) | (simp only [List.nil_append, List.cons_append, List.set_cons_zero, List.set_cons_succ, iv_set, bv_set, iv_rep, bv_rep]; rfl) | rfl)))) | (with_reducible refine AWo.nil ?_) | ((with_reducible apply AW.seq)) | ((with_reducible apply Then.n)) | ((with_reducible apply AW.regL)) | ((with_reducible apply AW.skip)) | ((with_reducible apply AW.condF); exact rfl; (focus (rfl)))))
    ((with_reducible apply Step.callX fit); exact rfl; exact Try.func59; exact rfl; exact rfl; exact (table_ok (hl.old _) (hr.old _) kk1 kk2 kk3))
    rintro cv m1 ⟨N0, hN0⟩ hT
    have hMN : ∃ N, m1 = m ++ N := ⟨_, by rw [hN0, List.append_assoc]⟩
    have hM1 : Ints m1 mv M := by rw [hN0]; exact (hM.old _).old _
    have hml : m.length ≤ m1.length := by rw [hN0]; simp only [List.length_append]; omega
    have wl : Low m1.length lv := Low.of_sl l1 (by omega)
    have wr : Low m1.length rv := Low.of_sl r1 (by omega)
    clear hN0 hl hr
    generalize cT u L R = c at *
    obtain ⟨cb, co, c1, c2, c3⟩ := id hT
    have wc : Low m1.length cv := Low.of_sl c1 c2
    rw [← hlen] at l1 c1 c3 hval v1 v2 hT ⊢
    generalize R.length = r at *
    obtain ⟨ma, mo, g1, g2, g3⟩ := id hM1
    have wm : Low m1.length mv := Low.of_sl g1 g2
    have hpos : 0 < m1.length := by omega
    (repeat (first | (with_reducible refine AWo.cons ?_) | ((with_reducible refine Step.id ?_); first | ((with_reducible apply Step.move); exact rfl; exact rfl) | ((with_reducible apply Step.assign); exact rfl; exact rfl) | ((with_reducible apply Step.len); exact rfl; (focus (assumption)); (focus (decide +kernel)); exact rfl)) | (with_reducible refine AWo.nil ?_) | ((with_reducible apply AW.seq)) | ((with_reducible apply Then.n)) | ((with_reducible apply AW.regL)) | ((with_reducible apply AW.block))))
    rw [List.append_nil]
    refine AW.rebase ?_
    refine AW.loopT (fun rk t L' => ∃ i : Nat, rk = M.length - i ∧ i ≤ M.length ∧ L' = [gb (prC (bkR (bkB c M) r i)) 2] ∧ t = [(0, lv), (1, rv), (3, mv), (13, cv), (14, gv (m1.length + 0) (bkR (bkB c M) r i).length), (37, .int .i64 (M.length : Nat)), (38, .int .i64 (i : Nat))])
      ⟨_, _, _, Back.pad (by repeat (first | exact trivial | (refine And.intro ⟨rfl, by (first | exact Low.rid (by assumption) (by simp) | exact .int _ _ | exact Ren.of_gv (by first | (simp; done) | omega | (simp; omega)))⟩ ?_))) CellsOk.nil, 0, rfl, Nat.zero_le _, rfl, rfl⟩ ?_
    rintro rk t L' ⟨i, rfl, hi, rfl, rfl⟩
    rcases Nat.lt_or_ge i M.length with hil | hig
    · obtain ⟨w, k1, rb, ro, w1, w2, w3⟩ := c3 i hil
      have hIw : Ints m1 w (tab (c i) r) := ⟨rb, ro, w1, w2, w3⟩
      rw [tab_len] at w1 w3
      have qm := g3 i hil
      have vmi := v1 i hil
      have hbi := bkR_len (bkB c M) r i
      obtain ⟨X0, hX0⟩ : ∃ X0, bkR (bkB c M) r i = X0 := ⟨_, rfl⟩
      rw [hX0] at hbi ⊢
      have hX1 : bkR (bkB c M) r (i + 1) = X0 ++ bkJ (bkB c M) i r := by rw [← hX0]; rfl
      have hbd : X0.length ≤ 1024 := Nat.le_trans hbi (Nat.le_trans (Nat.mul_le_mul (show i ≤ 32 by omega) (show r ≤ 32 by omega)) (by omega))
      obtain ⟨x, hx⟩ : ∃ x, M.getD i 0 = x := ⟨_, rfl⟩
      rw [hx] at qm vmi
      have hxr : x < (r : Nat) := by rcases vmi with h | ⟨j0, h, h', _⟩ <;> omega
      have hbk : ∀ j, bkB c M i j = (decide (x ≠ ((j : Nat) : Int)) && (prf (c i j) j (vI (c i) x) x && prf (c i j) i (vJ c j (ptn M j)) (ptn M j))) := fun j => by unfold bkB; rw [hx]
      clear vmi
      (repeat (first | (with_reducible refine AWo.cons ?_) | ((with_reducible refine Step.id ?_); first | ((with_reducible apply Step.move); exact rfl; exact rfl) | ((with_reducible apply Step.assign); exact rfl; exact rfl) | ((with_reducible apply Step.lss); exact rfl; exact rfl; exact rfl) | ((with_reducible apply Step.len); exact rfl; (focus (assumption)); (focus (decide +kernel)); exact rfl)) | (with_reducible refine AWo.nil ?_) | ((with_reducible apply AW.seq)) | ((with_reducible apply Then.n)) | ((with_reducible apply AW.regL)) | ((with_reducible apply AW.block)) | ((with_reducible apply AW.skip)) | ((with_reducible apply AW.condT); exact rfl; (focus ((simp only [decide_eq_true_eq, decide_eq_false_iff_not, Bool.not_eq_true', Bool.not_eq_false', Bool.not_true, Bool.not_false]; first | assumption | omega))))))
      refine AW.loopT (fun rk t L' => ∃ j : Nat, rk = r - j ∧ j ≤ r ∧ L' = [gb (prC (X0 ++ bkJ (bkB c M) i j)) 2] ∧ t = [(0, lv), (1, rv), (3, mv), (13, cv), (14, gv (m1.length + 0) (X0 ++ bkJ (bkB c M) i j).length), (15, .int .i64 (i : Nat)), (37, .int .i64 (M.length : Nat)), (38, .int .i64 (i : Nat)), (42, .int .i64 (r : Nat)), (43, .int .i64 (j : Nat))])
        ⟨_, [(0, lv), (1, rv), (3, mv), (13, cv), (14, gv (m1.length + 0) X0.length), (15, .int .i64 (i : Nat)), (37, .int .i64 (M.length : Nat)), (38, .int .i64 (i : Nat)), (42, .int .i64 (r : Nat)), (43, .int .i64 ((0 : Nat) : Int))], [gb (prC X0) 2], (Or.inl ⟨rfl, (by repeat (first | exact trivial | (refine And.intro rfl ?_)))⟩), 0, rfl, Nat.zero_le _, by rw [bkJ, List.append_nil], by rw [bkJ, List.append_nil]⟩ ?_
      rintro rk t L' ⟨j, rfl, hj, rfl, rfl⟩
      rcases Nat.lt_or_ge j r with hjr | hjg
      · have hj1 : bkJ (bkB c M) i (j + 1) = bkJ (bkB c M) i j ++ if bkB c M i j = true then [(i, j)] else [] := rfl
        rw [hbk j] at hj1
        have hbj := bkJ_len (bkB c M) i j
        obtain ⟨X1, hX1'⟩ : ∃ X1, X0 ++ bkJ (bkB c M) i j = X1 := ⟨_, rfl⟩
        have hX2 : X0 ++ bkJ (bkB c M) i (j + 1) = X1 ++ if (decide (x ≠ ((j : Nat) : Int)) && (prf (c i j) j (vI (c i) x) x && prf (c i j) i (vJ c j (ptn M j)) (ptn M j))) = true then [(i, j)] else [] := by rw [hj1, ← List.append_assoc, hX1']
        have hbx : X1.length ≤ 2048 := by rw [← hX1', List.length_append]; omega
        rw [hX1']
        clear hj1
        (repeat (first | (with_reducible refine AWo.cons ?_) | ((with_reducible refine Step.id ?_); first | ((with_reducible apply Step.move); exact rfl; exact rfl) | ((with_reducible apply Step.assign); exact rfl; exact rfl) | ((with_reducible apply Step.lss); exact rfl; exact rfl; exact rfl) | ((with_reducible apply Step.len); exact rfl; (focus (assumption)); (focus (decide +kernel)); exact rfl)) | (with_reducible refine AWo.nil ?_) | ((with_reducible apply AW.seq)) | ((with_reducible apply Then.n)) | ((with_reducible apply AW.regL)) | ((with_reducible apply AW.block)) | ((with_reducible apply AW.skip)) | ((with_reducible apply AW.condT); exact rfl; (focus ((simp only [decide_eq_true_eq, decide_eq_false_iff_not, Bool.not_eq_true', Bool.not_eq_false', Bool.not_true, Bool.not_false]; first | assumption | omega))))))
        refine AW.loopT (fun rk t L' => ∃ (k : Nat) (pt : Int), rk = M.length - k ∧ k ≤ M.length ∧ ((pt = -1 ∧ ∀ i, i < k → M.getD i 0 ≠ ((j : Nat) : Int)) ∨ ∃ i, i < k ∧ pt = ((i : Nat) : Int) ∧ M.getD i 0 = ((j : Nat) : Int)) ∧ L' = [gb (prC X1) 2] ∧ t = [(0, lv), (1, rv), (3, mv), (13, cv), (14, gv (m1.length + 0) X1.length), (15, .int .i64 (i : Nat)), (16, .int .i64 (j : Nat)), (17, .int .i64 pt), (37, .int .i64 (M.length : Nat)), (38, .int .i64 (i : Nat)), (42, .int .i64 (r : Nat)), (43, .int .i64 (j : Nat)), (46, mv), (47, .int .i64 (M.length : Nat)), (48, .int .i64 (k : Nat))])
          ⟨_, _, [gb (prC X1) 2], (Or.inl ⟨rfl, (by repeat (first | exact trivial | (refine And.intro rfl ?_)))⟩), 0, -1, rfl, Nat.zero_le _, .inl ⟨rfl, fun _ h => absurd h (Nat.not_lt_zero _)⟩, rfl, rfl⟩ ?_
        rintro rk t L' ⟨k, pt, rfl, hk, hpt, rfl, rfl⟩
        rcases Nat.lt_or_ge k M.length with hkl | hkg
        · have qk := g3 k hkl
          by_cases hkj : M.getD k 0 = ((j : Nat) : Int)
          · rw [hkj] at qk
            (repeat (first | (with_reducible refine AWo.cons ?_) | ((with_reducible refine Step.id ?_); first | ((with_reducible apply Step.move); exact rfl; exact rfl) | ((with_reducible apply Step.assign); exact rfl; exact rfl) | ((with_reducible apply Step.load); exact rfl; (focus (decide +kernel)); exact rfl; (focus (exact qk.old _))) | ((with_reducible apply Step.ix1); exact rfl; (focus (assumption)); exact rfl; (focus (decide +kernel)); exact rfl; (focus (omega))) | ((with_reducible apply Step.add); exact rfl; exact rfl; (focus (omega)); exact rfl) | ((with_reducible apply Step.lss); exact rfl; exact rfl; exact rfl) | ((with_reducible apply Step.eql); exact rfl; exact rfl; exact rfl)) | (with_reducible refine AWo.nil ?_) | ((with_reducible apply AW.seq)) | ((with_reducible apply Then.n)) | ((with_reducible apply AW.regL)) | ((with_reducible apply AW.block)) | ((with_reducible apply InBlk.n)) | ((with_reducible apply AW.skip)) | ((with_reducible apply AW.condT); exact rfl; (focus (first | (simp only [decide_eq_true_eq, decide_eq_false_iff_not, Bool.not_eq_true', Bool.not_eq_false', Bool.not_true, Bool.not_false]; first | assumption | omega) | (simp; done))))))
            exact ⟨_, _, [gb (prC X1) 2], by omega, (Or.inl ⟨rfl, (by repeat (first | exact trivial | (refine And.intro rfl ?_)))⟩), k + 1, (k : Nat), rfl, by omega, .inr ⟨k, by omega, rfl, hkj⟩, rfl, rfl⟩
          · have hpt' : (pt = -1 ∧ ∀ i, i < k + 1 → M.getD i 0 ≠ ((j : Nat) : Int)) ∨ ∃ i, i < k + 1 ∧ pt = ((i : Nat) : Int) ∧ M.getD i 0 = ((j : Nat) : Int) := by
              rcases hpt with ⟨p1, p2⟩ | ⟨i', p1, p2, p3⟩
              · refine .inl ⟨p1, fun i' hi' => ?_⟩
                by_cases e : i' = k
                · subst e; exact hkj
                · exact p2 i' (by omega)
              · exact .inr ⟨i', by omega, p2, p3⟩
            generalize M.getD k 0 = y at *
            (repeat (first | (with_reducible refine AWo.cons ?_) | ((with_reducible refine Step.id ?_); first | ((with_reducible apply Step.move); exact rfl; exact rfl) | ((with_reducible apply Step.assign); exact rfl; exact rfl) | ((with_reducible apply Step.load); exact rfl; (focus (decide +kernel)); exact rfl; (focus (exact qk.old _))) | ((with_reducible apply Step.ix1); exact rfl; (focus (assumption)); exact rfl; (focus (decide +kernel)); exact rfl; (focus (omega))) | ((with_reducible apply Step.add); exact rfl; exact rfl; (focus (omega)); exact rfl) | ((with_reducible apply Step.lss); exact rfl; exact rfl; exact rfl) | ((with_reducible apply Step.eql); exact rfl; exact rfl; exact rfl)) | (with_reducible refine AWo.nil ?_) | ((with_reducible apply AW.seq)) | ((with_reducible apply Then.n)) | ((with_reducible apply AW.regL)) | ((with_reducible apply AW.block)) | ((with_reducible apply InBlk.n)) | ((with_reducible apply AW.skip)) | ((with_reducible apply AW.condT); exact rfl; (focus ((simp only [decide_eq_true_eq, decide_eq_false_iff_not, Bool.not_eq_true', Bool.not_eq_false', Bool.not_true, Bool.not_false]; first | assumption | omega)))) | ((with_reducible apply AW.condF); exact rfl; (focus ((simp only [decide_eq_true_eq, decide_eq_false_iff_not, Bool.not_eq_true', Bool.not_eq_false', Bool.not_true, Bool.not_false]; first | assumption | omega))))))
            exact ⟨_, _, [gb (prC X1) 2], by omega, (Or.inl ⟨rfl, (by repeat (first | exact trivial | (refine And.intro rfl ?_)))⟩), k + 1, pt, rfl, by omega, hpt', rfl, rfl⟩
        · obtain rfl : k = M.length := by omega
          obtain rfl : pt = ptn M j := by
            unfold ptn
            rcases hpt with ⟨p1, p2⟩ | ⟨i', p1, p2, p3⟩
            · rw [idxF_miss fun i hi => decide_eq_false (p2 i hi)]; exact p1
            · rw [idxF_hit (pr := fun k => decide (M.getD k 0 = ((j : Nat) : Int))) p1 (fun i hi => decide_eq_false fun h => ?_) (decide_eq_true p3)]
              · exact p2
              · have := v2 i i' (by omega) p1 (by omega) (by rw [h, p3]); omega
          have hpb := idxF_bd (fun k => decide (M.getD k 0 = ((j : Nat) : Int))) M.length
          have hptn : idxF (fun k => decide (M.getD k 0 = ((j : Nat) : Int))) M.length = ptn M j := rfl
          rw [hptn] at hpb
          generalize ptn M j = pt at *
          have hp1 := fun T => rather_ok (k := x) (hIw.old T) hjr hxr
          have hcol := fun T => column_ok (hT.old T) hjr (by omega)
          have hp2 : ∀ T, ACall Try.prog 72 #[gv (m1.length + 1) M.length, .int .i64 (i : Nat), .int .i64 pt] (m1 ++ (gb (prC X1) 2 :: gb (iv (tab (fun i => c i j) M.length)) 1 :: T)) (Ret (.bool (prf (c i j) i (vJ c j pt) pt)) (m1 ++ (gb (prC X1) 2 :: gb (iv (tab (fun i => c i j) M.length)) 1 :: T))) := fun T => by
            have := rather_ok (m := m1 ++ (gb (prC X1) 2 :: gb (iv (tab (fun i => c i j) M.length)) 1 :: T)) (v := gv (m1.length + 1) M.length) (c := fun i => c i j) (n := M.length) (j := i) (k := pt) (ints_gb (k := 1) rfl (by rw [tab_len]) (by simp only [List.length_append]; omega)) hil (by omega)
            exact this
          by_cases hxj : x = ((j : Nat) : Int)
          · rw [if_neg (by rw [decide_eq_false (by simpa using hxj)]; simp), List.append_nil] at hX2
            (repeat (first | (with_reducible refine AWo.cons ?_) | ((with_reducible refine Step.id ?_); first | ((with_reducible apply Step.gdF); exact rfl; exact rfl; (focus (first | rfl | (simp only [decide_eq_true_eq, decide_eq_false_iff_not, Bool.not_eq_true', Bool.not_eq_false', Bool.not_true, Bool.not_false]; first | assumption | omega)))) | ((with_reducible apply Step.move); exact rfl; exact rfl) | ((with_reducible apply Step.load); exact rfl; (focus (decide +kernel)); exact rfl; (focus (exact qm.old _))) | ((with_reducible apply Step.ix1); exact rfl; (focus (assumption)); exact rfl; (focus (decide +kernel)); exact rfl; (focus (omega))) | ((with_reducible apply Step.add); exact rfl; exact rfl; (focus (omega)); exact rfl) | ((with_reducible apply Step.lss); exact rfl; exact rfl; exact rfl) | ((with_reducible apply Step.neq); exact rfl; exact rfl; exact rfl) | ((with_reducible apply Step.pickF); exact rfl; exact rfl; exact rfl; exact rfl; (focus (first | rfl | (simp only [decide_eq_true_eq, decide_eq_false_iff_not, Bool.not_eq_true', Bool.not_eq_false', Bool.not_true, Bool.not_false]; first | assumption | omega))))) | (with_reducible refine AWo.nil ?_) | ((with_reducible apply AW.seq)) | ((with_reducible apply Then.n)) | ((with_reducible apply AW.regL)) | ((with_reducible apply AW.drawT fit (T := (.step 0 (.step 1 (.step 2 (.step 3 (.step 4 (.step 5 (.step 6 (.step 7 (.step 8 (.step 9 (.step 10 (.step 11 (.step 12 (.step 13 (.step 14 (.step 15 (.step 16 (.step 17 (.step 18 (.step 19 (.step 20 (.step 22 (.step 23 (.step 21 (.step 24 (.step 25 .done)))))))))))))))))))))))))))); (focus (decide +kernel))) | ((with_reducible apply AWt.step); exact rfl) | ((with_reducible apply AWt.done)) | ((with_reducible apply AW.exit)) | ((with_reducible apply InBlk.n)) | ((with_reducible apply InBlk.hit)) | ((with_reducible apply Then.e)) | ((with_reducible apply AW.skip)) | ((with_reducible apply AW.condF); exact rfl; (focus (first | rfl | (simp only [decide_eq_true_eq, decide_eq_false_iff_not, Bool.not_eq_true', Bool.not_eq_false', Bool.not_true, Bool.not_false]; first | assumption | omega))))))
            exact ⟨_, [(0, lv), (1, rv), (3, mv), (13, cv), (14, gv (m1.length + 0) X1.length), (15, .int .i64 (i : Nat)), (37, .int .i64 (M.length : Nat)), (38, .int .i64 (i : Nat)), (42, .int .i64 (r : Nat)), (43, .int .i64 ((j + 1 : Nat) : Int))], [gb (prC X1) 2], by omega, (Or.inl ⟨rfl, (by repeat (first | exact trivial | (refine And.intro rfl ?_)))⟩), j + 1, rfl, by omega, by rw [hX2], by rw [hX2]⟩
          · cases b1 : prf (c i j) j (vI (c i) x) x with
            | false =>
              rw [b1] at hp1
              rw [b1, if_neg (by simp), List.append_nil] at hX2
              (repeat (first | (with_reducible refine AWo.cons ?_) | ((with_reducible refine Step.id ?_); first | ((with_reducible apply Step.gdT); exact rfl; exact rfl; (focus ((simp only [decide_eq_true_eq, decide_eq_false_iff_not, Bool.not_eq_true', Bool.not_eq_false', Bool.not_true, Bool.not_false]; first | assumption | omega)))) | ((with_reducible apply Step.gdF); exact rfl; exact rfl; (focus (rfl))) | ((with_reducible apply Step.move); exact rfl; exact rfl) | ((with_reducible apply Step.load); exact rfl; (focus (decide +kernel)); exact rfl; (focus (first | exact qm.old _ | exact k1.old _))) | ((with_reducible apply Step.ix1); exact rfl; (focus (assumption)); exact rfl; (focus (decide +kernel)); exact rfl; (focus (omega))) | ((with_reducible apply Step.add); exact rfl; exact rfl; (focus (omega)); exact rfl) | ((with_reducible apply Step.lss); exact rfl; exact rfl; exact rfl) | ((with_reducible apply Step.neq); exact rfl; exact rfl; exact rfl) | ((with_reducible apply Step.pickT); exact rfl; exact rfl; exact rfl; exact rfl; (focus ((simp only [decide_eq_true_eq, decide_eq_false_iff_not, Bool.not_eq_true', Bool.not_eq_false', Bool.not_true, Bool.not_false]; first | assumption | omega)))) | ((with_reducible apply Step.pickF); exact rfl; exact rfl; exact rfl; exact rfl; (focus (rfl))) | ((with_reducible apply Step.callR fit); exact rfl; exact Try.func72; exact rfl; exact rfl; exact (hp1 _))) | (with_reducible refine AWo.nil ?_) | ((with_reducible apply AW.seq)) | ((with_reducible apply Then.n)) | ((with_reducible apply AW.regL)) | ((with_reducible apply AW.drawT fit (T := (.step 0 (.step 1 (.step 2 (.step 3 (.step 4 (.step 5 (.step 6 (.step 7 (.step 8 (.step 9 (.step 10 (.step 11 (.step 12 (.step 13 (.step 14 (.step 15 (.step 16 (.step 17 (.step 18 (.step 19 (.step 20 (.step 22 (.step 23 (.step 21 (.step 24 (.step 25 .done)))))))))))))))))))))))))))); (focus (decide +kernel))) | ((with_reducible apply AWt.step); exact rfl) | ((with_reducible apply AWt.done)) | ((with_reducible apply AW.exit)) | ((with_reducible apply InBlk.n)) | ((with_reducible apply InBlk.hit)) | ((with_reducible apply Then.e)) | ((with_reducible apply AW.skip)) | ((with_reducible apply AW.condF); exact rfl; (focus (first | rfl | (simp only [decide_eq_true_eq, decide_eq_false_iff_not, Bool.not_eq_true', Bool.not_eq_false', Bool.not_true, Bool.not_false]; first | assumption | omega))))))
              exact ⟨_, [(0, lv), (1, rv), (3, mv), (13, cv), (14, gv (m1.length + 0) X1.length), (15, .int .i64 (i : Nat)), (37, .int .i64 (M.length : Nat)), (38, .int .i64 (i : Nat)), (42, .int .i64 (r : Nat)), (43, .int .i64 ((j + 1 : Nat) : Int))], [gb (prC X1) 2], by omega, (Or.inl ⟨rfl, (by repeat (first | exact trivial | (refine And.intro rfl ?_)))⟩), j + 1, rfl, by omega, by rw [hX2], by rw [hX2]⟩
            | true =>
              have hg1 := g0_prC X1
              cases b2 : prf (c i j) i (vJ c j pt) pt with
              | false =>
                rw [b1] at hp1
                rw [b2] at hp2
                rw [b1, b2, if_neg (by simp), List.append_nil] at hX2
                (repeat (first | (with_reducible refine AWo.cons ?_) | ((with_reducible refine Step.id ?_); first | ((with_reducible apply Step.gdT); exact rfl; exact rfl; (focus (first | rfl | (simp only [decide_eq_true_eq, decide_eq_false_iff_not, Bool.not_eq_true', Bool.not_eq_false', Bool.not_true, Bool.not_false]; first | assumption | omega)))) | ((with_reducible apply Step.move); exact rfl; exact rfl) | ((with_reducible apply Step.load); exact rfl; (focus (decide +kernel)); exact rfl; (focus (first | exact qm.old _ | exact k1.old _))) | ((with_reducible apply Step.ix1); exact rfl; (focus (assumption)); exact rfl; (focus (decide +kernel)); exact rfl; (focus (omega))) | ((with_reducible apply Step.add); exact rfl; exact rfl; (focus (omega)); exact rfl) | ((with_reducible apply Step.lss); exact rfl; exact rfl; exact rfl) | ((with_reducible apply Step.neq); exact rfl; exact rfl; exact rfl) | ((with_reducible apply Step.pickT); exact rfl; exact rfl; exact rfl; exact rfl; (focus (first | rfl | (simp only [decide_eq_true_eq, decide_eq_false_iff_not, Bool.not_eq_true', Bool.not_eq_false', Bool.not_true, Bool.not_false]; first | assumption | omega)))) | ((with_reducible apply Step.callR fit); exact rfl; exact Try.func72; exact rfl; exact rfl; exact (hp1 _)) | ((with_reducible apply Step.callG fit (k := 1)); exact rfl; exact rfl; exact Try.func73; exact rfl; exact rfl; exact (hcol _); (focus (first | (simp only [List.nil_append, List.cons_append, List.set_cons_zero, List.set_cons_succ, iv_set, bv_set, iv_rep, bv_rep]; done) | (simp only [List.nil_append, List.cons_append, List.set_cons_zero, List.set_cons_succ, iv_set, bv_set, iv_rep, bv_rep]; rfl) | rfl))) | ((with_reducible apply Step.callR fit); exact rfl; exact Try.func72; exact rfl; exact rfl; exact (hp2 _))) | (with_reducible refine AWo.nil ?_) | ((with_reducible apply AW.seq)) | ((with_reducible apply Then.n)) | ((with_reducible apply AW.regL)) | ((with_reducible apply AW.drawT fit (T := (.step 0 (.step 1 (.step 2 (.step 3 (.step 4 (.step 5 (.step 6 (.step 7 (.step 8 (.step 9 (.step 10 (.step 11 (.step 12 (.step 13 (.step 14 (.step 15 (.step 16 (.step 17 (.step 18 (.step 19 (.step 20 (.step 22 (.step 23 (.step 21 (.step 24 (.step 25 .done)))))))))))))))))))))))))))); (focus (decide +kernel))) | ((with_reducible apply AWt.step); exact rfl) | ((with_reducible apply AWt.done)) | ((with_reducible apply AW.exit)) | ((with_reducible apply InBlk.n)) | ((with_reducible apply InBlk.hit)) | ((with_reducible apply Then.e)) | ((with_reducible apply AW.skip)) | ((with_reducible apply AW.condF); exact rfl; (focus (first | rfl | (simp only [decide_eq_true_eq, decide_eq_false_iff_not, Bool.not_eq_true', Bool.not_eq_false', Bool.not_true, Bool.not_false]; first | assumption | omega))))))
                exact ⟨_, [(0, lv), (1, rv), (3, mv), (13, cv), (14, gv (m1.length + 0) X1.length), (15, .int .i64 (i : Nat)), (37, .int .i64 (M.length : Nat)), (38, .int .i64 (i : Nat)), (42, .int .i64 (r : Nat)), (43, .int .i64 ((j + 1 : Nat) : Int))], [gb (prC X1) 2], by omega, (Back.trim rfl rfl (by repeat (first | exact CellsOk.nil | refine CellsOk.gb (by assumption) ?_)) (by repeat (first | exact trivial | (refine And.intro ⟨rfl, by (first | exact Low.rid (by assumption) (by simp) | exact .int _ _ | exact Ren.of_gv (by first | (simp; done) | omega | (simp; omega)))⟩ ?_)))), j + 1, rfl, by omega, by rw [hX2], by rw [hX2]⟩
              | true =>
                rw [b1] at hp1
                rw [b2] at hp2
                rw [b1, b2, if_pos (by simpa using hxj)] at hX2
                have hln := prC_len X1
                have hg0 : ∀ v ∈ prC X1 ++ [Value.int .i64 ((i : Nat) : Int), Value.int .i64 ((j : Nat) : Int)], g0 v = true := fun v hv => by
                  rcases List.mem_append.1 hv with h | h
                  · exact g0_prC _ v h
                  · simp at h
                    rcases h with rfl | rfl <;> rfl
                (repeat (first | (with_reducible refine AWo.cons ?_) | ((with_reducible refine Step.id ?_); first | ((with_reducible apply Step.gdT); exact rfl; exact rfl; (focus (first | rfl | (simp only [decide_eq_true_eq, decide_eq_false_iff_not, Bool.not_eq_true', Bool.not_eq_false', Bool.not_true, Bool.not_false]; first | assumption | omega)))) | ((with_reducible apply Step.move); exact rfl; exact rfl) | ((with_reducible apply Step.load); exact rfl; (focus (decide +kernel)); exact rfl; (focus (first | exact qm.old _ | exact k1.old _))) | ((with_reducible apply Step.ix1); exact rfl; (focus (assumption)); exact rfl; (focus (decide +kernel)); exact rfl; (focus (omega))) | ((with_reducible apply Step.lss); exact rfl; exact rfl; exact rfl) | ((with_reducible apply Step.neq); exact rfl; exact rfl; exact rfl) | ((with_reducible apply Step.pickT); exact rfl; exact rfl; exact rfl; exact rfl; (focus (first | rfl | (simp only [decide_eq_true_eq, decide_eq_false_iff_not, Bool.not_eq_true', Bool.not_eq_false', Bool.not_true, Bool.not_false]; first | assumption | omega)))) | ((with_reducible apply Step.callR fit); exact rfl; exact Try.func72; exact rfl; exact rfl; exact (hp1 _)) | ((with_reducible apply Step.callG fit (k := 1)); exact rfl; exact rfl; exact Try.func73; exact rfl; exact rfl; exact (hcol _); (focus (first | (simp only [List.nil_append, List.cons_append, List.set_cons_zero, List.set_cons_succ, iv_set, bv_set, iv_rep, bv_rep]; done) | (simp only [List.nil_append, List.cons_append, List.set_cons_zero, List.set_cons_succ, iv_set, bv_set, iv_rep, bv_rep]; rfl) | rfl))) | ((with_reducible apply Step.callR fit); exact rfl; exact Try.func72; exact rfl; exact rfl; exact (hp2 _)) | ((with_reducible apply Step.buildS 2); exact rfl; exact rfl; exact (fun _ _ => bs62); exact rfl; (focus (first | (simp only [List.nil_append, List.cons_append, List.set_cons_zero, List.set_cons_succ, iv_set, bv_set, iv_rep, bv_rep]; done) | (simp only [List.nil_append, List.cons_append, List.set_cons_zero, List.set_cons_succ, iv_set, bv_set, iv_rep, bv_rep]; rfl) | rfl))) | ((with_reducible apply Step.build); exact rfl; exact bl67; exact rfl)) | (with_reducible refine AWo.nil ?_) | ((with_reducible apply AW.seq)) | ((with_reducible apply Then.n)) | ((with_reducible apply AW.regL)) | ((with_reducible apply AW.drawT fit (T := (.step 0 (.step 1 (.step 2 (.step 3 (.step 4 (.step 5 (.step 6 (.step 7 (.step 8 (.step 9 (.step 10 (.step 11 (.step 12 (.step 13 (.step 14 (.step 15 (.step 16 (.step 17 (.step 18 (.step 19 (.step 20 (.step 22 (.step 23 (.step 21 (.step 24 (.step 25 .done)))))))))))))))))))))))))))); (focus (decide +kernel))) | ((with_reducible apply AWt.step); exact rfl) | ((with_reducible apply AWt.done)) | ((with_reducible apply AW.exit)) | ((with_reducible apply InBlk.hit)) | ((with_reducible apply Then.e)) | ((with_reducible apply AW.condT); exact rfl; (focus (rfl))) | ((with_reducible apply AW.condF); exact rfl; (focus ((simp only [decide_eq_true_eq, decide_eq_false_iff_not, Bool.not_eq_true', Bool.not_eq_false', Bool.not_true, Bool.not_false]; first | assumption | omega))))))
                ((with_reducible apply Step.appG (k := 3)); exact rfl; exact rfl; exact rfl; exact el62; exact un62; exact rfl; exact rfl; exact rfl; exact hln; exact rfl; exact rfl; exact rfl; (focus (omega)); exact rfl; (focus (first | (simp only [List.nil_append, List.cons_append, List.set_cons_zero, List.set_cons_succ, iv_set, bv_set, iv_rep, bv_rep]; done) | (simp only [List.nil_append, List.cons_append, List.set_cons_zero, List.set_cons_succ, iv_set, bv_set, iv_rep, bv_rep]; rfl) | rfl)))
                (repeat (first | (with_reducible refine AWo.cons ?_) | ((with_reducible refine Step.id ?_); first | ((with_reducible apply Step.move); exact rfl; exact rfl) | ((with_reducible apply Step.assign); exact rfl; exact rfl) | ((with_reducible apply Step.add); exact rfl; exact rfl; (focus (omega)); exact rfl)) | (with_reducible refine AWo.nil ?_) | ((with_reducible apply Then.n)) | ((with_reducible apply AW.regL)) | ((with_reducible apply InBlk.n))))
                refine ⟨_, [(0, lv), (1, rv), (3, mv), (13, cv), (14, .slice (some ⟨m1.length + 0, 0, none⟩) (X1.length + 1) (X1.length + 1)), (15, .int .i64 (i : Nat)), (37, .int .i64 (M.length : Nat)), (38, .int .i64 (i : Nat)), (42, .int .i64 (r : Nat)), (43, .int .i64 ((j + 1 : Nat) : Int))], [some { cells := prC X1 ++ [.int .i64 (i : Nat), .int .i64 (j : Nat)], kind := .grow, size := 2 }], by omega, (Back.mv 0 3 rfl rfl rfl rfl (by intro j b hj h; rcases j with _ | _ | _ | _ | _ | _ | j <;> simp_all) (by repeat (first | exact CellsOk.nil | refine CellsOk.cons (by assumption) ?_)) (by repeat (first | exact trivial | (refine And.intro ⟨_, rfl, by (first | exact Low.ne (by assumption) (by simp) | exact .int _ _ | exact Ren.slice_mv (by first | (simp; done) | omega | (simp; omega)))⟩ ?_)))), j + 1, rfl, by omega, ?_, ?_⟩
                · rw [hX2, prC_snoc, gb_pos (by simp)]
                · rw [hX2, gv_pos (by simp), List.length_append]; rfl
      · obtain rfl : j = r := by omega
        (repeat (first | (with_reducible refine AWo.cons ?_) | ((with_reducible refine Step.id ?_); first | ((with_reducible apply Step.move); exact rfl; exact rfl) | ((with_reducible apply Step.add); exact rfl; exact rfl; (focus (omega)); exact rfl) | ((with_reducible apply Step.lss); exact rfl; exact rfl; exact rfl)) | (with_reducible refine AWo.nil ?_) | ((with_reducible apply AW.seq)) | ((with_reducible apply Then.n)) | ((with_reducible apply AW.regL)) | ((with_reducible apply AW.exit)) | ((with_reducible apply InBlk.n)) | ((with_reducible apply InBlk.hit)) | ((with_reducible apply Then.e)) | ((with_reducible apply AW.condF); exact rfl; (focus ((simp only [decide_eq_true_eq, decide_eq_false_iff_not, Bool.not_eq_true', Bool.not_eq_false', Bool.not_true, Bool.not_false]; first | assumption | omega))))))
        exact ⟨_, [(0, lv), (1, rv), (3, mv), (13, cv), (14, gv (m1.length + 0) (X0 ++ bkJ (bkB c M) i j).length), (37, .int .i64 (M.length : Nat)), (38, .int .i64 ((i + 1 : Nat) : Int))], [gb (prC (X0 ++ bkJ (bkB c M) i j)) 2], by omega, (Or.inl ⟨rfl, (by repeat (first | exact trivial | (refine And.intro rfl ?_)))⟩), i + 1, rfl, by omega, by rw [hX1], by rw [hX1]⟩
    · obtain rfl : i = M.length := by omega
      (repeat (first | (with_reducible refine AWo.cons ?_) | ((with_reducible refine Step.id ?_); first | ((with_reducible apply Step.move); exact rfl; exact rfl) | ((with_reducible apply Step.assign); exact rfl; exact rfl) | ((with_reducible apply Step.lss); exact rfl; exact rfl; exact rfl)) | (with_reducible refine AWo.nil ?_) | ((with_reducible apply AW.seq)) | ((with_reducible apply Then.n)) | ((with_reducible apply AW.regL)) | ((with_reducible apply AW.exit)) | ((with_reducible apply InBlk.hit)) | ((with_reducible apply Then.e)) | ((with_reducible apply AW.condF); exact rfl; (focus ((simp only [decide_eq_true_eq, decide_eq_false_iff_not, Bool.not_eq_true', Bool.not_eq_false', Bool.not_true, Bool.not_false]; first | assumption | omega))))))
      (refine AW.ret ?_; (repeat (first | refine Then.r ?_ | refine InBlk.r ?_)))
      obtain ⟨N, rfl⟩ := hMN
      exact ⟨_, rfl, _, by rw [List.append_assoc], _, rfl, prs_new (k := 0) rfl (by simp) rfl⟩
  · rw [if_neg he]
    have hpos : 0 < m.length := by omega
    (repeat (first | (with_reducible refine AWo.cons ?_) | ((with_reducible refine Step.id ?_); first | ((with_reducible apply Step.move); exact rfl; exact rfl) | ((with_reducible apply Step.assign); exact rfl; exact rfl) | ((with_reducible apply Step.loadL (n := 8)); exact rfl; (focus (decide +kernel)); (focus (decide +kernel)); exact rfl; (focus (exact RdL.new rfl rfl)); exact rfl; exact rfl) | ((with_reducible apply Step.neq); exact rfl; exact rfl; exact rfl) | ((with_reducible apply Step.extract); exact rfl; exact rfl; exact rfl) | ((with_reducible apply Step.callR fit); exact rfl; exact Try.func27; exact rfl; exact rfl; exact (w2 _)) | ((with_reducible apply Step.box 0); exact rfl; exact rfl; (focus (kernel_rfl)); exact rfl; (focus (first | (simp only [List.nil_append, List.cons_append, List.set_cons_zero, List.set_cons_succ, iv_set, bv_set, iv_rep, bv_rep]; done) | (simp only [List.nil_append, List.cons_append, List.set_cons_zero, List.set_cons_succ, iv_set, bv_set, iv_rep, bv_rep]; rfl) | rfl)))) | (with_reducible refine AWo.nil ?_) | ((with_reducible apply AW.seq)) | ((with_reducible apply Then.n)) | ((with_reducible apply AW.regL)) | ((with_reducible apply AW.condT); exact rfl; (focus ((simp only [decide_eq_true_eq, decide_eq_false_iff_not, Bool.not_eq_true', Bool.not_eq_false', Bool.not_true, Bool.not_false]; first | assumption | omega))))))
    (refine AW.ret ?_; (repeat (first | refine Then.r ?_ | refine InBlk.r ?_)))
    exact ⟨_, rfl, _, rfl, _, rfl, (prs_nil hpos).old _⟩
set_option maxRecDepth 100000 in
theorem equalP_ok {m : AM} {v w : Value} {X : List (Nat × Nat)} (hv : Prs m v X) (hw : Prs m w X) (hn : X.length ≤ 100000) : ACall Try.prog 41 #[v, w] m (Ret (.bool true) m) := by
  obtain ⟨a, o, h1, h2, h3⟩ := hv
  obtain ⟨b, p, k1, k2, k3⟩ := hw
  refine ACall.start Try.func41 rfl rfl ?_
  (repeat (first | (with_reducible refine AWo.cons ?_) | ((with_reducible refine Step.id ?_); first | ((with_reducible apply Step.move); exact rfl; exact rfl) | ((with_reducible apply Step.assign); exact rfl; exact rfl) | ((with_reducible apply Step.neq); exact rfl; exact rfl; exact rfl) | ((with_reducible apply Step.len); exact rfl; (focus (assumption)); (focus (decide +kernel)); exact rfl)) | (with_reducible refine AWo.nil ?_) | ((with_reducible apply AW.seq)) | ((with_reducible apply Then.n)) | ((with_reducible apply AW.regL)) | ((with_reducible apply AW.block)) | ((with_reducible apply AW.skip)) | ((with_reducible apply AW.condF); exact rfl; (focus ((simp; done))))))
  refine AW.loopT (fun rk t L => ∃ i : Nat, rk = X.length - i ∧ i ≤ X.length ∧ L = [] ∧ t = [(0, v), (1, w), (12, .int .i64 (X.length : Nat)), (13, .int .i64 (i : Nat))]) ⟨_, _, _, (Or.inl ⟨rfl, (by repeat (first | exact trivial | (refine And.intro rfl ?_)))⟩), 0, rfl, Nat.zero_le _, rfl, rfl⟩ ?_
  rintro rk t L ⟨i, rfl, hi, rfl, rfl⟩
  rcases Nat.lt_or_ge i X.length with hlt | hge
  · have r1 := h3 i hlt
    have r2 := k3 i hlt
    (repeat (first | (with_reducible refine AWo.cons ?_) | ((with_reducible refine Step.id ?_); first | ((with_reducible apply Step.move); exact rfl; exact rfl) | ((with_reducible apply Step.assign); exact rfl; exact rfl) | ((with_reducible apply Step.loadL (n := 2)); exact rfl; (focus (decide +kernel)); (focus (decide +kernel)); exact rfl; (focus (exact RdL.old _ (by assumption))); exact rfl; exact rfl) | ((with_reducible apply Step.ix (s := 2)); exact rfl; (focus (assumption)); exact rfl; (focus (decide +kernel)); exact rfl; (focus (omega))) | ((with_reducible apply Step.lss); exact rfl; exact rfl; exact rfl)) | (with_reducible refine AWo.nil ?_) | ((with_reducible apply AW.seq)) | ((with_reducible apply Then.n)) | ((with_reducible apply AW.regL)) | ((with_reducible apply AW.block)) | ((with_reducible apply AW.drawL fit); (focus (decide +kernel))) | ((with_reducible apply AW.skip)) | ((with_reducible apply AW.condT); exact rfl; (focus ((simp only [decide_eq_true_eq, decide_eq_false_iff_not, Bool.not_eq_true', Bool.not_eq_false', Bool.not_true, Bool.not_false]; first | assumption | omega))))))
    ((with_reducible apply Step.neqA); exact rfl; exact rfl; exact rfl)
    (repeat (first | (with_reducible refine AWo.cons ?_) | ((with_reducible refine Step.id ?_); first | ((with_reducible apply Step.move); exact rfl; exact rfl) | ((with_reducible apply Step.add); exact rfl; exact rfl; (focus (omega)); exact rfl)) | (with_reducible refine AWo.nil ?_) | ((with_reducible apply Then.n)) | ((with_reducible apply AW.regL)) | ((with_reducible apply InBlk.n)) | ((with_reducible apply AW.skip)) | ((with_reducible apply AW.condF); exact rfl; (focus (rfl)))))
    exact ⟨_, _, _, by omega, (Or.inl ⟨rfl, (by repeat (first | exact trivial | (refine And.intro rfl ?_)))⟩), i + 1, rfl, by omega, rfl, rfl⟩
  · obtain rfl : i = X.length := by omega
    (repeat (first | (with_reducible refine AWo.cons ?_) | ((with_reducible refine Step.id ?_); first | ((with_reducible apply Step.assign); exact rfl; exact rfl) | ((with_reducible apply Step.lss); exact rfl; exact rfl; exact rfl)) | (with_reducible refine AWo.nil ?_) | ((with_reducible apply AW.seq)) | ((with_reducible apply Then.n)) | ((with_reducible apply AW.regL)) | ((with_reducible apply AW.exit)) | ((with_reducible apply InBlk.hit)) | ((with_reducible apply Then.e)) | ((with_reducible apply AW.condF); exact rfl; (focus ((simp only [decide_eq_true_eq, decide_eq_false_iff_not, Bool.not_eq_true', Bool.not_eq_false', Bool.not_true, Bool.not_false]; first | assumption | omega))))))
    (refine AW.retD (l := [(4, _)]) (by repeat (first | exact trivial | (refine And.intro ⟨rfl, by (exact .bool _)⟩ ?_))) ?_; (repeat (first | refine Then.r ?_ | refine InBlk.r ?_)))
    exact ⟨_, rfl, rfl, rfl⟩
set_option maxHeartbeats 4000000 in
set_option maxRecDepth 100000 in
theorem PairBlocking_ok {m : AM} {lv rv mv : Value} {L R : List Gl} {u : Ru} {M : List Int} (hl : Gls m lv L) (hr : Gls m rv R) (h1 : L.length ≤ 9223372036854775807) (h2 : R.length ≤ 9223372036854775807) (hM : Ints m mv M) (hMl : M.length ≤ 9223372036854775807) :
    ACall Try.prog 11 #[lv, rv, u.v, mv] m (Ret (.bool true) m) := by
  have r0 : ∀ T : AM, RdL (m ++ (some { cells := u.cells } :: T)) (m.length + 0) 0 u.cells := fun T => RdL.new rfl rfl
  have c1 := fun T => lside_ok (hl.old T) h1
  have c2 := fun T => lside_ok (hr.old T) h2
  have c3 := fun T => rule_ok (m := m ++ T) u
  have gl : ∀ T : AM, Gls (m ++ (some { cells := u.cells } :: gb (glC (L.take 34)) 4 :: T)) (gv (m.length + 1) (L.take 34).length) (L.take 34) := fun T => gls_new (k := 1) (by simp) rfl
  have gr : ∀ T : AM, Gls (m ++ (some { cells := u.cells } :: gb (glC (L.take 34)) 4 :: gb (glC (R.take 34)) 4 :: T)) (gv (m.length + 2) (R.take 34).length) (R.take 34) := fun T => gls_new (k := 2) (by simp) rfl
  cases hok : okB L R u with
  | false =>
    have w1 := Blocking_no (u := u) (mv := mv) (gl [gb (glC (R.take 34)) 4]) (gr []) (by simp only [List.length_take]; omega) (by simp only [List.length_take]; omega) (by rw [← hok]; exact okB34 L R u)
    have w2 := fun T => RBlocking_no (u := u) (hl.old T) (hr.old T) h1 h2 (hM.old T) hMl hok
    have e1 := fun T => equalP_ok (m := m ++ (some { cells := u.cells } :: T)) (prs_nil (by simp; omega)) (prs_nil (by simp; omega)) (by simp)
    refine ACall.start Try.func11 rfl rfl ?_
    (repeat (first | (with_reducible refine AWo.cons ?_) | ((with_reducible refine Step.id ?_); first | ((with_reducible apply Step.assign); exact rfl; exact rfl) | ((with_reducible apply Step.box 0); exact rfl; exact rfl; (focus (kernel_rfl)); exact rfl; (focus (first | (simp only [List.nil_append, List.cons_append, List.set_cons_zero, List.set_cons_succ, iv_set, bv_set, iv_rep, bv_rep]; done) | (simp only [List.nil_append, List.cons_append, List.set_cons_zero, List.set_cons_succ, iv_set, bv_set, iv_rep, bv_rep]; rfl) | rfl)))) | (with_reducible refine AWo.nil ?_) | ((fail_if_success (with_reducible refine AW.atR (id := 1) ?_)); ((with_reducible apply AW.seq))) | ((with_reducible apply Then.n)) | ((with_reducible apply AW.regL))))
    refine AW.joinS [(0, lv), (1, rv), (3, mv), (6, .pointer (some ⟨m.length + 0, 0, none⟩)), (9, .slice none 0 0), (10, .int .i64 2)] (m ++ [some { cells := u.cells }, gb (glC (L.take 34)) 4, gb (glC (R.take 34)) 4]) ?_ ?_
    · (repeat' (first | ((with_reducible refine Step.id ?_); first | ((with_reducible apply Step.move); exact rfl; exact rfl) | ((with_reducible apply Step.assign); exact rfl; exact rfl) | ((with_reducible apply Step.loadL (n := 8)); exact rfl; (focus (decide +kernel)); (focus (decide +kernel)); exact rfl; (focus (exact RdL.new rfl rfl)); exact rfl; exact rfl) | ((with_reducible apply Step.extract); exact rfl; exact rfl; exact rfl) | ((with_reducible apply Step.callG fit (k := 1)); exact rfl; exact rfl; exact Try.func21; exact rfl; exact rfl; exact (c1 _); (focus (first | (simp only [List.nil_append, List.cons_append, List.set_cons_zero, List.set_cons_succ, iv_set, bv_set, iv_rep, bv_rep]; done) | (simp only [List.nil_append, List.cons_append, List.set_cons_zero, List.set_cons_succ, iv_set, bv_set, iv_rep, bv_rep]; rfl) | rfl))) | ((with_reducible apply Step.callG fit (k := 2)); exact rfl; exact rfl; exact Try.func21; exact rfl; exact rfl; exact (c2 _); (focus (first | (simp only [List.nil_append, List.cons_append, List.set_cons_zero, List.set_cons_succ, iv_set, bv_set, iv_rep, bv_rep]; done) | (simp only [List.nil_append, List.cons_append, List.set_cons_zero, List.set_cons_succ, iv_set, bv_set, iv_rep, bv_rep]; rfl) | rfl))) | ((with_reducible apply Step.callR fit); exact rfl; exact Try.func22; exact rfl; exact rfl; exact (c3 _)) | ((with_reducible apply Step.callR fit); exact rfl; exact Try.func39; exact rfl; exact rfl; exact (w1))) | ((with_reducible apply Then.n)) | ((with_reducible apply AW.drawT fit (T := (.step 0 (.step 2 (.step 6 (.both (.step 1 (.both (.step 3 (.step 4 (.step 5 (.step 7 (.step 8 (.step 9 (.step 10 (.step 11 (.step 12 .done))))))))) (.step 4 (.step 3 (.step 5 (.step 7 (.step 8 (.step 9 (.step 10 (.step 11 (.step 12 .done))))))))))) (.step 4 (.step 1 (.step 3 (.step 5 (.step 7 (.step 8 (.step 9 (.step 10 (.step 11 (.step 12 .done)))))))))))))))); (focus (decide +kernel))) | ((with_reducible apply AWt.step); exact rfl) | ((with_reducible apply AWt.done)) | refine AWt.both ?_ ?_))
      all_goals exact ⟨rfl, (by repeat (first | exact trivial | (refine And.intro rfl ?_)))⟩
    (repeat (first | (with_reducible refine AWo.cons ?_) | ((with_reducible refine Step.id ?_); first | ((with_reducible apply Step.gdT); exact rfl; exact rfl; (focus (rfl))) | ((with_reducible apply Step.move); exact rfl; exact rfl) | ((with_reducible apply Step.assign); exact rfl; exact rfl) | ((with_reducible apply Step.loadL (n := 8)); exact rfl; (focus (decide +kernel)); (focus (decide +kernel)); exact rfl; (focus (exact RdL.new rfl rfl)); exact rfl; exact rfl) | ((with_reducible apply Step.eql); exact rfl; exact rfl; exact rfl) | ((with_reducible apply Step.extract); exact rfl; exact rfl; exact rfl) | ((with_reducible apply Step.pickT); exact rfl; exact rfl; exact rfl; exact rfl; (focus (rfl))) | ((with_reducible apply Step.callR fit); exact rfl; exact Try.func40; exact rfl; exact rfl; exact (w2 _)) | ((with_reducible apply Step.callR fit); exact rfl; exact Try.func41; exact rfl; exact rfl; exact (e1 _)) | ((with_reducible apply Step.callR fit); exact rfl; exact Try.func25; exact rfl; exact rfl; exact (awake_ok))) | (with_reducible refine AWo.nil ?_) | ((with_reducible apply AW.seq)) | ((with_reducible apply Then.n)) | ((with_reducible apply AW.regL))))
    (refine AW.retD (l := [(8, _)]) (by repeat (first | exact trivial | (refine And.intro ⟨rfl, by (exact .bool _)⟩ ?_))) ?_; (repeat (first | refine Then.r ?_ | refine InBlk.r ?_)))
    exact ⟨_, rfl, rfl, rfl⟩
  | true =>
    obtain ⟨k1, k2, k3⟩ := okB_iff hok
    obtain ⟨e34, f34⟩ := cT34 hok
    obtain ⟨k4, k5⟩ := okB_len hok
    rw [e34] at gl
    rw [e34, f34] at gr
    rw [e34] at c1
    rw [f34] at c2
    have w1 := Blocking_ok (u := u) (gl [gb (glC R) 4]) (gr []) k1 k2 k3 (hM.old _) hMl
    have w3 := fun T => RBlocking_ok (u := u) (hl.old T) (hr.old T) h1 h2 (hM.old T) hMl hok
    have hBl : (blk (cT u L R) L.length R.length M).length ≤ 100000 := by
      unfold blk
      split
      · have := bkR_len (bkB (cT u L R) M) R.length L.length
        exact Nat.le_trans this (Nat.le_trans (Nat.mul_le_mul k4 k5) (by omega))
      · simp
    obtain ⟨X, hX⟩ : ∃ X, blk (cT u L R) L.length R.length M = X := ⟨_, rfl⟩
    obtain ⟨e, he⟩ : ∃ e, (wgh (cT u L R) L.length R.length M).2.2 = e := ⟨_, rfl⟩
    rw [hX] at w1 w3 hBl
    rw [he] at w1 w3
    refine ACall.drop (Ren.of_g0 rfl) ?_
    refine ACall.start Try.func11 rfl rfl ?_
    (repeat (first | (with_reducible refine AWo.cons ?_) | ((with_reducible refine Step.id ?_); first | ((with_reducible apply Step.assign); exact rfl; exact rfl) | ((with_reducible apply Step.box 0); exact rfl; exact rfl; (focus (kernel_rfl)); exact rfl; (focus (first | (simp only [List.nil_append, List.cons_append, List.set_cons_zero, List.set_cons_succ, iv_set, bv_set, iv_rep, bv_rep]; done) | (simp only [List.nil_append, List.cons_append, List.set_cons_zero, List.set_cons_succ, iv_set, bv_set, iv_rep, bv_rep]; rfl) | rfl)))) | (with_reducible refine AWo.nil ?_) | ((fail_if_success (with_reducible refine AW.atR (id := 1) ?_)); ((with_reducible apply AW.seq))) | ((with_reducible apply Then.n)) | ((with_reducible apply AW.regL))))
    refine AW.seq ?_
    refine AW.join (fun t M1 => ∃ (N : AM) (v9 : Value), M1 = m ++ N ∧ Prs M1 v9 X ∧ RdL M1 (m.length + 0) 0 u.cells ∧ All (fun i v => t i = some v) [(0, lv), (1, rv), (3, mv), (6, .pointer (some ⟨m.length + 0, 0, none⟩)), (9, v9), (10, .int .i64 e)]) ?_ ?_
    · (repeat' (first | ((with_reducible refine Step.id ?_); first | ((with_reducible apply Step.move); exact rfl; exact rfl) | ((with_reducible apply Step.loadL (n := 8)); exact rfl; (focus (decide +kernel)); (focus (decide +kernel)); exact rfl; (focus (exact RdL.new rfl rfl)); exact rfl; exact rfl) | ((with_reducible apply Step.callG fit (k := 1)); exact rfl; exact rfl; exact Try.func21; exact rfl; exact rfl; exact (c1 _); (focus (first | (simp only [List.nil_append, List.cons_append, List.set_cons_zero, List.set_cons_succ, iv_set, bv_set, iv_rep, bv_rep]; done) | (simp only [List.nil_append, List.cons_append, List.set_cons_zero, List.set_cons_succ, iv_set, bv_set, iv_rep, bv_rep]; rfl) | rfl))) | ((with_reducible apply Step.callG fit (k := 2)); exact rfl; exact rfl; exact Try.func21; exact rfl; exact rfl; exact (c2 _); (focus (first | (simp only [List.nil_append, List.cons_append, List.set_cons_zero, List.set_cons_succ, iv_set, bv_set, iv_rep, bv_rep]; done) | (simp only [List.nil_append, List.cons_append, List.set_cons_zero, List.set_cons_succ, iv_set, bv_set, iv_rep, bv_rep]; rfl) | rfl))) | ((with_reducible apply Step.callR fit); exact rfl; exact Try.func22; exact rfl; exact rfl; exact (c3 _))) | ((with_reducible apply AW.drawT fit (T := (.step 0 (.step 2 (.step 6 (.both (.step 1 (.both (.step 3 (.step 4 (.step 5 (.step 7 (.step 8 (.step 9 (.step 10 (.step 11 (.step 12 .done))))))))) (.step 4 (.step 3 (.step 5 (.step 7 (.step 8 (.step 9 (.step 10 (.step 11 (.step 12 .done))))))))))) (.step 4 (.step 1 (.step 3 (.step 5 (.step 7 (.step 8 (.step 9 (.step 10 (.step 11 (.step 12 .done)))))))))))))))); (focus (decide +kernel))) | ((with_reducible apply AWt.step); exact rfl) | refine AWt.both ?_ ?_))
      all_goals ((with_reducible apply Step.callX fit); exact rfl; exact Try.func39; exact rfl; exact rfl; exact w1)
      all_goals rintro v M1 ⟨N, hN⟩ ⟨w, rfl, hw⟩
      all_goals (repeat' (first | ((with_reducible refine Step.id ?_); first | ((with_reducible apply Step.move); exact rfl; exact rfl) | ((with_reducible apply Step.assign); exact rfl; exact rfl) | ((with_reducible apply Step.extract); exact rfl; exact rfl; exact rfl)) | ((with_reducible apply Then.n)) | ((with_reducible apply AWt.step); exact rfl) | ((with_reducible apply AWt.done))))
      all_goals exact ⟨_, w, by rw [hN, List.append_nil, List.append_assoc], by rw [List.append_nil]; exact hw, by rw [hN, List.append_nil]; exact (r0 _).old N, (by repeat (first | exact trivial | (refine And.intro rfl ?_)))⟩
    rintro t M1 ⟨N, v9, rfl, hI, hR, hall⟩
    refine AW.weak (fr_all hall) ?_
    clear hall w1 c1 c2 c3 gl gr
    refine AW.rebase ?_
    have w4 := w3 N
    (repeat (first | (with_reducible refine AWo.cons ?_) | ((with_reducible refine Step.id ?_); first | ((with_reducible apply Step.move); exact rfl; exact rfl) | ((with_reducible apply Step.loadL (n := 8)); exact rfl; (focus (decide +kernel)); (focus (decide +kernel)); exact rfl; (focus (exact RdL.old _ (by assumption))); exact rfl; exact rfl)) | ((with_reducible apply AW.seq)) | ((with_reducible apply AW.regL))))
    ((with_reducible apply Step.callX fit); exact rfl; exact Try.func40; exact rfl; exact rfl; (focus (rw [List.append_nil]; exact w4)))
    rintro v M2 ⟨N2, hN2⟩ ⟨w, rfl, hw⟩
    rw [List.append_nil] at hN2
    subst hN2
    have e1 := fun T => equalP_ok ((hI.old N2).old T) (hw.old T) hBl
    (repeat (first | (with_reducible refine AWo.cons ?_) | ((with_reducible refine Step.id ?_); first | ((with_reducible apply Step.gdT); exact rfl; exact rfl; (focus (first | rfl | (simp; done)))) | ((with_reducible apply Step.move); exact rfl; exact rfl) | ((with_reducible apply Step.assign); exact rfl; exact rfl) | ((with_reducible apply Step.eql); exact rfl; exact rfl; exact rfl) | ((with_reducible apply Step.extract); exact rfl; exact rfl; exact rfl) | ((with_reducible apply Step.pickT); exact rfl; exact rfl; exact rfl; exact rfl; (focus (first | rfl | (simp; done)))) | ((with_reducible apply Step.callR fit); exact rfl; exact Try.func41; exact rfl; exact rfl; exact (e1 _)) | ((with_reducible apply Step.callR fit); exact rfl; exact Try.func25; exact rfl; exact rfl; exact (awake_ok))) | (with_reducible refine AWo.nil ?_) | ((with_reducible apply AW.seq)) | ((with_reducible apply Then.n)) | ((with_reducible apply AW.regL))))
    (refine AW.ret ?_; (repeat (first | refine Then.r ?_ | refine InBlk.r ?_)))
    exact ⟨_, by simp; rfl, rfl, N ++ N2, by simp only [List.append_nil, List.append_assoc]⟩
end Go.Proofs.Ytajpngnphbdnnaa.Abs
namespace Go.Proofs.Ytajpngnphbdnnaa.Abs
set_option linter.unusedSimpArgs false
set_option linter.unusedVariables false
open Go.RowKit
open Go.Proofs.Ytajpngnphbdnnaa.Sim
open Go.Proofs
theorem gls_args {F : Nat → List Int} (hF : ∀ k, (F k).length = 4) (n : Nat) : ∃ l : List Gl, l.length = n ∧ ∀ {M : AM} {v : Value} {i : Nat}, (Sl v i 0 n ∧ i < M.length ∧ ∀ k, k < n → RdL M i (0 + k * 4) (iv (F k))) → Gls M v l := by
  obtain ⟨g, hg⟩ := Classical.axiomOfChoice fun k => gl_of (hF k)
  refine ⟨(List.range n).map g, by simp, fun {M v i} h => ⟨i, 0, by simpa using h.1, h.2.1, fun k hk => ?_⟩⟩
  have hk' : k < n := by simpa using hk
  have := h.2.2 k hk'
  rw [hg k] at this
  have e : ((List.range n).map g).getD k default = g k := by simp [hk']
  rw [e]
  exact this
end Go.Proofs.Ytajpngnphbdnnaa.Abs
