/- Proved here: what the proof of TopCertified rests on, part 5 of 5. Conditions: those that each theorem names. -/
import Derived.Test.YtedbjmgchfgabaaDoorTopCertifiedK4
namespace Go.Proofs.YtedbjmgchfgabaaDoor.Abs
set_option linter.unusedSimpArgs false
set_option linter.unusedVariables false
open Go.RowKit
open Go.Proofs.YtedbjmgchfgabaaDoor.Sim
open Go.Proofs
set_option maxHeartbeats 16000000 in
set_option maxRecDepth 100000 in
theorem read_ok {B : Brd} {K : List Kd} (hg : goodB B K = true) {m0 : AM} {p : Nat} (hB : BoardAt m0 p B K) : ∀ (f : Nat), f ≤ 32 → ∀ {r : R4}, r.ok (bw B) (bh B) → r.size ≤ f → ∀ {m : AM} {F A : Nat} {l : List Plc} {v : Value} {ps : List Nd},
    (∃ N, m = m0 ++ N) → FD m0.length m F A l → PN m0 v ps → l.length + ps.length ≤ 1000000 → A < m.length →
    ACall Tryd.prog 79 #[.pointer (some ⟨p, 0, none⟩), .agg r.rc.cells.toArray, v, .pointer (some ⟨F, 0, none⟩)] m (RdP m0 m F A l (rdM B K f r ps)) := by
  intro f
  induction f with
  | zero =>
    intro _ r hr hs
    exfalso
    unfold R4.ok at hr
    unfold R4.size at hs
    omega
  | succ f ih =>
    intro hf32 r hr hs m F A l v ps hmN hF hP hlen hAl
    have ih := @ih (by omega)
    have hgb : boardB B = true := by simp only [goodB, Bool.and_eq_true] at hg; exact hg.1
    have hin := good_in hgb
    have h16 : r.x ≤ 16 ∧ r.y ≤ 16 ∧ r.a ≤ 16 ∧ r.b ≤ 16 := by
      have := hin
      unfold R4.ok at hr
      omega
    have hkl : K.length ≤ 12 := by simp only [goodB, kindsB, Bool.and_eq_true, decide_eq_true_eq] at hg; exact hg.2.1
    have hFl : F < m.length := by obtain ⟨_, v, h, _⟩ := hF; exact (List.getElem?_eq_some_iff.1 h).1
    obtain ⟨M0, hM0⟩ : ∃ M0, m ++ [some { cells := r.rc.cells }] = M0 := ⟨_, rfl⟩
    have hM0l : M0.length = m.length + 1 := by rw [← hM0]; simp
    have hMN : ∃ N, M0 = m0 ++ N := by obtain ⟨N, hN⟩ := hmN; exact ⟨_, by rw [← hM0, hN, List.append_assoc]⟩
    have y5 : ∀ T, RdL (M0 ++ T) (m.length + 0) 0 r.rc.cells := fun T => by rw [← hM0]; exact RdL.old _ (show RdL (m ++ [some { cells := r.rc.cells }]) (m.length + 0) 0 r.rc.cells from RdL.new rfl rfl)
    cases ps with
    | nil =>
      rw [rd_nil]
      obtain ⟨a, o, sl, _⟩ := hP
      change Sl v a o 0 at sl
      refine ACall.start Tryd.func79 rfl rfl ?_
      (repeat (first | (with_reducible refine AWo.cons ?_) | ((with_reducible refine Step.id ?_); first | ((with_reducible apply Step.assign); exact rfl; exact rfl) | ((with_reducible apply Step.box 0); exact rfl; exact rfl; (focus (kernel_rfl)); exact rfl; (focus (first | (simp only [List.nil_append, List.cons_append, List.set_cons_zero, List.set_cons_succ, iv_set, bv_set, iv_rep, bv_rep]; done) | (simp only [List.nil_append, List.cons_append, List.set_cons_zero, List.set_cons_succ, iv_set, bv_set, iv_rep, bv_rep]; rfl) | rfl)))) | (with_reducible refine AWo.nil ?_) | ((fail_if_success (with_reducible refine AW.atR (id := 1) ?_)); ((with_reducible apply AW.seq))) | ((with_reducible apply Then.n)) | ((with_reducible apply AW.regL))))
      change AW _ _ _ _ _ (m ++ [some { cells := r.rc.cells }]) _
      rw [hM0]
      refine AW.rebase ?_
      (repeat (first | (with_reducible refine AWo.cons ?_) | ((with_reducible refine Step.id ?_); first | ((with_reducible apply Step.move); exact rfl; exact rfl) | ((with_reducible apply Step.assign); exact rfl; exact rfl) | ((with_reducible apply Step.eql); exact rfl; exact rfl; exact rfl) | ((with_reducible apply Step.len); exact rfl; (focus (assumption)); (focus (decide +kernel)); exact rfl)) | (with_reducible refine AWo.nil ?_) | ((with_reducible apply AW.seq)) | ((with_reducible apply Then.n)) | ((with_reducible apply AW.regL)) | ((with_reducible apply AW.condT); exact rfl; (focus (rfl)))))
      (refine AW.ret ?_; (repeat (first | refine Then.r ?_ | refine InBlk.r ?_)))
      obtain ⟨N, hN⟩ := hMN
      exact ⟨_, rfl, ⟨N, by rw [List.append_nil]; exact hN⟩, _, rfl⟩
    | cons n ps =>
      obtain ⟨a, o, c, hpsc, rfl, hrd⟩ := hP.cons
      have hPt := fun k => PN.tail (k := k) hpsc hrd
      have sl : Sl (.slice (some ⟨a, o, none⟩) (ps.length + 1) (c + 1)) a o (ps.length + 1) := .inr (.inl ⟨c + 1, by omega, rfl⟩)
      have hn := hrd 0 (by simp)
      have hnM : ∀ T, RdL (M0 ++ T) a o (ndc1 n) := fun T => by
        obtain ⟨N, e⟩ := hMN
        rw [e, List.append_assoc]
        simpa using RdL.old _ hn
      have hFM : FD m0.length M0 F A l := by rw [← hM0]; exact hF.old _
      have hBM : ∀ T, BoardAt (M0 ++ T) p B K := fun T => by
        obtain ⟨N, e⟩ := hMN
        rw [e, List.append_assoc]
        exact hB.old _
      have hKp : Kp m M0 F A := by rw [← hM0]; exact (Kp.refl m F A).old _
      clear hn hrd
      obtain ⟨nop, narg, nt⟩ := n
      simp only [ndc1] at hnM
      refine ACall.start Tryd.func79 rfl rfl ?_
      (repeat (first | (with_reducible refine AWo.cons ?_) | ((with_reducible refine Step.id ?_); first | ((with_reducible apply Step.assign); exact rfl; exact rfl) | ((with_reducible apply Step.box 0); exact rfl; exact rfl; (focus (kernel_rfl)); exact rfl; (focus (first | (simp only [List.nil_append, List.cons_append, List.set_cons_zero, List.set_cons_succ, iv_set, bv_set, iv_rep, bv_rep]; done) | (simp only [List.nil_append, List.cons_append, List.set_cons_zero, List.set_cons_succ, iv_set, bv_set, iv_rep, bv_rep]; rfl) | rfl)))) | (with_reducible refine AWo.nil ?_) | ((fail_if_success (with_reducible refine AW.atR (id := 1) ?_)); ((with_reducible apply AW.seq))) | ((with_reducible apply Then.n)) | ((with_reducible apply AW.regL))))
      change AW _ _ _ _ _ (m ++ [some { cells := r.rc.cells }]) _
      rw [hM0]
      refine AW.rebase ?_
      (repeat (first | (with_reducible refine AWo.cons ?_) | ((with_reducible refine Step.id ?_); first | ((with_reducible apply Step.move); exact rfl; exact rfl) | ((with_reducible apply Step.eql); exact rfl; exact rfl; exact rfl) | ((with_reducible apply Step.len); exact rfl; (focus (assumption)); (focus (decide +kernel)); exact rfl)) | (with_reducible refine AWo.nil ?_) | ((with_reducible apply AW.seq)) | ((with_reducible apply Then.n)) | ((fail_if_success (with_reducible refine AW.atL (id := 3) ?_)); ((with_reducible apply AW.regL))) | ((with_reducible apply AW.skip)) | ((with_reducible apply AW.condF); exact rfl; (focus (rfl)))))
      refine AW.join (fun t' m' => ∃ L a10 tl, m' = M0 ++ L ∧ M0.length ≤ a10 ∧ RdL m' a10 0 [.int .i64 nop, .int .i64 narg, .bool nt] ∧ PN m0 tl ps ∧
        All (fun i v => t' i = some v) [(0, .pointer (some ⟨p, 0, none⟩)), (3, .pointer (some ⟨F, 0, none⟩)), (5, .pointer (some ⟨m.length + 0, 0, none⟩)), (8, tl), (10, .pointer (some ⟨a10, 0, none⟩))]) ?_ ?_
      · clear hP hF hB hFM hBM hKp ih hmN hMN y5
        (repeat' (first | ((with_reducible refine Step.id ?_); first | ((with_reducible apply Step.move); exact rfl; exact rfl) | ((with_reducible apply Step.loadL (n := 3)); exact rfl; (focus (decide +kernel)); (focus (decide +kernel)); exact rfl; (focus (exact hnM _)); exact rfl; exact rfl) | ((with_reducible apply Step.ix (s := 3) (k := 0)); exact rfl; (focus (assumption)); exact rfl; (focus (decide +kernel)); exact rfl; (focus (omega))) | ((with_reducible apply Step.alloc 0); exact rfl; exact ze121; exact rfl; (focus (first | (simp only [List.nil_append, List.cons_append, List.set_cons_zero, List.set_cons_succ, iv_set, bv_set, iv_rep, bv_rep]; done) | (simp only [List.nil_append, List.cons_append, List.set_cons_zero, List.set_cons_succ, iv_set, bv_set, iv_rep, bv_rep]; rfl) | rfl))) | ((with_reducible apply Step.storeA (k := 0) (n := 3)); exact rfl; exact rfl; exact rfl; exact rfl; (focus (decide +kernel)); exact rfl; (focus (kernel_rfl)); exact rfl; (focus (first | (simp only [List.nil_append, List.cons_append, List.set_cons_zero, List.set_cons_succ, iv_set, bv_set, iv_rep, bv_rep]; done) | (simp only [List.nil_append, List.cons_append, List.set_cons_zero, List.set_cons_succ, iv_set, bv_set, iv_rep, bv_rep]; rfl) | rfl)))) | ((with_reducible apply AW.drawT fit (T := (.step 0 (.step 1 (.step 3 (.both (.step 2 (.both (.step 4 (.step 5 (.step 6 (.step 7 .done)))) (.step 5 (.both (.step 4 (.step 6 (.step 7 .done))) (.step 6 (.step 4 (.step 7 .done))))))) (.both (.step 4 (.both (.step 2 (.step 5 (.step 6 (.step 7 .done)))) (.step 5 (.step 2 (.step 6 (.step 7 .done)))))) (.step 5 (.both (.step 2 (.both (.step 4 (.step 6 (.step 7 .done))) (.step 6 (.step 4 (.step 7 .done))))) (.step 4 (.step 2 (.step 6 (.step 7 .done))))))))))))); (focus (decide +kernel))) | ((with_reducible apply AWt.step); exact rfl) | refine AWt.both ?_ ?_))
        all_goals ((with_reducible apply Step.restO); exact rfl; exact rfl; exact rfl; exact hpsc; exact un55; exact sz121; exact rfl; exact rfl)
        all_goals (repeat' (first | ((with_reducible refine Step.id ?_); first | ((with_reducible apply Step.assign); exact rfl; exact rfl) | ((with_reducible apply Step.loadL (n := 3)); exact rfl; (focus (decide +kernel)); (focus (decide +kernel)); exact rfl; (focus (exact hnM _)); exact rfl; exact rfl) | ((with_reducible apply Step.storeA (k := 0) (n := 3)); exact rfl; exact rfl; exact rfl; exact rfl; (focus (decide +kernel)); exact rfl; (focus (kernel_rfl)); exact rfl; (focus (first | (simp only [List.nil_append, List.cons_append, List.set_cons_zero, List.set_cons_succ, iv_set, bv_set, iv_rep, bv_rep]; done) | (simp only [List.nil_append, List.cons_append, List.set_cons_zero, List.set_cons_succ, iv_set, bv_set, iv_rep, bv_rep]; rfl) | rfl))) | ((with_reducible apply Step.alloc 1); exact rfl; exact ze121; exact rfl; (focus (first | (simp only [List.nil_append, List.cons_append, List.set_cons_zero, List.set_cons_succ, iv_set, bv_set, iv_rep, bv_rep]; done) | (simp only [List.nil_append, List.cons_append, List.set_cons_zero, List.set_cons_succ, iv_set, bv_set, iv_rep, bv_rep]; rfl) | rfl))) | ((with_reducible apply Step.storeA (k := 1) (n := 3)); exact rfl; exact rfl; exact rfl; exact rfl; (focus (decide +kernel)); exact rfl; (focus (kernel_rfl)); exact rfl; (focus (first | (simp only [List.nil_append, List.cons_append, List.set_cons_zero, List.set_cons_succ, iv_set, bv_set, iv_rep, bv_rep]; done) | (simp only [List.nil_append, List.cons_append, List.set_cons_zero, List.set_cons_succ, iv_set, bv_set, iv_rep, bv_rep]; rfl) | rfl)))) | ((with_reducible apply Then.n)) | ((with_reducible apply AWt.step); exact rfl) | ((with_reducible apply AWt.done)) | refine AWt.both ?_ ?_))
        all_goals (refine ⟨_, _, _, rfl, ?_, ?_, ?_, (by repeat (first | exact trivial | (refine And.intro rfl ?_)))⟩)
        all_goals first | exact hPt _ | exact RdL.new rfl rfl | omega
      rintro t' M ⟨L, a10, tl, hm', ha10, hr10, htl, hsl⟩
      refine AW.weak (fr_all hsl) ?_
      have y5' : ∀ T, RdL (M ++ T) (m.length + 0) 0 r.rc.cells := fun T => by rw [hm']; exact (y5 _).old _
      have y10 : ∀ T, RdL (M ++ T) a10 0 [.int .i64 nop, .int .i64 narg, .bool nt] := fun T => hr10.old T
      have hF1 : FD m0.length M F A l := by rw [hm']; exact hFM.old _
      have hB1 : ∀ T, BoardAt (M ++ T) p B K := fun T => by rw [hm']; exact (hBM _).old _
      have hN1 : ∃ N, M = m0 ++ N := by obtain ⟨N, hN⟩ := hMN; exact ⟨_, by rw [hm', hN, List.append_assoc]⟩
      have hK1 : Kp m M F A := by rw [hm']; exact hKp.old _
      have ha : m.length + 1 ≤ a10 := by omega
      have hml := hK1.1
      have hMl : a10 < M.length := by obtain ⟨b, h1, _⟩ := hr10; exact (List.getElem?_eq_some_iff.1 h1).1
      have hlen : l.length + ps.length + 1 ≤ 1000000 := by simp only [List.length_cons] at hlen; omega
      have z0 : ∀ T, Rd (M ++ T) a10 (0 + 0) (.int .i64 nop) := fun T => (y10 T).at_ 0 rfl
      have z1 : ∀ T, Rd (M ++ T) a10 (0 + 1) (.int .i64 narg) := fun T => (y10 T).at_ 1 rfl
      have z2 : ∀ T, Rd (M ++ T) a10 (0 + 2) (.bool nt) := fun T => (y10 T).at_ 2 rfl
      clear hsl hPt hM0 hnM hFM hBM hMN hKp y5 sl hpsc hr10 hm' hM0l ha10 hP hB hmN hF
      clear M0 L
      refine AW.rebase ?_
      by_cases o0 : nop = 0
      · subst o0
        rw [rd_waste rfl]
        (repeat (first | (with_reducible refine AWo.cons ?_) | ((with_reducible refine Step.id ?_); first | ((with_reducible apply Step.move); exact rfl; exact rfl) | ((with_reducible apply Step.assign); exact rfl; exact rfl) | ((with_reducible apply Step.load); exact rfl; (focus (decide +kernel)); exact rfl; (focus (exact z0 _))) | ((with_reducible apply Step.loadL (n := 3)); exact rfl; (focus (decide +kernel)); (focus (decide +kernel)); exact rfl; (focus (exact y10 _)); exact rfl; exact rfl) | ((with_reducible apply Step.field0); exact rfl; (focus (decide +kernel)); exact rfl) | ((with_reducible apply Step.eql); exact rfl; exact rfl; exact rfl) | ((with_reducible apply Step.build); exact rfl; exact bl121z; exact rfl)) | (with_reducible refine AWo.nil ?_) | ((with_reducible apply AW.seq)) | ((with_reducible apply Then.n)) | ((with_reducible apply AW.regL)) | ((with_reducible apply AW.block)) | ((with_reducible apply AW.drawL fit); (focus (decide +kernel))) | ((with_reducible apply AW.condT); exact rfl; (focus (rfl)))))
        ((with_reducible apply Step.eqlN); exact rfl; exact rfl; exact rfl)
        (repeat (first | (with_reducible refine AWo.cons ?_) | ((with_reducible refine Step.id ?_); ((with_reducible apply Step.assign); exact rfl; exact rfl)) | (with_reducible refine AWo.nil ?_) | ((with_reducible apply Then.n))))
        (refine AW.ret ?_; (repeat (first | refine Then.r ?_ | refine InBlk.r ?_)))
        obtain ⟨N, hN⟩ := hN1
        by_cases hz : narg = 0 ∧ nt = false
        · rw [if_pos hz]
          obtain ⟨rfl, rfl⟩ := hz
          exact ⟨_, rfl, ⟨N, by rw [List.append_nil]; exact hN⟩, _, A, rfl, htl, by rw [List.append_nil, List.append_nil]; exact hF1, by rw [List.append_nil]; omega, .inl rfl, by rw [List.append_nil]; exact hK1⟩
        · rw [if_neg hz]
          have e : ((0 : Int) == 0 && narg == 0 && nt == false) = false := by
            rw [Bool.eq_false_iff]
            intro h
            simp at h
            exact hz h
          exact ⟨_, rfl, ⟨N, by rw [List.append_nil]; exact hN⟩, _, by rw [e]⟩
      by_cases o1 : nop = 1
      · subst o1
        rw [rd_piece rfl]
        obtain ⟨_, ⟨kv, k1, AA, OO, slk, lak, _⟩, _, _, _⟩ := id (hB1 [])
        rw [List.append_nil] at k1
        obtain ⟨q', c', rfl⟩ := slk.shape
        by_cases c1 : narg < 0 ∨ (K.length : Int) ≤ narg
        · rw [if_neg (by dsimp only; omega)]
          by_cases c2 : narg < 0
          · (repeat (first | (with_reducible refine AWo.cons ?_) | ((with_reducible refine Step.id ?_); first | ((with_reducible apply Step.gdF); exact rfl; exact rfl; (focus ((simp only [decide_eq_true_eq, decide_eq_false_iff_not, Bool.not_eq_true', Bool.not_eq_false', Bool.not_true, Bool.not_false]; first | assumption | omega)))) | ((with_reducible apply Step.move); exact rfl; exact rfl) | ((with_reducible apply Step.assign); exact rfl; exact rfl) | ((with_reducible apply Step.load); exact rfl; (focus (decide +kernel)); exact rfl; (focus (first | exact z0 _ | exact z1 _))) | ((with_reducible apply Step.field0); exact rfl; (focus (decide +kernel)); exact rfl) | ((with_reducible apply Step.field (k := 1)); exact rfl; (focus (decide +kernel)); exact rfl) | ((with_reducible apply Step.lss); exact rfl; exact rfl; exact rfl) | ((with_reducible apply Step.eql); exact rfl; exact rfl; exact rfl) | ((with_reducible apply Step.pickT); exact rfl; exact rfl; exact rfl; exact rfl; (focus ((simp only [decide_eq_true_eq, decide_eq_false_iff_not, Bool.not_eq_true', Bool.not_eq_false', Bool.not_true, Bool.not_false]; first | assumption | omega))))) | (with_reducible refine AWo.nil ?_) | ((with_reducible apply AW.seq)) | ((with_reducible apply Then.n)) | ((with_reducible apply AW.regL)) | ((with_reducible apply AW.block)) | ((with_reducible apply AW.drawL fit); (focus (decide +kernel))) | ((with_reducible apply AW.condT); exact rfl; (focus (rfl))) | ((with_reducible apply AW.condF); exact rfl; (focus (rfl)))))
            (refine AW.ret ?_; (repeat (first | refine Then.r ?_ | refine InBlk.r ?_)))
            obtain ⟨N, hN⟩ := hN1
            exact ⟨_, rfl, ⟨N, by rw [List.append_nil]; exact hN⟩, _, rfl⟩
          · have c3 : (K.length : Int) ≤ narg := by omega
            (repeat (first | (with_reducible refine AWo.cons ?_) | ((with_reducible refine Step.id ?_); first | ((with_reducible apply Step.gdT); exact rfl; exact rfl; (focus ((simp only [decide_eq_true_eq, decide_eq_false_iff_not, Bool.not_eq_true', Bool.not_eq_false', Bool.not_true, Bool.not_false]; first | assumption | omega)))) | ((with_reducible apply Step.move); exact rfl; exact rfl) | ((with_reducible apply Step.assign); exact rfl; exact rfl) | ((with_reducible apply Step.load); exact rfl; (focus (decide +kernel)); exact rfl; (focus (first | exact z0 _ | exact z1 _ | exact Rd.old _ (by assumption)))) | ((with_reducible apply Step.field0); exact rfl; (focus (decide +kernel)); exact rfl) | ((with_reducible apply Step.field (k := 1)); exact rfl; (focus (decide +kernel)); exact rfl) | ((with_reducible apply Step.lss); exact rfl; exact rfl; exact rfl) | ((with_reducible apply Step.geq); exact rfl; exact rfl; exact rfl) | ((with_reducible apply Step.eql); exact rfl; exact rfl; exact rfl) | ((with_reducible apply Step.len); exact rfl; (focus (assumption)); (focus (decide +kernel)); exact rfl) | ((with_reducible apply Step.nilp); exact rfl; exact rfl) | ((with_reducible apply Step.pickF); exact rfl; exact rfl; exact rfl; exact rfl; (focus ((simp only [decide_eq_true_eq, decide_eq_false_iff_not, Bool.not_eq_true', Bool.not_eq_false', Bool.not_true, Bool.not_false]; first | assumption | omega))))) | (with_reducible refine AWo.nil ?_) | ((with_reducible apply AW.seq)) | ((with_reducible apply Then.n)) | ((with_reducible apply AW.regL)) | ((with_reducible apply AW.block)) | ((with_reducible apply AW.drawL fit); (focus (decide +kernel))) | ((with_reducible apply AW.condT); exact rfl; (focus (first | rfl | (simp only [decide_eq_true_eq, decide_eq_false_iff_not, Bool.not_eq_true', Bool.not_eq_false', Bool.not_true, Bool.not_false]; first | assumption | omega)))) | ((with_reducible apply AW.condF); exact rfl; (focus (rfl)))))
            (refine AW.ret ?_; (repeat (first | refine Then.r ?_ | refine InBlk.r ?_)))
            obtain ⟨N, hN⟩ := hN1
            exact ⟨_, rfl, ⟨N, by rw [List.append_nil]; exact hN⟩, _, rfl⟩
        · obtain ⟨k, rfl⟩ : ∃ k : Nat, narg = k := ⟨narg.toNat, by omega⟩
          have hk : k < K.length := by omega
          have hfi := fun T => fits_ok (hB1 T) hg hk hr
          change ∀ T, ACall Tryd.prog 78 #[_, _, .agg r.rc.cells.toArray] _ _ at hfi
          simp only [Int.toNat_natCast]
          generalize okB B (K.getD k default) r = ob at *
          generalize turnedB (K.getD k default) r = tb at *
          (repeat (first | (with_reducible refine AWo.cons ?_) | ((with_reducible refine Step.id ?_); first | ((with_reducible apply Step.gdT); exact rfl; exact rfl; (focus (rfl))) | ((with_reducible apply Step.move); exact rfl; exact rfl) | ((with_reducible apply Step.assign); exact rfl; exact rfl) | ((with_reducible apply Step.load); exact rfl; (focus (decide +kernel)); exact rfl; (focus (first | exact z0 _ | exact z1 _ | exact Rd.old _ (by assumption)))) | ((with_reducible apply Step.loadL (n := 4)); exact rfl; (focus (decide +kernel)); (focus (decide +kernel)); exact rfl; (focus (exact y5' _)); exact rfl; exact rfl) | ((with_reducible apply Step.field0); exact rfl; (focus (decide +kernel)); exact rfl) | ((with_reducible apply Step.field (k := 1)); exact rfl; (focus (decide +kernel)); exact rfl) | ((with_reducible apply Step.lss); exact rfl; exact rfl; exact rfl) | ((with_reducible apply Step.geq); exact rfl; exact rfl; exact rfl) | ((with_reducible apply Step.eql); exact rfl; exact rfl; exact rfl) | ((with_reducible apply Step.len); exact rfl; (focus (assumption)); (focus (decide +kernel)); exact rfl) | ((with_reducible apply Step.nilp); exact rfl; exact rfl) | ((with_reducible apply Step.extract); exact rfl; exact rfl; exact rfl) | ((with_reducible apply Step.pickF); exact rfl; exact rfl; exact rfl; exact rfl; (focus (rfl))) | ((with_reducible apply Step.callR fit); exact rfl; exact Tryd.func78; exact rfl; exact rfl; exact (hfi _))) | (with_reducible refine AWo.nil ?_) | ((with_reducible apply AW.seq)) | ((with_reducible apply Then.n)) | ((fail_if_success (with_reducible refine AW.atL (id := 11) ?_)); ((with_reducible apply AW.regL))) | ((with_reducible apply AW.block)) | ((fail_if_success (with_reducible refine AW.atL (id := 11) ?_)); ((with_reducible apply AW.drawL fit); (focus (decide +kernel)))) | ((with_reducible apply AW.skip)) | ((with_reducible apply AW.condT); exact rfl; (focus (rfl))) | ((with_reducible apply AW.condF); exact rfl; (focus (first | rfl | (simp only [decide_eq_true_eq, decide_eq_false_iff_not, Bool.not_eq_true', Bool.not_eq_false', Bool.not_true, Bool.not_false]; first | assumption | omega))))))
          have gr : ∃ x y u v : Int, r.rc.cells = [.int .i64 x, .int .i64 y, .int .i64 u, .int .i64 v] := ⟨_, _, _, _, rfl⟩
          refine AW.join (fun t' m' => (∃ N, m' = m0 ++ N) ∧ (∃ A', FD m0.length m' F A' (l ++ [((k, r, nt) : Plc)]) ∧ A' < m'.length ∧ m.length ≤ A') ∧ Kp m m' F A ∧ (∀ T, Rd (m' ++ T) a10 (0 + 2) (.bool nt)) ∧
            All (fun i v => t' i = some v) [(8, tl), (10, .pointer (some ⟨a10, 0, none⟩)), (11, .bool tb), (12, .bool ob)]) ?_ ?_
          · have hb0 : m0.length ≤ M.length := by obtain ⟨N, e⟩ := hN1; rw [e, List.length_append]; omega
            have na : a10 ≠ F := by omega
            have nA : a10 ≠ A := by omega
            have hF0 : m0.length ≤ F := hF1.1
            have hll : (plc l).length = l.length * 6 := plc_len l
            have hF1' := hF1
            obtain ⟨_, fv, fr1, fr2⟩ := hF1
            have hrf : ∀ T, Rd (M ++ T) F 0 fv := fun T => ⟨_, get_old _ fr1, rfl⟩
            have z2n : Rd M a10 (0 + 2) (.bool nt) := by simpa using z2 []
            rcases fr2 with ⟨rfl, rfl⟩ | ⟨rfl, f1, f2, f3, f4⟩
            · (repeat' (first | ((with_reducible refine Step.id ?_); first | ((with_reducible apply Step.move); exact rfl; exact rfl) | ((with_reducible apply Step.load); exact rfl; (focus (decide +kernel)); exact rfl; (focus (first | exact hrf _ | exact z1 _ | exact z2 _))) | ((with_reducible apply Step.loadL (n := 4)); exact rfl; (focus (decide +kernel)); (focus (decide +kernel)); exact rfl; (focus (exact y5' _)); exact rfl; exact rfl) | ((with_reducible apply Step.field (k := 1)); exact rfl; (focus (decide +kernel)); exact rfl) | ((with_reducible apply Step.field (k := 2)); exact rfl; (focus (decide +kernel)); exact rfl) | ((with_reducible apply Step.nilp); exact rfl; exact rfl) | ((with_reducible apply Step.buildS 0); exact rfl; exact rfl; exact (fun _ _ => bs69); exact rfl; (focus (first | (simp only [List.nil_append, List.cons_append, List.set_cons_zero, List.set_cons_succ, iv_set, bv_set, iv_rep, bv_rep]; done) | (simp only [List.nil_append, List.cons_append, List.set_cons_zero, List.set_cons_succ, iv_set, bv_set, iv_rep, bv_rep]; rfl) | rfl))) | ((with_reducible apply Step.build); exact rfl; exact bl81; exact rfl)) | ((with_reducible apply AW.drawT fit (T := (.step 0 (.step 1 (.step 2 (.step 4 (.step 5 (.step 6 (.step 7 (.step 8 (.step 9 (.both (.step 3 (.step 10 (.step 11 (.step 12 (.step 13 .done))))) (.step 10 (.step 3 (.step 11 (.step 12 (.step 13 .done))))))))))))))))); (focus (decide +kernel))) | ((with_reducible apply AWt.step); exact rfl) | refine AWt.both ?_ ?_))
              all_goals ((with_reducible apply Step.appNs (new := plc1 (k, r, nt))); exact rfl; exact rfl; exact el69; exact un69; (focus (rw [get_app]; rfl)); exact rfl; exact rfl; (focus (decide)); (focus (decide)); exact rfl)
              all_goals (repeat' (first | ((with_reducible refine Step.id ?_); ((with_reducible apply Step.nilp); exact rfl; exact rfl)) | ((with_reducible apply AWt.step); exact rfl)))
              all_goals ((with_reducible apply Step.storeG); exact rfl; exact rfl; exact (get_old _ (get_old _ fr1)); exact rfl; exact sz69; exact rfl; (focus (first | kernel_rfl | simp [Value.cells, Value.oneCell'])); exact rfl)
              all_goals (repeat' (first | ((with_reducible apply Then.n)) | ((with_reducible apply AWt.done))))
              all_goals (refine ⟨?_, ⟨_, FD.one hF1' hb0, ?_, ?_⟩, ?_, ?_, (by repeat (first | exact trivial | (refine And.intro rfl ?_)))⟩)
              all_goals first
                | exact set_pre (pre_app (pre_app hN1 _) _) hF0
                | exact ((hK1.old _).old _).setF _
                | (intro T; exact Rd.old _ ((((((Kp.refl M F A).old _).old _).setF _).rd na nA z2n)))
                | (simp; done)
                | (simp; omega)
            · (repeat' (first | ((with_reducible refine Step.id ?_); first | ((with_reducible apply Step.move); exact rfl; exact rfl) | ((with_reducible apply Step.load); exact rfl; (focus (decide +kernel)); exact rfl; (focus (first | exact hrf _ | exact z1 _ | exact z2 _))) | ((with_reducible apply Step.loadL (n := 4)); exact rfl; (focus (decide +kernel)); (focus (decide +kernel)); exact rfl; (focus (exact y5' _)); exact rfl; exact rfl) | ((with_reducible apply Step.field (k := 1)); exact rfl; (focus (decide +kernel)); exact rfl) | ((with_reducible apply Step.field (k := 2)); exact rfl; (focus (decide +kernel)); exact rfl) | ((with_reducible apply Step.nilp); exact rfl; exact rfl) | ((with_reducible apply Step.buildS 0); exact rfl; exact rfl; exact (fun _ _ => bs69); exact rfl; (focus (first | (simp only [List.nil_append, List.cons_append, List.set_cons_zero, List.set_cons_succ, iv_set, bv_set, iv_rep, bv_rep]; done) | (simp only [List.nil_append, List.cons_append, List.set_cons_zero, List.set_cons_succ, iv_set, bv_set, iv_rep, bv_rep]; rfl) | rfl))) | ((with_reducible apply Step.build); exact rfl; exact bl81; exact rfl)) | ((with_reducible apply AW.drawT fit (T := (.step 0 (.step 1 (.step 2 (.step 4 (.step 5 (.step 6 (.step 7 (.step 8 (.step 9 (.both (.step 3 (.step 10 (.step 11 (.step 12 (.step 13 .done))))) (.step 10 (.step 3 (.step 11 (.step 12 (.step 13 .done))))))))))))))))); (focus (decide +kernel))) | ((with_reducible apply AWt.step); exact rfl) | refine AWt.both ?_ ?_))
              all_goals ((with_reducible apply Step.appBs (s := 6) (new := plc1 (k, r, nt))); exact rfl; exact rfl; exact el69; exact un69; exact (get_old _ f4); exact hll; (focus (rw [get_app]; rfl)); exact rfl; exact rfl; (focus (decide)); exact ⟨by omega, by omega⟩; exact rfl)
              all_goals (repeat' (first | ((with_reducible refine Step.id ?_); ((with_reducible apply Step.nilp); exact rfl; exact rfl)) | ((with_reducible apply AWt.step); exact rfl)))
              all_goals ((with_reducible apply Step.storeG); exact rfl; exact rfl; exact (get_old _ (by rw [List.getElem?_set_ne f3]; exact get_old _ fr1)); exact rfl; exact sz69; exact rfl; (focus (first | kernel_rfl | simp [Value.cells, Value.oneCell'])); exact rfl)
              all_goals (repeat' (first | ((with_reducible apply Then.n)) | ((with_reducible apply AWt.done))))
              all_goals (refine ⟨?_, ⟨_, FD.more hF1' hb0, ?_, ?_⟩, ?_, ?_, (by repeat (first | exact trivial | (refine And.intro rfl ?_)))⟩)
              all_goals first
                | exact set_pre (pre_app (set_pre (pre_app hN1 _) f2) _) hF0
                | exact (((hK1.old _).setA _).old _).setF _
                | (intro T; exact Rd.old _ (((((((Kp.refl M F A).old _).setA _).old _).setF _).rd na nA z2n)))
                | (simp; done)
                | (simp; omega)
          rintro t' M2 ⟨hN2, ⟨A', hF2, hA2, hA3⟩, hK2, z2', hsl⟩
          refine AW.weak (fr_all hsl) ?_
          clear hsl z0 z1 z2 y5' y10 hfi k1 hB1 ih
          refine AW.rebase ?_
          cases ob with
          | false =>
            rw [if_neg (by simp)]
            (repeat (first | (with_reducible refine AWo.cons ?_) | ((with_reducible refine Step.id ?_); first | ((with_reducible apply Step.gdF); exact rfl; exact rfl; (focus (rfl))) | ((with_reducible apply Step.move); exact rfl; exact rfl) | ((with_reducible apply Step.assign); exact rfl; exact rfl) | ((with_reducible apply Step.pickF); exact rfl; exact rfl; exact rfl; exact rfl; (focus (rfl)))) | (with_reducible refine AWo.nil ?_) | ((with_reducible apply AW.seq)) | ((with_reducible apply Then.n)) | ((with_reducible apply AW.drawL fit); (focus (decide +kernel)))))
            (refine AW.ret ?_; (repeat (first | refine Then.r ?_ | refine InBlk.r ?_)))
            obtain ⟨N, hN⟩ := hN2
            exact ⟨_, rfl, ⟨N, by rw [List.append_nil]; exact hN⟩, _, rfl⟩
          | true =>
            (repeat (first | (with_reducible refine AWo.cons ?_) | ((with_reducible refine Step.id ?_); first | ((with_reducible apply Step.gdT); exact rfl; exact rfl; (focus (rfl))) | ((with_reducible apply Step.move); exact rfl; exact rfl) | ((with_reducible apply Step.assign); exact rfl; exact rfl) | ((with_reducible apply Step.load); exact rfl; (focus (decide +kernel)); exact rfl; (focus (exact z2' _))) | ((with_reducible apply Step.field (k := 2)); exact rfl; (focus (decide +kernel)); exact rfl) | ((with_reducible apply Step.eqlB); exact rfl; exact rfl; exact un4; exact rfl) | ((with_reducible apply Step.pickT); exact rfl; exact rfl; exact rfl; exact rfl; (focus (rfl)))) | (with_reducible refine AWo.nil ?_) | ((with_reducible apply AW.seq)) | ((with_reducible apply Then.n)) | ((with_reducible apply AW.drawL fit); (focus (decide +kernel)))))
            (refine AW.ret ?_; (repeat (first | refine Then.r ?_ | refine InBlk.r ?_)))
            obtain ⟨N, hN⟩ := hN2
            by_cases e : tb = nt
            · rw [if_pos ⟨by omega, by omega, rfl, e⟩]
              exact ⟨_, rfl, ⟨N, by rw [List.append_nil]; exact hN⟩, _, A', by rw [e]; simp, htl, by rw [List.append_nil]; exact hF2, by rw [List.append_nil]; exact hA2, .inr hA3, by rw [List.append_nil]; exact hK2⟩
            · rw [if_neg (fun h => e h.2.2.2)]
              have e2 : (tb == nt) = false := by simp [e]
              exact ⟨_, rfl, ⟨N, by rw [List.append_nil]; exact hN⟩, _, congrArg (fun b => Value.tuple #[tl, .bool b]) e2⟩
      by_cases o2 : nop = 2 ∨ nop = 3
      · obtain ⟨d, rfl⟩ : ∃ d, nop = opI d := by
          rcases o2 with rfl | rfl
          · exact ⟨true, rfl⟩
          · exact ⟨false, rfl⟩
        clear o0 o1 o2
        have hop : opI d = 2 ∨ opI d = 3 := by cases d <;> simp [opI]
        have n0 : ¬ opI d = 0 := by omega
        have n1 : ¬ opI d = 1 := by omega
        have hL := fun M => length_ok (m := M) r d
        change ∀ M, ACall Tryd.prog 53 #[.agg r.rc.cells.toArray, _] _ _ at hL
        generalize hopd : opI d = od at *
        (repeat (first | (with_reducible refine AWo.cons ?_) | ((with_reducible refine Step.id ?_); first | ((with_reducible apply Step.assign); exact rfl; exact rfl) | ((with_reducible apply Step.load); exact rfl; (focus (decide +kernel)); exact rfl; (focus (exact z0 _))) | ((with_reducible apply Step.field0); exact rfl; (focus (decide +kernel)); exact rfl) | ((with_reducible apply Step.eql); exact rfl; exact rfl; exact rfl)) | (with_reducible refine AWo.nil ?_) | ((with_reducible apply AW.seq)) | ((with_reducible apply Then.n)) | ((with_reducible apply AW.regL)) | ((with_reducible apply AW.block)) | ((with_reducible apply AW.condF); exact rfl; (focus ((simp only [decide_eq_true_eq, decide_eq_false_iff_not, Bool.not_eq_true', Bool.not_eq_false', Bool.not_true, Bool.not_false]; first | assumption | omega))))))
        refine AW.via [(0, .pointer (some ⟨p, 0, none⟩)), (3, .pointer (some ⟨F, 0, none⟩)), (5, .pointer (some ⟨m.length + 0, 0, none⟩)), (8, tl), (10, .pointer (some ⟨a10, 0, none⟩)), (75, .bool true)] (M ++ []) ?_ ?_
        · rcases hop with h | h
          · subst h
            (repeat (first | ((with_reducible apply AW.skip)) | ((with_reducible apply AW.condT); exact rfl; (focus (rfl)))))
            exact ⟨rfl, rfl, (by repeat (first | exact trivial | (refine And.intro rfl ?_)))⟩
          · subst h
            (repeat (first | (with_reducible refine AWo.cons ?_) | ((with_reducible refine Step.id ?_); first | ((with_reducible apply Step.assign); exact rfl; exact rfl) | ((with_reducible apply Step.eql); exact rfl; exact rfl; exact rfl)) | (with_reducible refine AWo.nil ?_) | ((with_reducible apply AW.regL)) | ((with_reducible apply AW.condF); exact rfl; (focus (rfl)))))
            exact ⟨rfl, rfl, (by repeat (first | exact trivial | (refine And.intro rfl ?_)))⟩
        intro t2 ht2
        refine Then.n ?_
        refine AW.weak ht2 ?_
        clear ht2
        by_cases hbad : nt = false ∧ 1 ≤ narg ∧ narg < r.len d
        · obtain ⟨rfl, hb1, hb2⟩ := hbad
          obtain ⟨i, rfl⟩ : ∃ i : Nat, narg = i := ⟨narg.toNat, by omega⟩
          have hi1 : 1 ≤ i := by omega
          have hi2 : i + 1 ≤ r.len d := by omega
          rw [← hopd, rd_docut d hi1 hi2]
          have o1 := lo_ok hr hi1 hi2
          have o2 := hi_ok hr hi1 hi2
          have s1 := lo_size hr hi1 hi2
          have s2 := hi_size hr hi1 hi2
          have hP := fun M => part_ok (m := M) r d hi1 hi2 h16
          rw [hopd] at hP
          change ∀ M, ACall Tryd.prog 54 #[.agg r.rc.cells.toArray, _, _] _ (Ret (.tuple #[.agg (r.lo d i).rc.cells.toArray, .agg (r.hi d i).rc.cells.toArray]) _) at hP
          have i1 := fun (M' : AM) (h1 : ∃ N, M' = m0 ++ N) (h2 : FD m0.length M' F A l) (h3 : A < M'.length) => @ih _ o1 (by omega) M' F A l tl ps h1 h2 htl (by omega) h3
          have i2 := @ih _ o2 (by omega)
          generalize hx1 : rdM B K f (r.lo d i) ps = x1 at *
          generalize (r.lo d i).rc = g1 at *
          generalize (r.hi d i).rc = g2 at *
          (repeat (first | ((fail_if_success (with_reducible refine AW.atR (id := 15) ?_)); ((with_reducible apply AW.seq))) | ((with_reducible apply AW.condT); exact rfl; (focus (rfl)))))
          refine AW.seq ?_
          refine AW.flatN fit [(0, .pointer (some ⟨p, 0, none⟩)), (3, .pointer (some ⟨F, 0, none⟩)), (5, .pointer (some ⟨m.length + 0, 0, none⟩)), (8, tl), (10, .pointer (some ⟨a10, 0, none⟩))] [(0, .pointer (some ⟨p, 0, none⟩)), (3, .pointer (some ⟨F, 0, none⟩)), (5, .pointer (some ⟨m.length + 0, 0, none⟩)), (8, tl), (10, .pointer (some ⟨a10, 0, none⟩)), (93, .bool false)] [0, 3, 5, 8, 10] [[], [0], [0], [0], [0, 1], [0, 2], [3, 0], [0, 4], [0], [0, 1], [2], [3], [0, 4], [2, 0, 5, 5], [4, 0, 6], [7, 0]] (by repeat (first | exact trivial | (refine And.intro rfl ?_))) rfl (by decide +kernel) ?_ ?_
          · (repeat (first | ((with_reducible refine Step.id ?_); first | ((with_reducible apply Step.gdT); exact rfl; exact rfl; (focus (first | rfl | (simp only [decide_eq_true_eq, decide_eq_false_iff_not, Bool.not_eq_true', Bool.not_eq_false', Bool.not_true, Bool.not_false]; first | assumption | omega)))) | ((with_reducible apply Step.move); exact rfl; exact rfl) | ((with_reducible apply Step.load); exact rfl; (focus (decide +kernel)); exact rfl; (focus (first | exact z0 _ | exact z1 _ | exact z2 _))) | ((with_reducible apply Step.loadL (n := 4)); exact rfl; (focus (decide +kernel)); (focus (decide +kernel)); exact rfl; (focus (exact y5' _)); exact rfl; exact rfl) | ((with_reducible apply Step.field0); exact rfl; (focus (decide +kernel)); exact rfl) | ((with_reducible apply Step.field (k := 1)); exact rfl; (focus (decide +kernel)); exact rfl) | ((with_reducible apply Step.field (k := 2)); exact rfl; (focus (decide +kernel)); exact rfl) | ((with_reducible apply Step.lss); exact rfl; exact rfl; exact rfl) | ((with_reducible apply Step.geq); exact rfl; exact rfl; exact rfl) | ((with_reducible apply Step.pickF); exact rfl; exact rfl; exact rfl; exact rfl; (focus (first | rfl | (simp only [decide_eq_true_eq, decide_eq_false_iff_not, Bool.not_eq_true', Bool.not_eq_false', Bool.not_true, Bool.not_false]; first | assumption | omega)))) | ((with_reducible apply Step.callR fit); exact rfl; exact Tryd.func53; exact rfl; exact rfl; exact (hL _))) | (apply AWf.cons; exact rfl) | exact ⟨put_same _ _ _, rfl⟩ | ((with_reducible apply AWf.nil))))
            rw [decide_eq_false (show ¬ ((r.len d : Nat) : Int) ≤ (i : Nat) by omega)]
            exact (by repeat (first | exact trivial | (refine And.intro rfl ?_)))
          intro t2 ht2
          refine Then.n ?_
          refine AW.weak ht2 ?_
          clear ht2
          (repeat (first | (with_reducible refine AWo.cons ?_) | ((with_reducible refine Step.id ?_); first | ((with_reducible apply Step.move); exact rfl; exact rfl) | ((with_reducible apply Step.load); exact rfl; (focus (decide +kernel)); exact rfl; (focus (first | exact z0 _ | exact z1 _))) | ((with_reducible apply Step.loadL (n := 4)); exact rfl; (focus (decide +kernel)); (focus (decide +kernel)); exact rfl; (focus (exact y5' _)); exact rfl; exact rfl) | ((with_reducible apply Step.field0); exact rfl; (focus (decide +kernel)); exact rfl) | ((with_reducible apply Step.field (k := 1)); exact rfl; (focus (decide +kernel)); exact rfl) | ((with_reducible apply Step.extract); exact rfl; exact rfl; exact rfl) | ((with_reducible apply Step.callR fit); exact rfl; exact Tryd.func54; exact rfl; exact rfl; exact (hP _)) | ((with_reducible apply Step.alloc 0); exact rfl; exact ze23; exact rfl; (focus (first | (simp only [List.nil_append, List.cons_append, List.set_cons_zero, List.set_cons_succ, iv_set, bv_set, iv_rep, bv_rep]; done) | (simp only [List.nil_append, List.cons_append, List.set_cons_zero, List.set_cons_succ, iv_set, bv_set, iv_rep, bv_rep]; rfl) | rfl))) | ((with_reducible apply Step.storeA (k := 0) (n := 4)); exact rfl; exact rfl; exact rfl; exact rfl; (focus (decide +kernel)); exact rfl; (focus (kernel_rfl)); exact rfl; (focus (first | (simp only [List.nil_append, List.cons_append, List.set_cons_zero, List.set_cons_succ, iv_set, bv_set, iv_rep, bv_rep]; done) | (simp only [List.nil_append, List.cons_append, List.set_cons_zero, List.set_cons_succ, iv_set, bv_set, iv_rep, bv_rep]; rfl) | rfl))) | ((with_reducible apply Step.alloc 1); exact rfl; exact ze23; exact rfl; (focus (first | (simp only [List.nil_append, List.cons_append, List.set_cons_zero, List.set_cons_succ, iv_set, bv_set, iv_rep, bv_rep]; done) | (simp only [List.nil_append, List.cons_append, List.set_cons_zero, List.set_cons_succ, iv_set, bv_set, iv_rep, bv_rep]; rfl) | rfl))) | ((with_reducible apply Step.storeA (k := 1) (n := 4)); exact rfl; exact rfl; exact rfl; exact rfl; (focus (decide +kernel)); exact rfl; (focus (kernel_rfl)); exact rfl; (focus (first | (simp only [List.nil_append, List.cons_append, List.set_cons_zero, List.set_cons_succ, iv_set, bv_set, iv_rep, bv_rep]; done) | (simp only [List.nil_append, List.cons_append, List.set_cons_zero, List.set_cons_succ, iv_set, bv_set, iv_rep, bv_rep]; rfl) | rfl)))) | (with_reducible refine AWo.nil ?_) | ((fail_if_success (with_reducible refine AW.atR (id := 18) ?_)); ((with_reducible apply AW.seq))) | ((with_reducible apply Then.n)) | ((with_reducible apply AW.regL)) | ((with_reducible apply AW.skip)) | ((with_reducible apply AW.condF); exact rfl; (focus (rfl)))))
          change AW _ _ _ _ _ (M ++ [some { cells := g1.cells }, some { cells := g2.cells }]) _
          have rl : ∀ T, RdL (M ++ (some { cells := g1.cells } :: some { cells := g2.cells } :: T)) (M.length + 0) 0 g1.cells := fun T => RdL.new rfl rfl
          have rh : RdL (M ++ [some { cells := g1.cells }, some { cells := g2.cells }]) (M.length + 1) 0 g2.cells := RdL.new rfl rfl
          (repeat (first | (with_reducible refine AWo.cons ?_) | ((with_reducible refine Step.id ?_); first | ((with_reducible apply Step.move); exact rfl; exact rfl) | ((with_reducible apply Step.loadL (n := 4)); exact rfl; (focus (decide +kernel)); (focus (decide +kernel)); exact rfl; (focus (exact RdL.new rfl rfl)); exact rfl; exact rfl)) | ((with_reducible apply AW.seq)) | ((with_reducible apply AW.regL))))
          ((with_reducible apply Step.callZ fit); exact rfl; exact Tryd.func79; exact rfl; exact rfl; exact (i1 _ (pre_app hN1 _) (hF1.old _) (by rw [List.length_append]; omega)))
          rintro _ M2 hR
          cases x1 with
          | none =>
            obtain ⟨hN2, u, rfl⟩ := hR
            (repeat (first | (with_reducible refine AWo.cons ?_) | ((with_reducible refine Step.id ?_); first | ((with_reducible apply Step.move); exact rfl; exact rfl) | ((with_reducible apply Step.assign); exact rfl; exact rfl) | ((with_reducible apply Step.not); exact rfl; exact rfl) | ((with_reducible apply Step.extract); exact rfl; exact rfl; exact rfl)) | (with_reducible refine AWo.nil ?_) | ((with_reducible apply AW.seq)) | ((with_reducible apply Then.n)) | ((with_reducible apply AW.regL)) | ((with_reducible apply AW.condT); exact rfl; (focus (rfl)))))
            (refine AW.ret ?_; (repeat (first | refine Then.r ?_ | refine InBlk.r ?_)))
            obtain ⟨N, hN⟩ := hN2
            exact ⟨_, rfl, ⟨N, by rw [List.append_nil]; exact hN⟩, _, rfl⟩
          | some x1 =>
            obtain ⟨l1, p1⟩ := x1
            obtain ⟨hN2, u, A', rfl, hP2, hF2, hA2, hA3, hK2⟩ := hR
            have hl1 := rdM_len f hx1
            have hM2 := hK2.1
            rw [List.length_append] at hM2
            have rh2 : ∀ T, RdL (M2 ++ T) (M.length + 1) 0 g2.cells := fun T => (hK2.rdL (by omega) (by omega) rh).old T
            have i3 := i2 (m := M2 ++ []) (F := F) (A := A') (l := l ++ l1) (v := u) (ps := p1) (pre_app hN2 _) (hF2.old _) hP2 (by rw [List.length_append]; omega) (by rw [List.append_nil]; exact hA2)
            dsimp only
            generalize hx2 : rdM B K f (r.hi d i) p1 = x2 at *
            clear i1 i2 ih rh rl hL hP
            (repeat (first | (with_reducible refine AWo.cons ?_) | ((with_reducible refine Step.id ?_); first | ((with_reducible apply Step.move); exact rfl; exact rfl) | ((with_reducible apply Step.assign); exact rfl; exact rfl) | ((with_reducible apply Step.loadL (n := 4)); exact rfl; (focus (decide +kernel)); (focus (decide +kernel)); exact rfl; (focus (exact rh2 _)); exact rfl; exact rfl) | ((with_reducible apply Step.not); exact rfl; exact rfl) | ((with_reducible apply Step.extract); exact rfl; exact rfl; exact rfl)) | (with_reducible refine AWo.nil ?_) | ((with_reducible apply AW.seq)) | ((with_reducible apply Then.n)) | ((with_reducible apply AW.regL)) | ((with_reducible apply AW.skip)) | ((with_reducible apply AW.condF); exact rfl; (focus (rfl)))))
            ((with_reducible apply Step.callZ fit); exact rfl; exact Tryd.func79; exact rfl; exact rfl; exact i3)
            rintro _ M3 hR3
            cases x2 with
            | none =>
              obtain ⟨hN3, u2, rfl⟩ := hR3
              (repeat (first | (with_reducible refine AWo.cons ?_) | ((with_reducible refine Step.id ?_); first | ((with_reducible apply Step.assign); exact rfl; exact rfl) | ((with_reducible apply Step.extract); exact rfl; exact rfl; exact rfl)) | (with_reducible refine AWo.nil ?_) | ((with_reducible apply Then.n))))
              (refine AW.ret ?_; (repeat (first | refine Then.r ?_ | refine InBlk.r ?_)))
              obtain ⟨N, hN⟩ := hN3
              exact ⟨_, rfl, ⟨N, by rw [List.append_nil]; exact hN⟩, _, rfl⟩
            | some x2 =>
              obtain ⟨l2, p2⟩ := x2
              obtain ⟨hN3, u2, A2, rfl, hP3, hF3, hA4, hA5, hK3⟩ := hR3
              (repeat (first | (with_reducible refine AWo.cons ?_) | ((with_reducible refine Step.id ?_); first | ((with_reducible apply Step.assign); exact rfl; exact rfl) | ((with_reducible apply Step.extract); exact rfl; exact rfl; exact rfl)) | (with_reducible refine AWo.nil ?_) | ((with_reducible apply Then.n))))
              (refine AW.ret ?_; (repeat (first | refine Then.r ?_ | refine InBlk.r ?_)))
              have hk := (hK1.trans (.inl rfl) hK2.of_old).trans (A1 := A') (by
                rcases hA3 with h | h
                · exact .inl h
                · rw [List.length_append] at h
                  exact .inr (by omega)) hK3.of_old
              refine ⟨_, rfl, pre_app hN3 _, u2, A2, rfl, hP3, ?_, ?_, ?_, hk.old _⟩
              · rw [← List.append_assoc]
                exact hF3.old _
              · rw [List.length_append]; omega
              · rcases hA5 with h | h
                · rcases hA3 with h' | h'
                  · exact .inl (h.trans h')
                  · rw [List.length_append] at h'
                    exact .inr (by omega)
                · rw [List.append_nil] at h
                  exact .inr (by omega)
        · rw [rd_nocut d hopd.symm hbad]
          have hF80 : ∀ M, ACall Tryd.prog 53 #[.agg r.rc.cells.toArray, .int .i64 od] M (Ret (.int .i64 (r.len d : Nat)) M) := fun M => hL M
          have hcs : nt = true ∨ (nt = false ∧ narg < 1) ∨ (nt = false ∧ ¬ narg < 1 ∧ (r.len d : Int) ≤ narg) := by
            cases nt with
            | true => exact .inl rfl
            | false =>
              by_cases h : narg < 1
              · exact .inr (.inl ⟨rfl, h⟩)
              · exact .inr (.inr ⟨rfl, h, by simp only [true_and] at hbad; omega⟩)
          (repeat (first | ((fail_if_success (with_reducible refine AW.atR (id := 15) ?_)); ((with_reducible apply AW.seq))) | ((with_reducible apply AW.condT); exact rfl; (focus (rfl)))))
          refine AW.seq ?_
          refine AW.flatN fit [(0, .pointer (some ⟨p, 0, none⟩)), (3, .pointer (some ⟨F, 0, none⟩)), (5, .pointer (some ⟨m.length + 0, 0, none⟩)), (8, tl), (10, .pointer (some ⟨a10, 0, none⟩))] [(0, .pointer (some ⟨p, 0, none⟩)), (3, .pointer (some ⟨F, 0, none⟩)), (5, .pointer (some ⟨m.length + 0, 0, none⟩)), (8, tl), (10, .pointer (some ⟨a10, 0, none⟩)), (93, .bool true)] [0, 3, 5, 8, 10] [[], [0], [0], [0], [0, 1], [0, 2], [3, 0], [0, 4], [0], [0, 1], [2], [3], [0, 4], [2, 0, 5, 5], [4, 0, 6], [7, 0]] (by repeat (first | exact trivial | (refine And.intro rfl ?_))) rfl (by decide +kernel) ?_ ?_
          · rcases hcs with rfl | ⟨rfl, h1⟩ | ⟨rfl, h1, h2⟩
            all_goals
              (repeat (first | ((with_reducible refine Step.id ?_); first | ((with_reducible apply Step.gdT); exact rfl; exact rfl; (focus (first | rfl | (simp only [decide_eq_true_eq, decide_eq_false_iff_not, Bool.not_eq_true', Bool.not_eq_false', Bool.not_true, Bool.not_false]; first | assumption | omega)))) | ((with_reducible apply Step.gdF); exact rfl; exact rfl; (focus (first | rfl | (simp only [decide_eq_true_eq, decide_eq_false_iff_not, Bool.not_eq_true', Bool.not_eq_false', Bool.not_true, Bool.not_false]; first | assumption | omega)))) | ((with_reducible apply Step.move); exact rfl; exact rfl) | ((with_reducible apply Step.load); exact rfl; (focus (decide +kernel)); exact rfl; (focus (first | exact z0 _ | exact z1 _ | exact z2 _))) | ((with_reducible apply Step.loadL (n := 4)); exact rfl; (focus (decide +kernel)); (focus (decide +kernel)); exact rfl; (focus (exact y5' _)); exact rfl; exact rfl) | ((with_reducible apply Step.field0); exact rfl; (focus (decide +kernel)); exact rfl) | ((with_reducible apply Step.field (k := 1)); exact rfl; (focus (decide +kernel)); exact rfl) | ((with_reducible apply Step.field (k := 2)); exact rfl; (focus (decide +kernel)); exact rfl) | ((with_reducible apply Step.lss); exact rfl; exact rfl; exact rfl) | ((with_reducible apply Step.geq); exact rfl; exact rfl; exact rfl) | ((with_reducible apply Step.pickT); exact rfl; exact rfl; exact rfl; exact rfl; (focus (first | rfl | (simp only [decide_eq_true_eq, decide_eq_false_iff_not, Bool.not_eq_true', Bool.not_eq_false', Bool.not_true, Bool.not_false]; first | assumption | omega)))) | ((with_reducible apply Step.pickF); exact rfl; exact rfl; exact rfl; exact rfl; (focus (first | rfl | (simp only [decide_eq_true_eq, decide_eq_false_iff_not, Bool.not_eq_true', Bool.not_eq_false', Bool.not_true, Bool.not_false]; first | assumption | omega)))) | ((with_reducible apply Step.callR fit); exact rfl; exact Tryd.func53; exact rfl; exact rfl; exact (hF80 _))) | (apply AWf.cons; exact rfl) | exact ⟨put_same _ _ _, rfl⟩ | ((with_reducible apply AWf.nil))))
              try rw [decide_eq_true h2]
              exact (by repeat (first | exact trivial | (refine And.intro rfl ?_)))
          intro t2 ht2
          refine Then.n ?_
          refine AW.weak ht2 ?_
          (repeat (first | (with_reducible refine AWo.cons ?_) | ((with_reducible refine Step.id ?_); ((with_reducible apply Step.assign); exact rfl; exact rfl)) | (with_reducible refine AWo.nil ?_) | ((with_reducible apply AW.seq)) | ((with_reducible apply Then.n)) | ((with_reducible apply AW.regL)) | ((with_reducible apply AW.condT); exact rfl; (focus (rfl)))))
          (refine AW.ret ?_; (repeat (first | refine Then.r ?_ | refine InBlk.r ?_)))
          obtain ⟨N, hN⟩ := hN1
          exact ⟨_, rfl, ⟨N, by rw [List.append_nil]; exact hN⟩, _, rfl⟩
      · have n2 : ¬ nop = 2 := fun e => o2 (.inl e)
        have n3 : ¬ nop = 3 := fun e => o2 (.inr e)
        rw [rd_other o0 o1 n2 n3]
        (repeat (first | (with_reducible refine AWo.cons ?_) | ((with_reducible refine Step.id ?_); first | ((with_reducible apply Step.assign); exact rfl; exact rfl) | ((with_reducible apply Step.load); exact rfl; (focus (decide +kernel)); exact rfl; (focus (exact z0 _))) | ((with_reducible apply Step.field0); exact rfl; (focus (decide +kernel)); exact rfl) | ((with_reducible apply Step.eql); exact rfl; exact rfl; exact rfl)) | (with_reducible refine AWo.nil ?_) | ((with_reducible apply AW.seq)) | ((with_reducible apply Then.n)) | ((with_reducible apply AW.regL)) | ((with_reducible apply AW.block)) | ((with_reducible apply InBlk.n)) | ((with_reducible apply AW.skip)) | ((with_reducible apply AW.condF); exact rfl; (focus ((simp only [decide_eq_true_eq, decide_eq_false_iff_not, Bool.not_eq_true', Bool.not_eq_false', Bool.not_true, Bool.not_false]; first | assumption | omega))))))
        (refine AW.ret ?_; (repeat (first | refine Then.r ?_ | refine InBlk.r ?_)))
        obtain ⟨N, hN⟩ := hN1
        exact ⟨_, rfl, ⟨N, by rw [List.append_nil]; exact hN⟩, _, rfl⟩
end Go.Proofs.YtedbjmgchfgabaaDoor.Abs
namespace Go.Proofs.YtedbjmgchfgabaaDoor.Abs
set_option linter.unusedSimpArgs false
set_option linter.unusedVariables false
open Go.RowKit
open Go.Proofs.YtedbjmgchfgabaaDoor.Sim
open Go.Proofs
theorem ze69 : zeroB Tryd.prog 56 = some #[.slice none 0 0] := by kernel_rfl
theorem ze81 : zeroB Tryd.prog 106 = some #[.int .i64 0, .int .i64 0, .int .i64 0, .int .i64 0, .int .i64 0, .bool false] := by kernel_rfl
/-- Pieces in memory. -/
def Pcs (m : AM) (v : Value) (l : List Plc) : Prop := ∃ a o, Sl v a o l.length ∧ a < m.length ∧ ∀ i, i < l.length → RdL m a (o + i * 6) (plc1 (l.getD i default))
theorem Pcs.old {m : AM} {v : Value} {l : List Plc} (h : Pcs m v l) (L : AM) : Pcs (m ++ L) v l := by
  obtain ⟨a, o, h1, h2, h3⟩ := h
  exact ⟨a, o, h1, by rw [List.length_append]; omega, fun i hi => (h3 i hi).old L⟩
theorem Pcs.nil {m : AM} (hM : 0 < m.length) : Pcs m (.slice none 0 0) [] := ⟨0, 0, .inl ⟨rfl, rfl⟩, hM, fun i hi => by simp at hi⟩
theorem FD.pcs {b0 : Nat} {m : AM} {F A : Nat} {l : List Plc} (h : FD b0 m F A l) : ∃ v, Rd m F 0 v ∧ Pcs m v l := by
  obtain ⟨_, v, h2, h3⟩ := h
  refine ⟨v, ⟨_, h2, rfl⟩, ?_⟩
  have hl := (List.getElem?_eq_some_iff.1 h2).1
  rcases h3 with ⟨rfl, rfl⟩ | ⟨rfl, _, _, _, h4⟩
  · exact Pcs.nil (by omega)
  · exact ⟨A, 0, Sl.mk (Nat.le_refl _), (List.getElem?_eq_some_iff.1 h4).1, fun i hi => ⟨_, h4, fun j v hj => by rw [Nat.zero_add]; exact plc_get l i hi j v hj⟩⟩
/-- What reading a plan of the whole board comes to: the pieces, and the error. -/
def rdgM (B : Brd) (K : List Kd) (ps : List Nd) : List Plc × Int := if goodB B K = true then (match rdM B K 32 (wholeR B) ps with
    | some (l, []) => (l, 0)
    | _ => ([], 6)) else ([], 2)
set_option maxHeartbeats 8000000 in
set_option maxRecDepth 100000 in
theorem Reading_ok {m : AM} {sv kv v : Value} {B : Brd} {K : List Kd} {ps : List Nd} (hs : Strs m sv B) (hk : Kds m kv K) (hv : PN m v ps) (hlen : ps.length ≤ 1000000) :
    ACall Tryd.prog 48 #[sv, kv, v] m (More (fun M w => ∃ pv u, w = .tuple #[pv, u, .int .i64 (rdgM B K ps).2] ∧ Pcs M u (rdgM B K ps).1 ∧ ((rdgM B K ps).2 = 0 → ∃ p, pv = .pointer (some ⟨p, 0, none⟩) ∧ BoardAt M p B K)) m) := by
  have hM : 0 < m.length := by obtain ⟨A1, O1, sl1, la1, rd1⟩ := hs; omega
  cases hg : goodB B K with
  | false =>
    have hN := fun T => newBoard_no (hs.old T) (hk.old T) hg
    have e : rdgM B K ps = ([], 2) := by unfold rdgM; rw [if_neg (by simp [hg])]
    rw [e]
    refine ACall.start Tryd.func48 rfl rfl ?_
    (repeat (first | (with_reducible refine AWo.cons ?_) | ((with_reducible refine Step.id ?_); first | ((with_reducible apply Step.move); exact rfl; exact rfl) | ((with_reducible apply Step.assign); exact rfl; exact rfl) | ((with_reducible apply Step.ptrNil); exact rfl; exact rfl; exact un100; exact rfl) | ((with_reducible apply Step.callR fit); exact rfl; exact Tryd.func34; exact rfl; exact rfl; exact (hN _))) | (with_reducible refine AWo.nil ?_) | ((with_reducible apply AW.seq)) | ((with_reducible apply Then.n)) | ((with_reducible apply AW.regL)) | ((with_reducible apply AW.condT); exact rfl; (focus (rfl)))))
    (refine AW.ret ?_; (repeat (first | refine Then.r ?_ | refine InBlk.r ?_)))
    exact ⟨_, rfl, [], rfl, _, _, rfl, by rw [List.append_nil]; exact Pcs.nil hM, fun h => by cases h⟩
  | true =>
    have hgb : boardB B = true := by simp only [goodB, Bool.and_eq_true] at hg; exact hg.1
    have hin := good_in hgb
    have hok : (wholeR B).ok (bw B) (bh B) := by
      simp only [R4.ok, wholeR]
      omega
    have hsz : (wholeR B).size ≤ 32 := by
      simp only [R4.size, wholeR]
      omega
    unfold rdgM
    rw [if_pos hg]
    refine ACall.start Tryd.func48 rfl rfl ?_
    (repeat (first | (with_reducible refine AWo.cons ?_) | ((with_reducible refine Step.id ?_); first | ((with_reducible apply Step.move); exact rfl; exact rfl) | ((with_reducible apply Step.assign); exact rfl; exact rfl)) | (with_reducible refine AWo.nil ?_) | ((with_reducible apply AW.seq)) | ((with_reducible apply Then.n)) | ((with_reducible apply AW.regL))))
    ((with_reducible apply Step.callX fit); exact rfl; exact Tryd.func34; exact rfl; exact rfl; exact (newBoard_ok (hs.old _) (hk.old _) hg))
    rintro _ m1 ⟨N1, hN1⟩ ⟨p, hp, rfl, hB⟩
    have w1 := fun T => whole_ok (hB.old T)
    have hv1 : PN m1 v ps := by rw [hN1]; exact (hv.old _).old _
    have hm1 : ∃ N, m1 = m ++ N := ⟨N1, by rw [hN1, List.append_nil]⟩
    have hR := read_ok hg hB 32 (Nat.le_refl _) hok hsz (m := m1 ++ [some { cells := [.slice none 0 0] }]) (F := m1.length + 0) (A := m1.length + 0) (l := []) (v := v) (ps := ps) ⟨_, rfl⟩ ⟨by omega, _, by rw [get_app]; rfl, .inl ⟨rfl, rfl⟩⟩ hv1 (by simpa using hlen) (by simp)
    change ∀ T, ACall Tryd.prog 37 _ _ (Ret (.agg (wholeR B).rc.cells.toArray) _) at w1
    generalize (wholeR B).rc = rr at *
    generalize rdM B K 32 (wholeR B) ps = x at *
    clear hN1
    (repeat (first | (with_reducible refine AWo.cons ?_) | ((with_reducible refine Step.id ?_); first | ((with_reducible apply Step.move); exact rfl; exact rfl) | ((with_reducible apply Step.assign); exact rfl; exact rfl) | ((with_reducible apply Step.ptrNot); exact rfl; exact rfl; exact un100; exact rfl) | ((with_reducible apply Step.callR fit); exact rfl; exact Tryd.func37; exact rfl; exact rfl; exact (w1 _)) | ((with_reducible apply Step.alloc 0); exact rfl; exact ze69; exact rfl; (focus (first | (simp only [List.nil_append, List.cons_append, List.set_cons_zero, List.set_cons_succ, iv_set, bv_set, iv_rep, bv_rep]; done) | (simp only [List.nil_append, List.cons_append, List.set_cons_zero, List.set_cons_succ, iv_set, bv_set, iv_rep, bv_rep]; rfl) | rfl)))) | (with_reducible refine AWo.nil ?_) | ((with_reducible apply AW.seq)) | ((with_reducible apply Then.n)) | ((with_reducible apply AW.regL)) | ((with_reducible apply AW.skip)) | ((with_reducible apply AW.condF); exact rfl; (focus (rfl)))))
    ((with_reducible apply Step.callZ fit); exact rfl; exact Tryd.func79; exact rfl; exact rfl; exact hR)
    rintro _ M2 hR2
    cases x with
    | none =>
      obtain ⟨hN2, u, rfl⟩ := hR2
      (repeat (first | (with_reducible refine AWo.cons ?_) | ((with_reducible refine Step.id ?_); first | ((with_reducible apply Step.gdF); exact rfl; exact rfl; (focus (rfl))) | ((with_reducible apply Step.move); exact rfl; exact rfl) | ((with_reducible apply Step.assign); exact rfl; exact rfl) | ((with_reducible apply Step.not); exact rfl; exact rfl) | ((with_reducible apply Step.extract); exact rfl; exact rfl; exact rfl) | ((with_reducible apply Step.pickT); exact rfl; exact rfl; exact rfl; exact rfl; (focus (rfl)))) | (with_reducible refine AWo.nil ?_) | ((with_reducible apply AW.seq)) | ((with_reducible apply Then.n)) | ((with_reducible apply AW.regL)) | ((with_reducible apply AW.condT); exact rfl; (focus (rfl)))))
      (refine AW.ret ?_; (repeat (first | refine Then.r ?_ | refine InBlk.r ?_)))
      obtain ⟨N1, hN1⟩ := hm1
      obtain ⟨N, hN⟩ := hN2
      exact ⟨_, rfl, N1 ++ N, by rw [List.append_nil, hN, hN1, List.append_assoc], _, _, rfl, Pcs.nil (by rw [List.append_nil, hN, hN1]; simp; omega), fun h => by cases h⟩
    | some x =>
      obtain ⟨l, ps'⟩ := x
      obtain ⟨hN2, u, A', rfl, hP2, hF2, hA2, hA3, hK2⟩ := hR2
      rw [List.nil_append] at hF2
      obtain ⟨fv, hfv, hpc⟩ := hF2.pcs
      obtain ⟨a, o, sl, _⟩ := hP2
      have hfv' : ∀ T, Rd (M2 ++ T) (m1.length + 0) 0 fv := fun T => hfv.old T
      obtain ⟨q, c, rfl⟩ := sl.shape
      cases ps' with
      | nil =>
        change Sl (.slice q 0 c) a o 0 at sl
        (repeat (first | (with_reducible refine AWo.cons ?_) | ((with_reducible refine Step.id ?_); first | ((with_reducible apply Step.gdT); exact rfl; exact rfl; (focus (rfl))) | ((with_reducible apply Step.move); exact rfl; exact rfl) | ((with_reducible apply Step.assign); exact rfl; exact rfl) | ((with_reducible apply Step.load); exact rfl; (focus (decide +kernel)); exact rfl; (focus (exact hfv' _))) | ((with_reducible apply Step.gtr); exact rfl; exact rfl; exact rfl) | ((with_reducible apply Step.len); exact rfl; (focus (assumption)); (focus (decide +kernel)); exact rfl) | ((with_reducible apply Step.not); exact rfl; exact rfl) | ((with_reducible apply Step.extract); exact rfl; exact rfl; exact rfl) | ((with_reducible apply Step.pickF); exact rfl; exact rfl; exact rfl; exact rfl; (focus (rfl)))) | (with_reducible refine AWo.nil ?_) | ((with_reducible apply AW.seq)) | ((with_reducible apply Then.n)) | ((with_reducible apply AW.regL)) | ((with_reducible apply AW.drawL fit); (focus (decide +kernel))) | ((with_reducible apply AW.skip)) | ((with_reducible apply AW.condF); exact rfl; (focus (rfl)))))
        (refine AW.ret ?_; (repeat (first | refine Then.r ?_ | refine InBlk.r ?_)))
        obtain ⟨N1, hN1⟩ := hm1
        obtain ⟨N, hN⟩ := hN2
        exact ⟨_, rfl, N1 ++ N, by rw [List.append_nil, hN, hN1, List.append_assoc], _, _, rfl, by rw [List.append_nil]; exact hpc, fun _ => ⟨p, rfl, by rw [List.append_nil, hN]; exact hB.old _⟩⟩
      | cons y ps' =>
        change Sl (.slice q (ps'.length + 1) c) a o (ps'.length + 1) at sl
        (repeat (first | (with_reducible refine AWo.cons ?_) | ((with_reducible refine Step.id ?_); first | ((with_reducible apply Step.gdT); exact rfl; exact rfl; (focus (rfl))) | ((with_reducible apply Step.move); exact rfl; exact rfl) | ((with_reducible apply Step.assign); exact rfl; exact rfl) | ((with_reducible apply Step.gtr); exact rfl; exact rfl; exact rfl) | ((with_reducible apply Step.len); exact rfl; (focus (assumption)); (focus (decide +kernel)); exact rfl) | ((with_reducible apply Step.not); exact rfl; exact rfl) | ((with_reducible apply Step.extract); exact rfl; exact rfl; exact rfl) | ((with_reducible apply Step.pickF); exact rfl; exact rfl; exact rfl; exact rfl; (focus (rfl)))) | (with_reducible refine AWo.nil ?_) | ((with_reducible apply AW.seq)) | ((with_reducible apply Then.n)) | ((with_reducible apply AW.regL)) | ((with_reducible apply AW.condT); exact rfl; (focus ((simp only [decide_eq_true_eq, decide_eq_false_iff_not, Bool.not_eq_true', Bool.not_eq_false', Bool.not_true, Bool.not_false]; first | assumption | omega))))))
        (refine AW.ret ?_; (repeat (first | refine Then.r ?_ | refine InBlk.r ?_)))
        obtain ⟨N1, hN1⟩ := hm1
        obtain ⟨N, hN⟩ := hN2
        exact ⟨_, rfl, N1 ++ N, by rw [List.append_nil, hN, hN1, List.append_assoc], _, _, rfl, Pcs.nil (by rw [List.append_nil, hN, hN1]; simp; omega), fun h => by cases h⟩
theorem rdgM_all {B : Brd} {K : List Kd} {ps : List Nd} : (rdgM B K ps).1.length ≤ ps.length ∧ ((rdgM B K ps).1 = [] ∨ goodB B K = true) ∧ ∀ x ∈ (rdgM B K ps).1, x.1 < K.length ∧ x.2.1.ok (bw B) (bh B) ∧ okB B (K.getD x.1 default) x.2.1 = true ∧ turnedB (K.getD x.1 default) x.2.1 = x.2.2 := by
  unfold rdgM
  split
  · rename_i hg
    have hgb : boardB B = true := by simp only [goodB, Bool.and_eq_true] at hg; exact hg.1
    have hin := good_in hgb
    have hok : (wholeR B).ok (bw B) (bh B) := by
      simp only [R4.ok, wholeR]
      omega
    split
    · rename_i l e
      have := rdM_len 32 e
      exact ⟨by simp only; omega, .inr hg, rdM_all 32 hok e⟩
    · exact ⟨by simp, .inl rfl, fun x hx => by simp at hx⟩
  · exact ⟨by simp, .inl rfl, fun x hx => by simp at hx⟩
theorem worthL_take (K : List Kd) (l : List Plc) {i : Nat} (h : i < l.length) : worthL K (l.take (i + 1)) = worthL K (l.take i) + (K.getD (l.getD i default).1 default).worth := by
  rw [take_snoc l i default h, worthL_app]
  simp [worthL]
set_option maxHeartbeats 8000000 in
set_option maxRecDepth 100000 in
theorem Read_ok {m : AM} {sv kv v : Value} {B : Brd} {K : List Kd} {ps : List Nd} (hs : Strs m sv B) (hk : Kds m kv K) (hv : PN m v ps) (hlen : ps.length ≤ 1000000) :
    ACall Tryd.prog 20 #[sv, kv, v] m (More (fun M w => ∃ u, w = .tuple #[u, .int .i64 (worthL K (rdgM B K ps).1), .int .i64 (rdgM B K ps).2] ∧ Pcs M u (rdgM B K ps).1) m) := by
  have hR := Reading_ok hs hk hv hlen
  obtain ⟨hl1, hl2, hl3⟩ := rdgM_all (B := B) (K := K) (ps := ps)
  generalize rdgM B K ps = x at *
  obtain ⟨l, e⟩ := x
  simp only at hR hl1 hl2 hl3 ⊢
  refine ACall.start Tryd.func20 rfl rfl ?_
  (repeat (first | (with_reducible refine AWo.cons ?_) | ((with_reducible refine Step.id ?_); first | ((with_reducible apply Step.move); exact rfl; exact rfl) | ((with_reducible apply Step.assign); exact rfl; exact rfl)) | (with_reducible refine AWo.nil ?_) | ((with_reducible apply AW.seq)) | ((with_reducible apply Then.n)) | ((with_reducible apply AW.regL))))
  rw [List.append_nil]
  ((with_reducible apply Step.callX fit); exact rfl; exact Tryd.func48; exact rfl; exact rfl; exact hR)
  rintro _ M1 ⟨N1, hN1⟩ ⟨pv, u, rfl, hpc, _⟩
  have hk1 : Kds M1 kv K := by rw [hN1]; exact hk.old _
  clear hR
  (repeat (first | (with_reducible refine AWo.cons ?_) | ((with_reducible refine Step.id ?_); first | ((with_reducible apply Step.move); exact rfl; exact rfl) | ((with_reducible apply Step.assign); exact rfl; exact rfl) | ((with_reducible apply Step.extract); exact rfl; exact rfl; exact rfl)) | (with_reducible refine AWo.nil ?_) | ((with_reducible apply Then.n))))
  rw [List.append_nil]
  refine AW.rebase ?_
  obtain ⟨A1, O1, sl1, la1, rd1⟩ := hk1
  obtain ⟨q1, c1, rfl⟩ := sl1.shape
  have hpc' := hpc
  obtain ⟨A2, O2, sl2, la2, rd2⟩ := hpc
  obtain ⟨q2, c2, rfl⟩ := sl2.shape
  have w1 : Low M1.length (.slice q1 K.length c1) := Low.of_sl sl1 la1
  have w2 : Low M1.length (.slice q2 l.length c2) := Low.of_sl sl2 la2
  (repeat (first | (with_reducible refine AWo.cons ?_) | ((with_reducible refine Step.id ?_); first | ((with_reducible apply Step.move); exact rfl; exact rfl) | ((with_reducible apply Step.assign); exact rfl; exact rfl) | ((with_reducible apply Step.len); exact rfl; (focus (assumption)); (focus (decide +kernel)); exact rfl)) | (with_reducible refine AWo.nil ?_) | ((with_reducible apply AW.seq)) | ((with_reducible apply Then.n)) | ((with_reducible apply AW.regL)) | ((with_reducible apply AW.block))))
  refine AW.loopT (fun n t L => ∃ i : Nat, n = l.length - i ∧ i ≤ l.length ∧ L = [] ∧
    t = [(1, .slice q1 K.length c1), (10, .slice q2 l.length c2), (11, .int .i64 e), (12, .int .i64 (worthL K (l.take i))), (23, .slice q2 l.length c2), (24, .int .i64 (l.length : Nat)), (25, .int .i64 (i : Nat))])
    ⟨_, _, _, (Or.inl ⟨rfl, (by repeat (first | exact trivial | (refine And.intro rfl ?_)))⟩), 0, rfl, Nat.zero_le _, rfl, rfl⟩ ?_
  rintro n t L ⟨i, rfl, hi, rfl, rfl⟩
  rcases Nat.lt_or_ge i l.length with hlt | hge
  · have rp := rd2 i hlt
    have hmem : l.getD i default ∈ l := by rw [getD_in _ _ hlt]; exact List.getElem_mem hlt
    have hx := (hl3 _ hmem).1
    have hw := worthL_take K l hlt
    have hgd : goodB B K = true := by
      rcases hl2 with h | h
      · rw [h] at hlt; simp at hlt
      · exact h
    have hKb : kindsB K = true := by simp only [goodB, Bool.and_eq_true] at hgd; exact hgd.2
    have hwi := worthL_in hKb (l.take i) (fun y hy => (hl3 y (List.mem_of_mem_take hy)).1)
    have htk : (l.take i).length ≤ l.length := by rw [List.length_take]; omega
    have hkd := kdB_in (kinds_get hKb hx)
    have rk := (rd1 _ hx).at_ 3 rfl
    generalize worthL K (l.take i) = ws at *
    generalize l.getD i default = y at *
    obtain ⟨yk, yr, yt⟩ := y
    simp only at rk hx hkd
    generalize (K.getD yk default).worth = kw at *
    simp only [plc1, Rc.cells, List.cons_append, List.nil_append] at rp
    (repeat (first | (with_reducible refine AWo.cons ?_) | ((with_reducible refine Step.id ?_); first | ((with_reducible apply Step.move); exact rfl; exact rfl) | ((with_reducible apply Step.assign); exact rfl; exact rfl) | ((with_reducible apply Step.load); exact rfl; (focus (decide +kernel)); exact rfl; (focus (first | exact Rd.new rfl rfl | exact Rd.old _ (by assumption)))) | ((with_reducible apply Step.loadL (n := 6)); exact rfl; (focus (decide +kernel)); (focus (decide +kernel)); exact rfl; (focus (exact RdL.old _ (by assumption))); exact rfl; exact rfl) | ((with_reducible apply Step.ix (s := 5)); exact rfl; (focus (assumption)); exact rfl; (focus (decide +kernel)); exact rfl; (focus (omega))) | ((with_reducible apply Step.ix (s := 6)); exact rfl; (focus (assumption)); exact rfl; (focus (decide +kernel)); exact rfl; (focus (omega))) | ((with_reducible apply Step.field0); exact rfl; (focus (decide +kernel)); exact rfl) | ((with_reducible apply Step.field (k := 3)); exact rfl; (focus (decide +kernel)); exact rfl) | ((with_reducible apply Step.add); exact rfl; exact rfl; (focus (omega)); exact rfl) | ((with_reducible apply Step.lss); exact rfl; exact rfl; exact rfl) | ((with_reducible apply Step.alloc 0); exact rfl; exact ze81; exact rfl; (focus (first | (simp only [List.nil_append, List.cons_append, List.set_cons_zero, List.set_cons_succ, iv_set, bv_set, iv_rep, bv_rep]; done) | (simp only [List.nil_append, List.cons_append, List.set_cons_zero, List.set_cons_succ, iv_set, bv_set, iv_rep, bv_rep]; rfl) | rfl))) | ((with_reducible apply Step.storeA (k := 0) (n := 6)); exact rfl; exact rfl; exact rfl; exact rfl; (focus (decide +kernel)); exact rfl; (focus (kernel_rfl)); exact rfl; (focus (first | (simp only [List.nil_append, List.cons_append, List.set_cons_zero, List.set_cons_succ, iv_set, bv_set, iv_rep, bv_rep]; done) | (simp only [List.nil_append, List.cons_append, List.set_cons_zero, List.set_cons_succ, iv_set, bv_set, iv_rep, bv_rep]; rfl) | rfl)))) | (with_reducible refine AWo.nil ?_) | ((with_reducible apply AW.seq)) | ((with_reducible apply Then.n)) | ((with_reducible apply AW.regL)) | ((with_reducible apply AW.block)) | ((with_reducible apply InBlk.n)) | ((with_reducible apply AW.skip)) | ((with_reducible apply AW.condT); exact rfl; (focus ((simp only [decide_eq_true_eq, decide_eq_false_iff_not, Bool.not_eq_true', Bool.not_eq_false', Bool.not_true, Bool.not_false]; first | assumption | omega))))))
    exact ⟨_, [(1, .slice q1 K.length c1), (10, .slice q2 l.length c2), (11, .int .i64 e), (12, .int .i64 (ws + kw)), (23, .slice q2 l.length c2), (24, .int .i64 (l.length : Nat)), (25, .int .i64 (i + 1 : Nat))], [], by omega, (Back.trim rfl rfl (by repeat (exact CellsOk.nil)) (by repeat (first | exact trivial | (refine And.intro ⟨rfl, by (first | exact Low.rid (by assumption) (by simp) | exact .int _ _)⟩ ?_)))), i + 1, rfl, by omega, rfl, by rw [hw]⟩
  · obtain rfl : i = l.length := by omega
    (repeat (first | (with_reducible refine AWo.cons ?_) | ((with_reducible refine Step.id ?_); first | ((with_reducible apply Step.move); exact rfl; exact rfl) | ((with_reducible apply Step.assign); exact rfl; exact rfl) | ((with_reducible apply Step.lss); exact rfl; exact rfl; exact rfl)) | (with_reducible refine AWo.nil ?_) | ((with_reducible apply AW.seq)) | ((with_reducible apply Then.n)) | ((with_reducible apply AW.regL)) | ((with_reducible apply AW.exit)) | ((with_reducible apply InBlk.hit)) | ((with_reducible apply Then.e)) | ((with_reducible apply AW.condF); exact rfl; (focus ((simp only [decide_eq_true_eq, decide_eq_false_iff_not, Bool.not_eq_true', Bool.not_eq_false', Bool.not_true, Bool.not_false]; first | assumption | omega))))))
    (refine AW.ret ?_; (repeat (first | refine Then.r ?_ | refine InBlk.r ?_)))
    exact ⟨_, rfl, N1, by rw [List.append_nil]; exact hN1, _, by rw [List.take_of_length_le (Nat.le_refl _)], by rw [List.append_nil]; exact hpc'⟩
end Go.Proofs.YtedbjmgchfgabaaDoor.Abs
namespace Go.Proofs.YtedbjmgchfgabaaDoor.Abs
set_option linter.unusedSimpArgs false
set_option linter.unusedVariables false
open Go.Proofs
section
variable {B : Brd} {K : List Kd}
/-- The plan of the rule is a plan. -/
theorem rd_plan (hg : goodB B K = true) : ∀ (f : Nat) (r : R4), r.ok (bw B) (bh B) → r.size ≤ f → ∀ q : List Nd, ∃ l, rdM B K f r (plM B K f r ++ q) = some (l, q) ∧ worthL K l = V (leafM B K) r
  | 0, r, hr, hs, _ => by unfold R4.ok at hr; unfold R4.size at hs; omega
  | f + 1, r, hr, hs, q => by
    have cut : ∀ d, lq (ctQ B K r d) (r.len d - 1) < r.len d - 1 → ∃ l, rdM B K (f + 1) r ((((opI d, ((lq (ctQ B K r d) (r.len d - 1) + 1 : Nat) : Int), false) : Nd) :: (plM B K f (r.lo d (lq (ctQ B K r d) (r.len d - 1) + 1)) ++ plM B K f (r.hi d (lq (ctQ B K r d) (r.len d - 1) + 1)))) ++ q) = some (l, q) ∧ worthL K l = V (leafM B K) r := fun d hd => by
      have hq := lq_at hd
      generalize lq (ctQ B K r d) (r.len d - 1) = i at *
      unfold ctQ at hq
      rw [decide_eq_true_eq] at hq
      have h1 : 1 ≤ i + 1 := by omega
      have h2 : i + 1 + 1 ≤ r.len d := by omega
      obtain ⟨l2, e2, w2⟩ := rd_plan hg f _ (hi_ok hr h1 h2) (by have := hi_size hr h1 h2; omega) q
      obtain ⟨l1, e1, w1⟩ := rd_plan hg f _ (lo_ok hr h1 h2) (by have := lo_size hr h1 h2; omega) (plM B K f (r.hi d (i + 1)) ++ q)
      refine ⟨l1 ++ l2, ?_, by rw [worthL_app, w1, w2, hq]⟩
      rw [List.cons_append, List.append_assoc, rd_docut d h1 h2, e1]
      simp only
      rw [e2]
    simp only [plM]
    by_cases c0 : V (leafM B K) r = 0
    · rw [if_pos c0]
      exact ⟨[], by rw [List.cons_append, rd_waste rfl, if_pos ⟨rfl, rfl⟩]; rfl, by rw [c0]; rfl⟩
    · rw [if_neg c0]
      by_cases c1 : lq (pkQ B K r) K.length < K.length
      · rw [if_pos c1]
        have hq := lq_at c1
        generalize lq (pkQ B K r) K.length = k at *
        unfold pkQ at hq
        rw [Bool.and_eq_true, decide_eq_true_eq] at hq
        refine ⟨[(k, r, turnedB (K.getD k default) r)], ?_, ?_⟩
        · rw [List.cons_append, rd_piece rfl]
          simp only [Int.toNat_natCast, List.nil_append]
          rw [if_pos ⟨by omega, by omega, hq.1, trivial⟩]
        · simp only [worthL]
          omega
      · rw [if_neg c1]
        by_cases c2 : lq (ctQ B K r true) (r.len true - 1) < r.len true - 1
        · rw [if_pos c2]
          exact cut true c2
        · rw [if_neg c2]
          have c3 := plan_open hr c0 c1 c2
          rw [if_pos c3]
          exact cut false c3
/-- A plan has no more nodes than twice the cells. -/
theorem plM_area : ∀ (f : Nat) (r : R4), r.ok (bw B) (bh B) → r.size ≤ f → (plM B K f r).length + 1 ≤ 2 * (r.a * r.b)
  | 0, r, hr, hs => by unfold R4.ok at hr; unfold R4.size at hs; omega
  | f + 1, r, hr, hs => by
    have hp : 1 ≤ r.a * r.b := by
      unfold R4.ok at hr
      exact Nat.mul_pos (by omega) (by omega)
    have cut : ∀ d, lq (ctQ B K r d) (r.len d - 1) < r.len d - 1 → (plM B K f (r.lo d (lq (ctQ B K r d) (r.len d - 1) + 1)) ++ plM B K f (r.hi d (lq (ctQ B K r d) (r.len d - 1) + 1))).length + 1 + 1 ≤ 2 * (r.a * r.b) := fun d hd => by
      generalize lq (ctQ B K r d) (r.len d - 1) = i at *
      have h1 : 1 ≤ i + 1 := by omega
      have h2 : i + 1 + 1 ≤ r.len d := by omega
      have e1 := plM_area f _ (hi_ok hr h1 h2) (by have := hi_size hr h1 h2; omega)
      have e2 := plM_area f _ (lo_ok hr h1 h2) (by have := lo_size hr h1 h2; omega)
      have e3 : (r.lo d (i + 1)).a * (r.lo d (i + 1)).b + (r.hi d (i + 1)).a * (r.hi d (i + 1)).b = r.a * r.b := by
        unfold R4.lo R4.hi R4.len at *
        cases d
        · simp only [Bool.false_eq_true, if_false] at *
          rw [← Nat.mul_add]; congr 1; omega
        · simp only [if_true] at *
          rw [← Nat.add_mul]; congr 1; omega
      rw [List.length_append]
      omega
    simp only [plM]
    split
    · simp only [List.length_cons, List.length_nil]; omega
    · split
      · simp only [List.length_cons, List.length_nil]; omega
      · split
        · rename_i c
          exact cut true c
        · split
          · rename_i c
            exact cut false c
          · simp only [List.length_nil]; omega
theorem planM_le (hg : goodB B K = true) : (planM B K).length ≤ 512 := by
  have hgb : boardB B = true := by simp only [goodB, Bool.and_eq_true] at hg; exact hg.1
  have hin := good_in hgb
  have hok : (wholeR B).ok (bw B) (bh B) := by
    simp only [R4.ok, wholeR]
    omega
  have h1 := plM_area (K := K) 32 (wholeR B) hok (by simp only [R4.size, wholeR]; omega)
  have h2 : (wholeR B).a * (wholeR B).b ≤ 16 * 16 := Nat.mul_le_mul hin.2.2.2 hin.2.1
  unfold planM
  omega
theorem best_V (hg : goodB B K = true) : bestM B K = V (leafM B K) (wholeR B) := by
  have hgb : boardB B = true := by simp only [goodB, Bool.and_eq_true] at hg; exact hg.1
  have hin := good_in hgb
  have hok : (wholeR B).ok (bw B) (bh B) := by
    simp only [R4.ok, wholeR]
    omega
  exact (bestT_ok (leaf := leafM B K) hin.2.2.2 hin.2.1).dn _ hok
theorem inR_lo {r : R4} {d : Bool} {i u v : Nat} (h2 : i + 1 ≤ r.len d) (h : inR (r.lo d i) u v = true) : inR r u v = true := by
  unfold inR at *
  rw [decide_eq_true_eq] at *
  unfold R4.lo R4.len at *
  cases d <;> simp only [if_true, Bool.false_eq_true, if_false] at * <;> omega
theorem inR_hi {r : R4} {d : Bool} {i u v : Nat} (h2 : i + 1 ≤ r.len d) (h : inR (r.hi d i) u v = true) : inR r u v = true := by
  unfold inR at *
  rw [decide_eq_true_eq] at *
  unfold R4.hi R4.len at *
  cases d <;> simp only [if_true, Bool.false_eq_true, if_false] at * <;> omega
theorem inR_parts {r : R4} {d : Bool} {i u v : Nat} (h2 : i + 1 ≤ r.len d) : ¬ (inR (r.lo d i) u v = true ∧ inR (r.hi d i) u v = true) := by
  unfold inR
  rw [decide_eq_true_eq, decide_eq_true_eq]
  unfold R4.lo R4.hi R4.len at *
  cases d <;> simp only [if_true, Bool.false_eq_true, if_false] at * <;> omega
theorem rdM_inr : ∀ (f : Nat) {r : R4} {p p' : List Nd} {l : List Plc}, rdM B K f r p = some (l, p') → ∀ x ∈ l, ∀ u v, inR x.2.1 u v = true → inR r u v = true
  | 0, _, _, _, _, h => by simp [rdM] at h
  | _ + 1, _, [], _, _, h => by simp [rdM] at h
  | f + 1, r, n :: p, p', l, h => by
    rcases rdM_cut h with ⟨rfl, rfl⟩ | ⟨k, _, _, _, rfl, rfl⟩ | ⟨d, i, l1, p1, l2, i1, i2, e1, e2, rfl⟩
    · intro x hx; simp at hx
    · intro x hx u v hu
      simp at hx
      subst hx
      exact hu
    · intro x hx u v hu
      rcases List.mem_append.1 hx with hx | hx
      · exact inR_lo i2 (rdM_inr f e1 x hx u v hu)
      · exact inR_hi i2 (rdM_inr f e2 x hx u v hu)
/-- Two pieces have no cell in common. -/
def Apart (x y : Plc) : Prop := ∀ u v, ¬ (inR x.2.1 u v = true ∧ inR y.2.1 u v = true)
theorem rdM_pw : ∀ (f : Nat) {r : R4} {p p' : List Nd} {l : List Plc}, rdM B K f r p = some (l, p') → l.Pairwise Apart
  | 0, _, _, _, _, h => by simp [rdM] at h
  | _ + 1, _, [], _, _, h => by simp [rdM] at h
  | f + 1, r, n :: p, p', l, h => by
    rcases rdM_cut h with ⟨rfl, rfl⟩ | ⟨k, _, _, _, rfl, rfl⟩ | ⟨d, i, l1, p1, l2, i1, i2, e1, e2, rfl⟩
    · exact List.Pairwise.nil
    · exact List.pairwise_singleton _ _
    · refine List.pairwise_append.2 ⟨rdM_pw f e1, rdM_pw f e2, fun x hx y hy u v hu => inR_parts i2 ⟨rdM_inr f e1 x hx u v hu.1, rdM_inr f e2 y hy u v hu.2⟩⟩
end
theorem rdg_plan {B : Brd} {K : List Kd} (hg : goodB B K = true) : ∃ l, rdgM B K (planM B K) = (l, 0) ∧ worthL K l = bestM B K ∧ l.Pairwise Apart := by
  have hgb : boardB B = true := by simp only [goodB, Bool.and_eq_true] at hg; exact hg.1
  have hin := good_in hgb
  have hok : (wholeR B).ok (bw B) (bh B) := by
    simp only [R4.ok, wholeR]
    omega
  obtain ⟨l, h1, h2⟩ := rd_plan hg 32 (wholeR B) hok (by simp only [R4.size, wholeR]; omega) []
  rw [List.append_nil] at h1
  refine ⟨l, ?_, by rw [h2, best_V hg], rdM_pw 32 h1⟩
  unfold rdgM planM
  rw [if_pos hg, h1]
section
variable {B B' : Brd} {g : Int}
theorem rowc_low {g' : Int} (hg : g' ≤ g) (y x : Nat) : ∀ k, rowc B g y x k ≤ rowc B g' y x k
  | 0 => Nat.le_refl _
  | k + 1 => by
    have h1 := rowc_low hg y x k
    simp only [rowc]
    split <;> split <;> omega
theorem cnt_low {g' : Int} (hg : g' ≤ g) (x y a : Nat) : ∀ k, cnt B g x y a k ≤ cnt B g' x y a k
  | 0 => Nat.le_refl _
  | k + 1 => by
    have h1 := cnt_low hg x y a k
    have h2 := rowc_low (B := B) hg (y + k) x a
    simp only [cnt]; omega
end
section
variable {B : Brd} {K : List Kd}
end
end Go.Proofs.YtedbjmgchfgabaaDoor.Abs
namespace Go.Proofs.YtedbjmgchfgabaaDoor.Abs
set_option linter.unusedSimpArgs false
set_option linter.unusedVariables false
section
variable {leaf : R4 → Int} {w h : Nat}
/-- Worth against a measure that adds up over the parts. -/
theorem V_ratio {mu : R4 → Int} {D W : Int} (hD : 0 ≤ D) (hW : 0 ≤ W) (h0 : ∀ r : R4, r.ok w h → 0 ≤ mu r) (hl : ∀ r : R4, r.ok w h → leaf r * D ≤ W * mu r) (hadd : ∀ (r : R4) (d : Bool) (i : Nat), r.ok w h → 1 ≤ i → i + 1 ≤ r.len d → mu (r.lo d i) + mu (r.hi d i) = mu r) :
    ∀ r : R4, r.ok w h → V leaf r * D ≤ W * mu r := by
  refine R4.ind fun r hr ih => ?_
  rw [V_eq hr]
  have h1 := hl r hr
  have hp : 0 ≤ W * mu r := Int.mul_nonneg hW (h0 r hr)
  have key : ∀ d, cutM (V leaf) r d * D ≤ W * mu r := fun d => by
    unfold cutM
    rcases mxc_wit (f := fun i => V leaf (r.lo d i) + V leaf (r.hi d i)) (r.len d - 1) with e | ⟨i, h2, h3, e⟩
    · rw [e]; simpa using hp
    · rw [e]
      have h4 : i + 1 ≤ r.len d := by omega
      have e1 := ih _ (lo_ok hr h2 h4) (lo_size hr h2 h4)
      have e2 := ih _ (hi_ok hr h2 h4) (hi_size hr h2 h4)
      have e3 := hadd r d i hr h2 h4
      rw [← e3, Int.mul_add, Int.add_mul]
      omega
  have k1 := key true
  have k2 := key false
  rcases Int.le_total (max (leaf r) (cutM (V leaf) r true)) (cutM (V leaf) r false) with a | a
  · rw [Int.max_eq_right a]; exact k2
  · rw [Int.max_eq_left a]
    rcases Int.le_total (leaf r) (cutM (V leaf) r true) with b | b
    · rw [Int.max_eq_right b]; exact k1
    · rw [Int.max_eq_left b]; exact h1
end
section
variable {B : Brd} {K : List Kd}
theorem cnt_lohi (g : Int) (r : R4) (d : Bool) {i : Nat} (h : i + 1 ≤ r.len d) : cnt B g (r.lo d i).x (r.lo d i).y (r.lo d i).a (r.lo d i).b + cnt B g (r.hi d i).x (r.hi d i).y (r.hi d i).a (r.hi d i).b = cnt B g r.x r.y r.a r.b := by
  unfold R4.lo R4.hi R4.len at *
  cases d
  · simp only [Bool.false_eq_true, if_false] at *
    rw [← cnt_addY]
    congr 1
    omega
  · simp only [if_true] at *
    rw [← cnt_addX]
    congr 1
    omega
/-- No plan is worth more than the usable cells at the dearest kind's worth. -/
theorem dearest_bound (hg : goodB B K = true) {x : Kd} (hx : kdB x = true) (hd : ∀ y ∈ K, y.worth * x.w * x.h ≤ x.worth * y.w * y.h) : bestM B K * (x.w * x.h) ≤ x.worth * (cnt B 1 0 0 (bw B) (bh B) : Nat) := by
  have hgb : boardB B = true := by simp only [goodB, Bool.and_eq_true] at hg; exact hg.1
  have hKb : kindsB K = true := by simp only [goodB, Bool.and_eq_true] at hg; exact hg.2
  have hxi := kdB_in hx
  have hin := good_in hgb
  have hok : (wholeR B).ok (bw B) (bh B) := by
    simp only [R4.ok, wholeR]
    omega
  rw [best_V hg]
  refine V_ratio (w := bw B) (h := bh B) (mu := fun r => (cnt B 1 r.x r.y r.a r.b : Nat)) (Int.mul_nonneg (by omega) (by omega)) (by omega) (fun r _ => by omega) (fun r hr => ?_) (fun r d i hr h1 h2 => ?_) _ hok
  · have hp : 0 ≤ x.worth * ((cnt B 1 r.x r.y r.a r.b : Nat) : Int) := Int.mul_nonneg (by omega) (by omega)
    unfold leafM
    rcases leafN_wit (B := B) (K := K) (r := r) K.length with e | ⟨i, hi, hf, e⟩
    · rw [e]; simpa using hp
    · rw [e]
      have hk := kdB_in (kinds_get hKb hi)
      have hy := hd (K.getD i default) (by rw [getD_in _ _ hi]; exact List.getElem_mem hi)
      generalize K.getD i default = y at *
      have harea : y.w * y.h = ((r.a * r.b : Nat) : Int) ∧ cnt B y.g r.x r.y r.a r.b = r.a * r.b := by
        unfold fitsM at hf
        split at hf
        · rename_i h1
          split at hf
          · rename_i h2
            exact ⟨by rw [h1.1, h1.2, Int.natCast_mul], h2⟩
          · cases hf
        · split at hf
          · rename_i h1
            split at hf
            · rename_i h2
              exact ⟨by rw [h1.2.1, h1.2.2, Int.natCast_mul, Int.mul_comm], h2⟩
            · cases hf
          · cases hf
      have hlow := cnt_low (B := B) (g := y.g) (g' := 1) (by omega) r.x r.y r.a r.b
      have hle := cnt_le B 1 r.x r.y r.a r.b
      have ec : cnt B 1 r.x r.y r.a r.b = r.a * r.b := by omega
      rw [ec, ← harea.1, ← Int.mul_assoc, ← Int.mul_assoc]
      exact hy
  · have := cnt_lohi (B := B) 1 r d h2
    omega
end
end Go.Proofs.YtedbjmgchfgabaaDoor.Abs
namespace Go.Proofs.YtedbjmgchfgabaaDoor.Abs
set_option linter.unusedSimpArgs false
set_option linter.unusedVariables false
open Go.RowKit
open Go.Proofs.YtedbjmgchfgabaaDoor.Sim
def by8 (l : List UInt8) : List Value := l.map fun b => .int .u8 (b.toNat : Int)
theorem by8_len (l : List UInt8) : (by8 l).length = l.length := by simp [by8]
theorem by8_get {l : List UInt8} {j : Nat} (h : j < l.length) : (by8 l)[j]? = some (.int .u8 ((l[j]).toNat : Int)) := by simp [by8, h]
theorem by8_app (a b : List UInt8) : by8 (a ++ b) = by8 a ++ by8 b := by simp [by8]
section
variable {P : Program} {nt : Nat} {ops : Array Oper} {t : Fm} {m : AM} {K : Fm → AM → Prop} {d T : Nat} {p : String} {af : Array Edge}
/-- A string made of bytes. -/
theorem Step.toStr {x : Operand} {S D e a o n : Nat} {v : Value} {l : List UInt8} (hx : evo t x = some v) (hs : Sl v a o n) (hn : l.length = n) (hrd : RdL m a o (by8 l)) (hS : P.underlying S = some (.slice e)) (he : P.underlying e = some (.int .u8)) (hD : P.underlying D = some .string)
    (hlt : Nat.blt d nt = true) (hK : K (put t d (.string ⟨l.toArray⟩)) m) : Step P nt ops ⟨some d, .convert S D x, T, p, af, none⟩ t m K := by
  refine .l rfl rfl hlt (by simp [stillB, hS]) (by simp [Op.operands, hx]) ?_
  intro base R w b Q next hb hm hev hn'
  have h1 := hev x (by simp [Op.operands])
  rw [evD_of hx] at h1
  have hrun : (convert S D (b.eval x)).run P w = .ok (.string ⟨l.toArray⟩) w := by
    generalize b.eval x = x' at h1
    rcases hs with ⟨rfl, h0⟩ | ⟨c, hc, rfl⟩ | ⟨h0, o', k, rfl⟩
    · obtain rfl : l = [] := List.eq_nil_of_length_eq_zero (by omega)
      cases h1
      rw [run_convert_bytes_string w S D e none 0 0 hS he hD]
      simp [Conv.bytesToString]
      rfl
    · cases h1 with
      | slice _ _ _ _ q hq hle =>
      subst hn
      refine run_convert_bytes_back w S D e _ _ l hS he hD fun j hj => ?_
      obtain ⟨blk, k1, k2⟩ := hrd
      obtain ⟨v', r1, r2⟩ := (hm.of k1 hq).cell (k2 j _ (by8_get hj))
      rw [Addr.add_lit]
      cases r2
      rw [Nat.add_assoc]
      exact r1
    · obtain rfl : l = [] := List.eq_nil_of_length_eq_zero (by omega)
      subst h0
      cases h1 with
      | sliceSpot _ _ _ q hq => exact run_convert_bytes_back w S D e _ _ [] hS he hD fun j hj => by simp at hj
  exact wp_of_does rfl (.inl (by simp [execOp, hrun])) (hn' R (.string ⟨l.toArray⟩) _ m w (.string _) (.refl hm) hK)
/-- A row of bytes made of a string. -/
theorem Step.toBytes {x : Operand} {S D e : Nat} {s : ByteArray} (hx : evo t x = some (.string s)) (hS : P.underlying S = some .string) (hD : P.underlying D = some (.slice e)) (he : P.underlying e = some (.int .u8))
    (hlt : Nat.blt d nt = true) (hK : K (put t d (.slice (some ⟨m.length, 0, none⟩) s.size s.size)) (m ++ [some { cells := by8 s.data.toList, kind := .str, size := 1 }])) : Step P nt ops ⟨some d, .convert S D x, T, p, af, none⟩ t m K := by
  refine .l rfl rfl hlt (by simp [stillB, hS]) (by simp [Op.operands, hx]) ?_
  intro base R w b Q next hb hm hev hn'
  have h1 := hev x (by simp [Op.operands])
  rw [evD_of hx] at h1
  have ex : b.eval x = .string s := by
    generalize b.eval x = x' at h1
    cases h1
    rfl
  have hr := run_bytes_of_string (P := P) w S D e s hS hD he
  have hge := grownCap_ge w s.size 0 e
  generalize grownCap w s.size 0 e = cap at hr hge
  have hsz : (bytesRow s cap).size = cap := by
    have : s.data.size = s.size := rfl
    simp only [bytesRow, Array.size_append, Array.size_map, Array.size_replicate]
    omega
  have hbl : Below w.heap.size w (w.drew.alloc (.cells (bytesRow s cap) e ((bytesRow s cap).size, (bytesRow s cap).size + 1))) := ((Below.refl _ _).drew).alloc (Nat.le_refl _) _
  have hnone := hm.none_ _ (Nat.le_refl _)
  obtain ⟨k1, k2⟩ := (hm.pad 1).put (w' := w.drew.alloc (.cells (bytesRow s cap) e ((bytesRow s cap).size, (bytesRow s cap).size + 1))) m.length (by simp) (by simp) hnone { cells := by8 s.data.toList, kind := .str, size := 1 } ⟨w.heap.size, 0, cap - s.size⟩ hbl.block rfl (by
    refine ⟨by simp, bytesRow s cap, e, heap_alloc_new w.drew _, hb, ?_, fun j v hj => ?_⟩
    · have : s.data.size = s.size := rfl
      simp only [by8_len, Array.length_toList, hsz]
      omega
    · have hjl : j < s.data.toList.length := by
        have := (List.getElem?_eq_some_iff.1 hj).1
        simpa [by8_len] using this
      rw [by8_get hjl] at hj
      injection hj with hj
      subst hj
      refine ⟨_, ?_, .int _ _, rfl⟩
      have hjs : j < s.data.size := by simpa using hjl
      have hj2 : j < s.size := hjs
      simp [bytesRow, Array.getElem?_append, hj2, hjs])
  have e1 : (m ++ List.replicate 1 none).set m.length (some { cells := by8 s.data.toList, kind := .str, size := 1 }) = m ++ [some { cells := by8 s.data.toList, kind := .str, size := 1 }] := by
    rw [List.set_append_right _ _ (Nat.le_refl _)]
    simp
  rw [e1] at k2
  have hx' : (execOp b.eval ⟨some d, .convert S D x, T, p, af, none⟩).run P w = .ok (.value (.slice (some ⟨w.heap.size, 0, none⟩) s.size cap)) (w.drew.alloc (.cells (bytesRow s cap) e ((bytesRow s cap).size, (bytesRow s cap).size + 1))) := by
    simp only [execOp, ex, Sem.run_bind, hr, Result.andThen_ok]
    rfl
  refine wp_of_does rfl (.inl hx') (hn' (R.put m.length ⟨w.heap.size, 0, cap - s.size⟩) _ _ _ _ ?_ ⟨k1, k2, rfl, rfl, rfl, hbl.size, fun k hk _ => hbl.block k hk, fun k ho => ?_⟩ hK)
  · have := Rel.slice (R := R.put m.length ⟨w.heap.size, 0, cap - s.size⟩) m.length 0 s.size s.size ⟨w.heap.size, 0, cap - s.size⟩ (Pl.put_same _ _ _) (Nat.le_refl _)
    rw [show s.size + (cap - s.size) = cap by omega] at this
    simpa using this
  · rw [← e1] at ho
    rcases ho.of_put with e | e
    · exact .inl (by rw [e]; exact Nat.le_refl _)
    · exact .inr e.pad
end
end Go.Proofs.YtedbjmgchfgabaaDoor.Abs
namespace Go.Proofs.YtedbjmgchfgabaaDoor.Abs
set_option linter.unusedSimpArgs false
set_option linter.unusedVariables false
open Go.RowKit
open Go.Proofs.YtedbjmgchfgabaaDoor.Sim
open Go.Proofs
section
variable {P : Program} {nt : Nat} {ops : Array Oper} {t : Fm} {m : AM} {K : Fm → AM → Prop} {d T : Nat} {p : String} {af : Array Edge}
/-- A cell of a block set, whatever the block. -/
theorem Step.storeAt {x y : Operand} {ty : TypeId} {a o sz : Nat} {c : List Value} {kd : Kind} {v : Value} (hx : evo t x = some (.pointer (some ⟨a, o, none⟩))) (hy : evo t y = some v) (hb : m[a]? = some (some { cells := c, kind := kd, size := sz })) (hz : szB P ty = some 1) (hs : kd.solid = true) (ho : o < c.length) (hv : v.cells = #[v]) (hv1 : v.oneCell' = true)
    (hK : K t (m.set a (some { cells := c.set o v, kind := kd, size := sz }))) : Step P nt ops ⟨none, .store ty x y, T, p, af, none⟩ t m K := by
  refine .l0 rfl rfl rfl (by simp [Op.operands, hx, hy]) (loud_of_aloud0 (v := undef) (m' := m.set a (some { cells := c.set o v, kind := kd, size := sz })) rfl ?_ hK)
  have hsp : splice c o [v] = c.set o v := by
    unfold splice
    rw [List.set_eq_take_append_cons_drop]
    simp [ho]
  simp only [aloud, evD_of hx, evD_of hy, astore, hb, hz]
  rw [if_pos (by simp [hs, hv, hv1]; omega)]
  simp only [hv]
  simp [hsp]
end
/-- How many bytes of each grade. -/
def hist (l : List UInt8) : List Int := (List.range 10).map fun g => ((l.countP (fun b => decide (b.toNat = 48 + g)) : Nat) : Int)
theorem hist_len (l : List UInt8) : (hist l).length = 10 := by simp [hist]
theorem hist_get (l : List UInt8) {g : Nat} (h : g < 10) : (hist l).getD g 0 = ((l.countP (fun b => decide (b.toNat = 48 + g)) : Nat) : Int) := by simp [hist, h]
theorem hist_step (l : List UInt8) (b : UInt8) (h : 48 ≤ b.toNat ∧ b.toNat ≤ 57) : (hist l).set (b.toNat - 48) ((hist l).getD (b.toNat - 48) 0 + 1) = hist (l ++ [b]) := by
  rw [hist_get l (by omega)]
  apply List.ext_getElem
  · simp [hist]
  · intro i h1 h2
    have hi : i < 10 := by simpa [hist] using h2
    rw [List.getElem_set]
    by_cases e : b.toNat - 48 = i
    · rw [if_pos e]
      subst e
      simp only [hist, List.getElem_map, List.getElem_range, List.countP_append, List.countP_singleton]
      rw [show decide (b.toNat = 48 + (b.toNat - 48)) = true from decide_eq_true (by omega)]
      simp
    · rw [if_neg e]
      simp only [hist, List.getElem_map, List.getElem_range, List.countP_append, List.countP_singleton]
      rw [show decide (b.toNat = 48 + i) = false from decide_eq_false (by omega)]
      simp
theorem hist_bd (l : List UInt8) {g : Nat} (h : g < 10) : 0 ≤ (hist l).getD g 0 ∧ (hist l).getD g 0 ≤ l.length := by
  rw [hist_get l h]
  have := List.countP_le_length (p := fun b : UInt8 => decide (b.toNat = 48 + g)) (l := l)
  omega
def bytesT (B : Brd) (y : Nat) : List UInt8 := (B.take y).flatMap fun s => s.data.toList
theorem bytesT_succ (B : Brd) {y : Nat} (h : y < B.length) : bytesT B (y + 1) = bytesT B y ++ (rowOf B y).data.toList := by
  unfold bytesT
  rw [take_snoc B y ByteArray.empty h, List.flatMap_append]
  simp [rowOf]
theorem bytesT_len {B : Brd} (hv : skinB B = true) : ∀ y, y ≤ B.length → (bytesT B y).length ≤ 48 * y
  | 0, _ => by unfold bytesT; rw [List.take_zero]; exact Nat.zero_le _
  | y + 1, h => by
    have ih := bytesT_len hv y (by omega)
    have hr := (skinRow hv (show y < bh B from h)).1
    have hin := skin_in hv
    rw [bytesT_succ B (by omega), List.length_append]
    have : (rowOf B y).data.toList.length = (rowOf B y).size := Array.length_toList
    omega
theorem ze114 : zeroB Tryd.prog 114 = some (iv (List.replicate 10 0)).toArray := by kernel_rfl
theorem un114 : Tryd.prog.underlying 114 = some (.array 10 3) := by kernel_rfl
theorem un96' : Tryd.prog.underlying 96 = some (.slice 5) := by kernel_rfl
theorem un5' : Tryd.prog.underlying 5 = some (.int .u8) := by kernel_rfl
theorem sz3' : szB Tryd.prog 3 = some 1 := by kernel_rfl
theorem solid_own : Kind.own.solid = true := rfl
set_option maxHeartbeats 8000000 in
set_option maxRecDepth 100000 in
theorem Grades_ok {m : AM} {sv : Value} {B : Brd} (hs : Strs m sv B) (hv : skinB B = true) : ACall Tryd.prog 23 #[sv] m (More (fun M v => ∃ u, v = .tuple #[u, .int .i64 0] ∧ Ints M u (hist (bytesT B B.length))) m) := by
  have hin := skin_in hv
  have hB : B.length ≤ 48 := hin.1.2
  have hv1 := fun T => Valid_ok (hs.old T)
  rw [hv] at hv1
  obtain ⟨A, O, sl, la, rd⟩ := id hs
  refine ACall.start Tryd.func23 rfl rfl ?_
  (repeat (first | (with_reducible refine AWo.cons ?_) | ((with_reducible refine Step.id ?_); first | ((with_reducible apply Step.move); exact rfl; exact rfl) | ((with_reducible apply Step.assign); exact rfl; exact rfl) | ((with_reducible apply Step.len); exact rfl; (focus (assumption)); (focus (decide +kernel)); exact rfl) | ((with_reducible apply Step.not); exact rfl; exact rfl) | ((with_reducible apply Step.callR fit); exact rfl; exact Tryd.func28; exact rfl; exact rfl; exact (hv1 _)) | ((with_reducible apply Step.alloc 0); exact rfl; exact ze114; exact rfl; (focus (first | (simp only [List.nil_append, List.cons_append, List.set_cons_zero, List.set_cons_succ, iv_set, bv_set, iv_rep, bv_rep]; done) | (simp only [List.nil_append, List.cons_append, List.set_cons_zero, List.set_cons_succ, iv_set, bv_set, iv_rep, bv_rep]; rfl) | rfl)))) | (with_reducible refine AWo.nil ?_) | ((with_reducible apply AW.seq)) | ((with_reducible apply Then.n)) | ((with_reducible apply AW.regL)) | ((with_reducible apply AW.block)) | ((with_reducible apply AW.skip)) | ((with_reducible apply AW.condF); exact rfl; (focus (rfl)))))
  refine AW.loopW (fun n t M => ∃ y : Nat, n = B.length - y ∧ y ≤ B.length ∧ (∃ N, M = m ++ N) ∧ M[m.length]? = some (some { cells := iv (hist (bytesT B y)) }) ∧
    t = fr [(4, .pointer (some ⟨m.length + 0, 0, none⟩)), (12, sv), (13, .int .i64 (B.length : Nat)), (14, .int .i64 (y : Nat))])
    ⟨_, _, (by repeat (first | exact trivial | (refine And.intro rfl ?_))), 0, rfl, Nat.zero_le _, ⟨_, rfl⟩, by simp; rfl, rfl⟩ ?_
  rintro n t M ⟨y, rfl, hy, hp, hc, rfl⟩
  rcases Nat.lt_or_ge y B.length with hlt | hge
  · have hrow := skinRow hv (show y < bh B from hlt)
    have rsy : Rd M A (O + y) (.string (rowOf B y)) := by obtain ⟨N, rfl⟩ := hp; exact (rd y hlt).old _
    have hb := bytesT_len hv y hy
    have hsucc := bytesT_succ B hlt
    have hsz : (rowOf B y).data.toList.length = (rowOf B y).size := Array.length_toList
    have hw48 : (rowOf B y).size ≤ 48 := by rw [hrow.1]; exact hin.2.2
    have hbyte : ∀ x, (h : x < (rowOf B y).size) → (by8 (rowOf B y).data.toList)[x]? = some (.int .u8 (byteAt (rowOf B y) x : Nat)) := fun x h => by
      rw [by8_get (by rw [hsz]; exact h)]
      congr 2
      unfold byteAt
      rw [getElem?_pos _ x h]
      rfl
    have hr2 := hrow.2
    rw [← hrow.1] at hr2
    generalize rowOf B y = s at *
    refine AW.rebase ?_
    rw [List.append_nil]
    (repeat (first | (with_reducible refine AWo.cons ?_) | ((with_reducible refine Step.id ?_); first | ((with_reducible apply Step.move); exact rfl; exact rfl) | ((with_reducible apply Step.assign); exact rfl; exact rfl) | ((with_reducible apply Step.load); exact rfl; (focus (decide +kernel)); exact rfl; (focus (assumption))) | ((with_reducible apply Step.ix1); exact rfl; (focus (assumption)); exact rfl; (focus (decide +kernel)); exact rfl; (focus (omega))) | ((with_reducible apply Step.lss); exact rfl; exact rfl; exact rfl)) | (with_reducible refine AWo.nil ?_) | ((with_reducible apply AW.seq)) | ((with_reducible apply Then.n)) | ((with_reducible apply AW.regL)) | ((with_reducible apply AW.block)) | ((with_reducible apply AW.skip)) | ((with_reducible apply AW.condT); exact rfl; (focus ((simp only [decide_eq_true_eq, decide_eq_false_iff_not, Bool.not_eq_true', Bool.not_eq_false', Bool.not_true, Bool.not_false]; first | assumption | omega))))))
    ((with_reducible apply Step.toBytes); exact rfl; exact un9; exact un96'; exact un5'; exact rfl)
    (repeat (first | (with_reducible refine AWo.cons ?_) | ((with_reducible refine Step.id ?_); first | ((with_reducible apply Step.move); exact rfl; exact rfl) | ((with_reducible apply Step.len); exact rfl; (focus (exact Sl.mk (by omega))); (focus (decide +kernel)); exact rfl)) | (with_reducible refine AWo.nil ?_) | ((with_reducible apply Then.n)) | ((with_reducible apply AW.block))))
    refine AW.loopW (fun n t M' => ∃ x : Nat, n = s.size - x ∧ x ≤ s.size ∧ (∃ N, M' = m ++ N) ∧ M'[m.length]? = some (some { cells := iv (hist (bytesT B y ++ s.data.toList.take x)) }) ∧ M'[M.length]? = some (some { cells := by8 s.data.toList, kind := .str, size := 1 }) ∧
      t = fr [(4, .pointer (some ⟨m.length + 0, 0, none⟩)), (12, sv), (13, .int .i64 (B.length : Nat)), (14, .int .i64 (y : Nat)), (19, .slice (some ⟨M.length, 0, none⟩) s.size s.size), (20, .int .i64 (s.size : Nat)), (21, .int .i64 (x : Nat))])
      ⟨_, _, (by repeat (first | exact trivial | (refine And.intro rfl ?_))), 0, rfl, Nat.zero_le _, by obtain ⟨N, rfl⟩ := hp; exact ⟨_, List.append_assoc _ _ _⟩, by rw [List.getElem?_append_left (List.getElem?_eq_some_iff.1 hc).1]; simpa using hc, by simp, rfl⟩ ?_
    rintro n t M' ⟨x, rfl, hx, hp', hc', hstr, rfl⟩
    rcases Nat.lt_or_ge x s.size with hxl | hxg
    · have r8 : Rd M' M.length x (.int .u8 (byteAt s x : Nat)) := ⟨_, hstr, hbyte x hxl⟩
      have hbx := hr2 x hxl
      have e8 : (byteAt s x : Int) - 48 = ((byteAt s x - 48 : Nat) : Int) := by omega
      generalize hk : byteAt s x - 48 = k at *
      have hk10 : k < 10 := by omega
      have hl := hist_bd (bytesT B y ++ s.data.toList.take x) hk10
      rw [List.length_append, List.length_take] at hl
      have hM' : m.length < M'.length := (List.getElem?_eq_some_iff.1 hc').1
      have hset := hist_step (bytesT B y ++ s.data.toList.take x) (byte8 s x) (by rw [← byteAt_8]; exact hbx)
      rw [← byteAt_8, hk] at hset
      have htk : s.data.toList.take (x + 1) = s.data.toList.take x ++ [byte8 s x] := by
        rw [List.take_succ_eq_append_getElem (by rw [hsz]; exact hxl)]
        congr 2
        unfold byte8
        rw [getElem?_pos _ x hxl]
        rfl
      rw [List.append_assoc, ← htk] at hset
      have hlh := hist_len (bytesT B y ++ s.data.toList.take x)
      generalize hist (bytesT B y ++ s.data.toList.take x) = H at *
      have rc : Rd M' m.length (0 + k * 1) (.int .i64 (H.getD k 0)) := ⟨_, hc', by rw [Nat.zero_add, Nat.mul_one]; exact iv_get (by omega)⟩
      have hmM : m.length < M.length := (List.getElem?_eq_some_iff.1 hc).1
      generalize H.getD k 0 = hv0 at *
      (repeat (first | (with_reducible refine AWo.cons ?_) | ((with_reducible refine Step.id ?_); first | ((with_reducible apply Step.move); exact rfl; exact rfl) | ((with_reducible apply Step.assign); exact rfl; exact rfl) | ((with_reducible apply Step.load); exact rfl; (focus (decide +kernel)); exact rfl; (focus (assumption))) | ((with_reducible apply Step.ix1z); exact rfl; (focus (exact Sl.mk (by omega))); exact rfl; (focus (decide +kernel)); exact rfl; (focus (omega))) | ((with_reducible apply Step.lss); exact rfl; exact rfl; exact rfl)) | (with_reducible refine AWo.nil ?_) | ((with_reducible apply AW.seq)) | ((with_reducible apply Then.n)) | ((with_reducible apply AW.regL)) | ((with_reducible apply AW.block)) | ((with_reducible apply AW.skip)) | ((with_reducible apply AW.condT); exact rfl; (focus ((simp only [decide_eq_true_eq, decide_eq_false_iff_not, Bool.not_eq_true', Bool.not_eq_false', Bool.not_true, Bool.not_false]; first | assumption | omega))))))
      ((with_reducible apply Step.subU); exact rfl; exact rfl; (focus (omega)); exact rfl)
      rw [e8]
      (repeat (first | (with_reducible refine AWo.cons ?_) | ((with_reducible refine Step.id ?_); first | ((with_reducible apply Step.load); exact rfl; (focus (decide +kernel)); exact rfl; (focus (assumption))) | ((with_reducible apply Step.ixA (s := 1) (n := 10)); exact rfl; exact rfl; (focus (kernel_rfl)); exact rfl; (focus (omega))) | ((with_reducible apply Step.add); exact rfl; exact rfl; (focus (omega)); exact rfl))))
      ((with_reducible apply Step.storeAt); exact rfl; exact rfl; exact hc'; exact sz3'; exact solid_own; (focus (rw [Nat.zero_add, Nat.mul_one, iv_len]; omega)); exact rfl; exact rfl)
      (repeat (first | (with_reducible refine AWo.cons ?_) | ((with_reducible refine Step.id ?_); first | ((with_reducible apply Step.move); exact rfl; exact rfl) | ((with_reducible apply Step.add); exact rfl; exact rfl; (focus (omega)); exact rfl)) | (with_reducible refine AWo.nil ?_) | ((with_reducible apply Then.n)) | ((with_reducible apply AW.regL)) | ((with_reducible apply InBlk.n))))
      refine ⟨_, _, by omega, (by repeat (first | exact trivial | (refine And.intro rfl ?_))), x + 1, rfl, by omega, ?_, ?_, ?_, rfl⟩
      · obtain ⟨N, rfl⟩ := hp'
        exact ⟨_, List.set_append_right _ _ (Nat.le_refl _)⟩
      · rw [← hset, iv_set, Nat.zero_add, Nat.mul_one]
        exact List.getElem?_set_self hM'
      · exact (List.getElem?_set_ne (by omega)).trans hstr
    · obtain rfl : x = s.size := by omega
      have htk : s.data.toList.take s.size = s.data.toList := List.take_of_length_le (by omega)
      rw [htk, ← hsucc] at hc'
      (repeat (first | (with_reducible refine AWo.cons ?_) | ((with_reducible refine Step.id ?_); first | ((with_reducible apply Step.move); exact rfl; exact rfl) | ((with_reducible apply Step.add); exact rfl; exact rfl; (focus (omega)); exact rfl) | ((with_reducible apply Step.lss); exact rfl; exact rfl; exact rfl)) | (with_reducible refine AWo.nil ?_) | ((with_reducible apply AW.seq)) | ((with_reducible apply Then.n)) | ((with_reducible apply AW.regL)) | ((with_reducible apply AW.exit)) | ((with_reducible apply InBlk.n)) | ((with_reducible apply InBlk.hit)) | ((with_reducible apply Then.e)) | ((with_reducible apply AW.condF); exact rfl; (focus ((simp only [decide_eq_true_eq, decide_eq_false_iff_not, Bool.not_eq_true', Bool.not_eq_false', Bool.not_true, Bool.not_false]; first | assumption | omega))))))
      exact ⟨_, _, by omega, (by repeat (first | exact trivial | (refine And.intro rfl ?_))), y + 1, rfl, by omega, hp', hc', rfl⟩
  · obtain rfl : y = B.length := by omega
    have how : OwnAt M (m.length + 0) [] := ⟨_, by rw [List.append_nil]; exact hc, rfl⟩
    have hM : m.length < M.length := (List.getElem?_eq_some_iff.1 hc).1
    refine AW.rebase ?_
    (repeat (first | (with_reducible refine AWo.cons ?_) | ((with_reducible refine Step.id ?_); first | ((with_reducible apply Step.assign); exact rfl; exact rfl) | ((with_reducible apply Step.arr); exact rfl; (focus (first | assumption | exact OwnAt.new rfl rfl)); exact un114; exact sz3'; exact rfl; exact rfl; (focus (first | (simp only [List.nil_append, List.cons_append, List.set_cons_zero, List.set_cons_succ, iv_set, bv_set, iv_rep, bv_rep]; done) | (simp only [List.nil_append, List.cons_append, List.set_cons_zero, List.set_cons_succ, iv_set, bv_set, iv_rep, bv_rep]; rfl) | rfl))) | ((with_reducible apply Step.lss); exact rfl; exact rfl; exact rfl)) | (with_reducible refine AWo.nil ?_) | ((with_reducible apply AW.seq)) | ((with_reducible apply Then.n)) | ((with_reducible apply AW.regL)) | ((with_reducible apply AW.exit)) | ((with_reducible apply InBlk.hit)) | ((with_reducible apply Then.e)) | ((with_reducible apply AW.condF); exact rfl; (focus ((simp only [decide_eq_true_eq, decide_eq_false_iff_not, Bool.not_eq_true', Bool.not_eq_false', Bool.not_true, Bool.not_false]; first | assumption | omega))))))
    (refine AW.ret ?_; (repeat (first | refine Then.r ?_ | refine InBlk.r ?_)))
    obtain ⟨N, hN⟩ := hp
    refine ⟨_, rfl, N ++ [none], by rw [hN, List.append_assoc], _, rfl, m.length, 0, by rw [hist_len]; exact Sl.mk (Nat.le_refl _), by rw [List.length_append]; omega, fun k hk => ⟨_, by rw [List.getElem?_append_left hM]; exact hc, by rw [Nat.zero_add]; exact iv_get hk⟩⟩
end Go.Proofs.YtedbjmgchfgabaaDoor.Abs
namespace Go.Proofs.YtedbjmgchfgabaaDoor.Abs
set_option linter.unusedSimpArgs false
set_option linter.unusedVariables false
open Go.RowKit
open Go.Proofs.YtedbjmgchfgabaaDoor.Sim
open Go.Proofs
section
variable {P : Program} {nt : Nat} {ops : Array Oper} {t : Fm} {m : AM} {K : Fm → AM → Prop} {d T : Nat} {p : String} {af : Array Edge}
theorem Step.addS {x y : Operand} {X Y : TypeId} {a b : ByteArray} (hx : evo t x = some (.string a)) (hy : evo t y = some (.string b)) (hX : P.underlying X = some .string) (hs : a.size + b.size ≤ 1000000) (hlt : Nat.blt d nt = true) (hK : K (put t d (.string (a ++ b))) m) : Step P nt ops ⟨some d, .binOp .add X x y Y, T, p, af, none⟩ t m K := by
  refine .ground rfl rfl hlt (by simp [Op.operands, hx, hy, g1, g0]) (fun h => by simp only [aquiet, evD_of hx, evD_of hy, aint, anil, hX]; simpa [evD_of hx, evD_of hy] using h) ?_ (by simp [g1, g0]) hK
  have hmax : ¬ (((a.size + b.size : Nat) : Int) > IntKind.i64.max) := by
    have : IntKind.i64.max = 9223372036854775807 := by decide
    omega
  have e : Op.stringOp .add a b = pure (.string (a ++ b)) := by
    simp only [Op.stringOp]
    rw [if_neg hmax]
  simp only [execOp, eqGuard, binOp, evD_of hx, evD_of hy, bind, Sem.bind, pure, e]
  rfl
/-- A rune as a string. -/
theorem Step.runeS {x : Operand} {S D : TypeId} {kk k2 : IntKind} {n : Int} (hx : evo t x = some (.int kk n)) (hS : P.underlying S = some (.int k2)) (hD : P.underlying D = some .string) (hlt : Nat.blt d nt = true) (hK : K (put t d (.string (Utf8.encode n))) m) : Step P nt ops ⟨some d, .convert S D x, T, p, af, none⟩ t m K := by
  refine .ground rfl rfl hlt (by simp [Op.operands, hx, g1, g0]) (fun h => by simpa [aquiet] using h) ?_ (by simp [g1, g0]) hK
  have hu : ∀ Z dz, P.underlying Z = some dz → Sim.still P (underlying Z) = some dz := fun Z dz h => by
    unfold underlying
    show Sim.still P (Sem.bind program _) = _
    rw [still_bind]
    simp [program, Sim.still, h, pure]
  simp only [execOp, evD_of hx, bind, Sem.bind]
  unfold convert
  simp [still_bind, hu S _ hS, hu D _ hD, Conv.intToString, bind, pure, Sim.still]
end
end Go.Proofs.YtedbjmgchfgabaaDoor.Abs
namespace Go.Proofs
set_option linter.unusedSimpArgs false
set_option linter.unusedVariables false
open Go.Shelf
def itoaD_ren : Go.Shelf.Ren := ⟨fun | 171 => 44 | 243 => 72 | 246 => 96 | 283 => 111 | 284 => 112 | 285 => 113 | 286 => 114 | 129 => 135 | 317 => 139 | 318 => 140 | 319 => 141 | 320 => 142 | 337 => 155 | 338 => 156 | n => n, fun | 3 => 3 | 9 => 9 | 2 => 2 | 4 => 4 | 171 => 180 | 0 => 0 | 53 => 181 | 37 => 96 | 5 => 5 | 173 => 184 | 212 => 208 | 51 => 204 | 20 => 20 | 213 => 209 | 46 => 175 | 232 => 226 | 233 => 227 | n => n, fun | 17 => 0 | 18 => 4 | 19 => 5 | n => n⟩
theorem itoaD : Go.Proofs.Lays.n171 Tryd.prog itoaD_ren := {
  mixed := by kernel_rfl
  f129 := Tryd.func135.trans (congrArg some (by kernel_rfl))
  f171 := Tryd.func44.trans (congrArg some (by kernel_rfl))
  f243 := Tryd.func72.trans (congrArg some (by kernel_rfl))
  f246 := Tryd.func96.trans (congrArg some (by kernel_rfl))
  f283 := Tryd.func111.trans (congrArg some (by kernel_rfl))
  f284 := Tryd.func112.trans (congrArg some (by kernel_rfl))
  f285 := Tryd.func113.trans (congrArg some (by kernel_rfl))
  f286 := Tryd.func114.trans (congrArg some (by kernel_rfl))
  f317 := Tryd.func139.trans (congrArg some (by kernel_rfl))
  f318 := Tryd.func140.trans (congrArg some (by kernel_rfl))
  f319 := Tryd.func141.trans (congrArg some (by kernel_rfl))
  f320 := Tryd.func142.trans (congrArg some (by kernel_rfl))
  f337 := Tryd.func155.trans (congrArg some (by kernel_rfl))
  f338 := Tryd.func156.trans (congrArg some (by kernel_rfl))
  t0 := Tryd.underlying0
  a0 := Tryd.isAgg0
  z0 := Tryd.sizeOf0
  v0 := Tryd.zeroValue0
  t2 := Tryd.underlying2
  a2 := Tryd.isAgg2
  z2 := Tryd.sizeOf2
  v2 := Tryd.zeroValue2
  t3 := Tryd.underlying3
  a3 := Tryd.isAgg3
  z3 := Tryd.sizeOf3
  v3 := Tryd.zeroValue3
  t4 := Tryd.underlying4
  a4 := Tryd.isAgg4
  z4 := Tryd.sizeOf4
  v4 := Tryd.zeroValue4
  t5 := Tryd.underlying5
  a5 := Tryd.isAgg5
  z5 := Tryd.sizeOf5
  v5 := Tryd.zeroValue5
  t9 := Tryd.underlying9
  a9 := Tryd.isAgg9
  z9 := Tryd.sizeOf9
  v9 := Tryd.zeroValue9
  t20 := Tryd.underlying20
  a20 := Tryd.isAgg20
  z20 := Tryd.sizeOf20
  v20 := Tryd.zeroValue20
  t37 := Tryd.underlying96
  a37 := Tryd.isAgg96
  z37 := Tryd.sizeOf96
  v37 := Tryd.zeroValue96
  t46 := Tryd.underlying175
  a46 := Tryd.isAgg175
  z46 := Tryd.sizeOf175
  v46 := Tryd.zeroValue175
  t51 := Tryd.underlying204
  a51 := Tryd.isAgg204
  z51 := Tryd.sizeOf204
  v51 := Tryd.zeroValue204
  t53 := Tryd.underlying181
  a53 := Tryd.isAgg181
  z53 := Tryd.sizeOf181
  v53 := Tryd.zeroValue181
  t171 := Tryd.underlying180
  a171 := Tryd.isAgg180
  z171 := Tryd.sizeOf180
  v171 := Tryd.zeroValue180
  t173 := Tryd.underlying184
  a173 := Tryd.isAgg184
  z173 := Tryd.sizeOf184
  v173 := Tryd.zeroValue184
  t212 := Tryd.underlying208
  a212 := Tryd.isAgg208
  z212 := Tryd.sizeOf208
  v212 := Tryd.zeroValue208
  t213 := Tryd.underlying209
  a213 := Tryd.isAgg209
  z213 := Tryd.sizeOf209
  t232 := Tryd.underlying226
  a232 := Tryd.isAgg226
  z232 := Tryd.sizeOf226
  v232 := Tryd.zeroValue226
  t233 := Tryd.underlying227
  a233 := Tryd.isAgg227
  z233 := Tryd.sizeOf227
  v233 := Tryd.zeroValue227
  g17 := by kernel_rfl
  g18 := by kernel_rfl
  g19 := by kernel_rfl }
end Go.Proofs
namespace Go.Proofs.YtedbjmgchfgabaaDoor.Abs
set_option linter.unusedSimpArgs false
set_option linter.unusedVariables false
open Go.RowKit
open Go.Proofs.YtedbjmgchfgabaaDoor.Sim
open Go.Proofs
def digS (i : Nat) : ByteArray := ⟨(Lib.decDigits i).toArray⟩
theorem itoa_ok {m : AM} (i : Nat) (hi : i < 100) : ACall Tryd.prog 44 #[.int .i64 (i : Nat)] m (Ret (.string (digS i)) m) :=
  (ACall.of_calls (v := .string (digS i)) (by simp [g1, g0]) (by simp [g1, g0]) fun w => (Any.strconv_Itoa_small itoaD i hi w).mono fun e w' ⟨he, hw⟩ => ⟨he, by rw [hw]; exact Below.refl _ _⟩).mono fun _ _ ⟨a, b⟩ => ⟨a.symm, b.symm⟩
end Go.Proofs.YtedbjmgchfgabaaDoor.Abs
namespace Go.Proofs
set_option linter.unusedSimpArgs false
set_option linter.unusedVariables false
open Go.Shelf
def joinD_ren : Go.Shelf.Ren := ⟨fun | 156 => 45 | 165 => 73 | 166 => 74 | 169 => 75 | 240 => 97 | 241 => 98 | 276 => 115 | 277 => 116 | n => n, fun | 31 => 22 | 9 => 9 | 3 => 3 | 4 => 4 | 0 => 0 | 20 => 20 | 72 => 134 | 76 => 138 | 70 => 132 | 37 => 96 | 75 => 137 | 127 => 167 | 164 => 186 | 5 => 5 | 80 => 140 | n => n, fun | n => n⟩
theorem joinD : Go.Proofs.Lays.n156 Tryd.prog joinD_ren := {
  mixed := by kernel_rfl
  f156 := Tryd.func45.trans (congrArg some (by kernel_rfl))
  f165 := Tryd.func73.trans (congrArg some (by kernel_rfl))
  f166 := Tryd.func74.trans (congrArg some (by kernel_rfl))
  f169 := Tryd.func75.trans (congrArg some (by kernel_rfl))
  f240 := Tryd.func97.trans (congrArg some (by kernel_rfl))
  f241 := Tryd.func98.trans (congrArg some (by kernel_rfl))
  f276 := Tryd.func115.trans (congrArg some (by kernel_rfl))
  f277 := Tryd.func116.trans (congrArg some (by kernel_rfl))
  t0 := Tryd.underlying0
  a0 := Tryd.isAgg0
  z0 := Tryd.sizeOf0
  v0 := Tryd.zeroValue0
  t3 := Tryd.underlying3
  a3 := Tryd.isAgg3
  z3 := Tryd.sizeOf3
  v3 := Tryd.zeroValue3
  t4 := Tryd.underlying4
  a4 := Tryd.isAgg4
  z4 := Tryd.sizeOf4
  v4 := Tryd.zeroValue4
  t9 := Tryd.underlying9
  a9 := Tryd.isAgg9
  z9 := Tryd.sizeOf9
  v9 := Tryd.zeroValue9
  t20 := Tryd.underlying20
  a20 := Tryd.isAgg20
  z20 := Tryd.sizeOf20
  v20 := Tryd.zeroValue20
  t31 := Tryd.underlying22
  a31 := Tryd.isAgg22
  z31 := Tryd.sizeOf22
  v31 := Tryd.zeroValue22
  t37 := Tryd.underlying96
  a37 := Tryd.isAgg96
  z37 := Tryd.sizeOf96
  v37 := Tryd.zeroValue96
  t70 := Tryd.underlying132
  a70 := Tryd.isAgg132
  z70 := Tryd.sizeOf132
  v70 := Tryd.zeroValue132
  t72 := Tryd.underlying134
  a72 := Tryd.isAgg134
  z72 := Tryd.sizeOf134
  v72 := Tryd.zeroValue134
  t75 := Tryd.underlying137
  a75 := Tryd.isAgg137
  z75 := Tryd.sizeOf137
  v75 := Tryd.zeroValue137
  t76 := Tryd.underlying138
  a76 := Tryd.isAgg138
  z76 := Tryd.sizeOf138
  v76 := Tryd.zeroValue138
  t127 := Tryd.underlying167
  a127 := Tryd.isAgg167
  z127 := Tryd.sizeOf167
  v127 := Tryd.zeroValue167
  t164 := Tryd.underlying186
  a164 := Tryd.isAgg186
  z164 := Tryd.sizeOf186
  v164 := Tryd.zeroValue186 }
end Go.Proofs
namespace Go.Proofs.YtedbjmgchfgabaaDoor.Abs
set_option linter.unusedSimpArgs false
set_option linter.unusedVariables false
open Go.RowKit
open Go.Proofs.YtedbjmgchfgabaaDoor.Sim
open Go.Proofs
theorem extraD : Builder.Extra Tryd.prog joinD_ren := {
  sizeBuilder := by kernel_rfl
  liesBuilder := by kernel_rfl
  t5 := Tryd.underlying5
  a5 := Tryd.isAgg5
  z5 := Tryd.sizeOf5
  v5 := Tryd.zeroValue5
  infoByte := by kernel_rfl
  cellsByte := by kernel_rfl
  sizeByte := by kernel_rfl
  neB5 := by decide }
/-- The strings joined. -/
def joinB (l : List ByteArray) (sep : ByteArray) : ByteArray := ⟨(Lib.join (l.map (·.data.toList)) sep.data.toList).toArray⟩
set_option maxRecDepth 100000 in
theorem join_ok {m : AM} {a o c : Nat} {l : List ByteArray} (sep : ByteArray) (hc : l.length ≤ c) (h0 : 0 < l.length) (hr : ∀ j, (h : j < l.length) → Rd m a (o + j) (.string l[j])) (hn : l.length ≤ 1000) (hlen : (Lib.join (l.map (·.data.toList)) sep.data.toList).length ≤ 140737488355328) :
    ACall Tryd.prog 45 #[.slice (some ⟨a, o, none⟩) l.length c, .string sep] m (Ret (.string (joinB l sep)) m) := by
  intro base R w args' hbase hm hargs
  have h1 := hargs.1
  have h2 := hargs.2 0 (by simp)
  have h3 := hargs.2 1 (by simp)
  obtain ⟨x, y, rfl⟩ : ∃ x y, args' = #[x, y] := ⟨args'[0]'(by simp at h1; omega), args'[1]'(by simp at h1; omega), by
    apply Array.ext
    · simp at h1; simp; omega
    · intro j a b
      rcases (show j = 0 ∨ j = 1 by simp at b; omega) with rfl | rfl <;> rfl⟩
  have h2 : Rel R (.slice (some ⟨a, o, none⟩) l.length c) x := h2
  have h3 : Rel R (.string sep) y := h3
  cases h3
  cases h2 with
  | slice _ _ _ _ q hq hle =>
    have hcells : ∀ (j : Nat) x, l[j]? = some x → w.cell? ⟨q.block, q.off + o + j, none⟩ = some (.string x) := fun j x hj => by
      obtain ⟨hjl, e⟩ := List.getElem?_eq_some_iff.1 hj
      obtain ⟨blk, k1, k2⟩ := hr j hjl
      obtain ⟨v', r1, r2⟩ := (hm.of k1 hq).cell k2
      cases r2
      rw [← e, Nat.add_assoc]
      exact r1
    have hbk : q.block < w.heap.size := World.block_lt_of_cell? w _ (hcells 0 l[0] (List.getElem?_eq_getElem h0))
    have key := Any.strings_Join joinD extraD q.block (q.off + o) (c + q.extra) l sep w hcells hbk (by omega) (show l.length ≤ _ by omega) hlen
    have fr : joinD_ren.f 156 = 45 := by kernel_rfl
    rw [fr] at key
    refine Calls.mono key ?_
    rintro e w' ⟨rfl, hb⟩
    exact ⟨_, _, R, _, rfl, .string _, post_below hm hb, rfl, rfl⟩
end Go.Proofs.YtedbjmgchfgabaaDoor.Abs
namespace Go.Proofs.YtedbjmgchfgabaaDoor.Abs
set_option linter.unusedSimpArgs false
set_option linter.unusedVariables false
open Go.Proofs
/-- How many bytes ahead equal b. -/
def runL (b : UInt8) : List UInt8 → Nat
  | [] => 0
  | c :: l => if c = b then runL b l + 1 else 0
theorem runL_le (b : UInt8) : ∀ l, runL b l ≤ l.length
  | [] => Nat.le_refl _
  | c :: l => by have := runL_le b l; simp only [runL]; split <;> simp <;> omega
theorem runL_eq (b : UInt8) : ∀ l, l.take (runL b l) = List.replicate (runL b l) b
  | [] => rfl
  | c :: l => by
    simp only [runL]
    split
    · rename_i h
      subst h
      rw [List.take_succ_cons, runL_eq, List.replicate_succ]
    · rfl
/-- The text of a row: each run's length (from two on) and a letter. -/
def pkL : Nat → List UInt8 → List UInt8
  | 0, _ => []
  | _ + 1, [] => []
  | f + 1, b :: l => (if 1 < runL b l + 1 then Lib.decDigits (runL b l + 1) else []) ++ (97 + b - 48) :: pkL f (l.drop (runL b l))
theorem pkL_fuel : ∀ (f g : Nat) (l : List UInt8), l.length ≤ f → l.length ≤ g → pkL f l = pkL g l
  | 0, 0, _, _, _ => rfl
  | 0, g + 1, [], _, _ => rfl
  | f + 1, 0, [], _, _ => rfl
  | f + 1, g + 1, [], _, _ => rfl
  | 0, _, b :: l, h, _ => by simp at h
  | f + 1, 0, b :: l, _, h => by simp at h
  | f + 1, g + 1, b :: l, hf, hg => by
    simp only [pkL]
    rw [pkL_fuel f g _ (by simp at hf ⊢; omega) (by simp at hg ⊢; omega)]
theorem runL_at (b : UInt8) : ∀ (l : List UInt8) (j : Nat), j < runL b l → l[j]? = some b
  | [], j, h => by simp [runL] at h
  | c :: l, j, h => by
    simp only [runL] at h
    split at h
    · rename_i e
      cases j with
      | zero => simp [e]
      | succ j => simpa using runL_at b l j (by omega)
    · omega
theorem runL_end (b : UInt8) : ∀ (l : List UInt8), l[runL b l]? ≠ some b
  | [] => by simp [runL]
  | c :: l => by
    simp only [runL]
    split
    · simpa using runL_end b l
    · rename_i h
      simpa using h
theorem dig_len {n : Nat} (h : n < 100) : (Lib.decDigits n).length ≤ 2 := by
  have key : (List.range 100).all (fun n => decide ((Lib.decDigits n).length ≤ 2)) = true := by decide +kernel
  have := List.all_eq_true.1 key n (List.mem_range.2 h)
  simpa using this
theorem pkL_len : ∀ (f : Nat) (l : List UInt8), l.length ≤ 98 → (pkL f l).length ≤ 3 * l.length
  | 0, _, _ => by simp [pkL]
  | f + 1, [], _ => by simp [pkL]
  | f + 1, b :: l, h => by
    have hr := runL_le b l
    have hl : l.length + 1 ≤ 98 := by simpa using h
    have ih := pkL_len f (l.drop (runL b l)) (by simp; omega)
    have hd : (if 1 < runL b l + 1 then Lib.decDigits (runL b l + 1) else []).length ≤ 2 := by
      split
      · exact dig_len (by omega)
      · simp
    simp only [pkL, List.length_append, List.length_cons]
    rw [List.length_drop] at ih
    omega
end Go.Proofs.YtedbjmgchfgabaaDoor.Abs
namespace Go.Proofs.YtedbjmgchfgabaaDoor.Abs
set_option linter.unusedSimpArgs false
set_option linter.unusedVariables false
open Go.RowKit
open Go.Proofs.YtedbjmgchfgabaaDoor.Sim
open Go.Proofs
section
variable {P : Program} {nt : Nat} {ops : Array Oper} {t : Fm} {m : AM} {K : Fm → AM → Prop} {d T : Nat} {p : String} {af : Array Edge}
/-- A byte one greater. -/
theorem Step.addU {X Y : TypeId} {x y : Operand} {a b : Int} (hx : evo t x = some (.int .u8 a)) (hy : evo t y = some (.int .u8 b)) (hr : 0 ≤ a + b ∧ a + b ≤ 255) (hlt : Nat.blt d nt = true) (hK : K (put t d (.int .u8 (a + b))) m) : Step P nt ops ⟨some d, .binOp .add X x y Y, T, p, af, none⟩ t m K :=
  .bin hx hy (by simp [aint, u8_in hr]) hlt hK
/-- A byte as a rune. -/
theorem Step.u8R {x : Operand} {S D : TypeId} {a : Int} (hx : evo t x = some (.int .u8 a)) (hS : P.underlying S = some (.int .u8)) (hD : P.underlying D = some (.int .i32)) (hr : 0 ≤ a ∧ a ≤ 255) (hlt : Nat.blt d nt = true) (hK : K (put t d (.int .i32 a)) m) :
    Step P nt ops ⟨some d, .convert S D x, T, p, af, none⟩ t m K := by
  refine .ground rfl rfl hlt (by simp [Op.operands, hx, g1, g0]) (fun h => by simpa [aquiet] using h) ?_ (by simp [g1, g0]) hK
  have hw : IntKind.i32.wrap a = a := by
    simp only [IntKind.wrap, IntKind.signed, IntKind.bits]
    simp
    omega
  simp only [execOp, evD_of hx, bind]
  rw [still_bind]
  unfold convert
  simp only [bind]
  rw [still_bind, still_und hS]
  simp only
  rw [still_bind, still_und hD]
  simp [Conv.intToInt, hw, pure, Sim.still]
end
theorem encode_small {n : Nat} (h : n < 128) : Utf8.encode (n : Nat) = ⟨#[UInt8.ofNat n]⟩ := by
  have hv : Utf8.valid (n : Nat) = true := by
    have key : (List.range 128).all (fun n => Utf8.valid (n : Nat)) = true := by decide +kernel
    exact List.all_eq_true.1 key n (List.mem_range.2 h)
  unfold Utf8.encode
  simp only [hv, if_true, Int.toNat_natCast]
  rw [if_pos h]
end Go.Proofs.YtedbjmgchfgabaaDoor.Abs
namespace Go.Proofs.YtedbjmgchfgabaaDoor.Abs
set_option linter.unusedSimpArgs false
set_option linter.unusedVariables false
open Go.RowKit
open Go.Proofs.YtedbjmgchfgabaaDoor.Sim
/-- What an operation comes to: a value; a new block with the value that names it; a block made here is filled. -/
inductive Ent | val (d : Nat) (v : Value) | cp (d k : Nat) (f : Nat → Value) | mk (d : Nat) (f : Nat → Value) (b : Option Blk) | fill (k : Nat) (b : Option Blk)
def Ent.pr (p : Nat → Nat) (i : Nat) : Ent → List (Nat × Value)
  | .val d v => [(d, v)]
  | .cp d k f => [(d, f (p k))]
  | .mk d f _ => [(d, f (p i))]
  | .fill .. => []
/-- Of a list with the last one ahead: the n-th from behind. -/
def depG (p : Nat → Nat) (acc : List Ent) (D : List Nat) : List (Nat × Value) := D.flatMap fun j => (acc.getD j (.fill 0 none)).pr p (acc.length - 1 - j)
def fillOf (k : Nat) : List Ent → Option (Option Blk)
  | [] => none
  | .fill j b :: acc => if j = k then some b else fillOf k acc
  | _ :: acc => fillOf k acc
section
variable (P : Program) (nt : Nat) (m : AM) (ops : Array Oper) (bs : List (Nat × Value))
def EntOk (o : Oper) (dd : List Nat) (acc : List Ent) : Ent → Prop
  | .val d v => o.dst = some d ∧ ∀ p : Nat → Nat, (∀ k, m.length ≤ p k) → ∀ N : AM, Step P nt ops o (fr (depG p acc dd ++ bs)) (m ++ N) (fun t' m' => t' d = some v ∧ m' = m ++ N)
  | .cp d k f => o.dst = some d ∧ k < acc.length ∧ acc.length - 1 - k ∈ dd ∧ ∀ p : Nat → Nat, (∀ k, m.length ≤ p k) → ∀ N : AM, Step P nt ops o (fr (depG p acc dd ++ bs)) (m ++ N) (fun t' m' => t' d = some (f (p k)) ∧ m' = m ++ N)
  | .mk d f b => o.dst = some d ∧ ∀ p : Nat → Nat, (∀ k, m.length ≤ p k) → ∀ N : AM, Step P nt ops o (fr (depG p acc dd ++ bs)) (m ++ N) (fun t' m' => t' d = some (f (m ++ N).length) ∧ m' = (m ++ N) ++ [b])
  | .fill k b => o.dst = none ∧ fillOf k acc = none ∧ k < acc.length ∧ acc.length - 1 - k ∈ dd ∧ ∃ d f b0, acc[acc.length - 1 - k]? = some (.mk d f b0) ∧
      ∀ p : Nat → Nat, (∀ k, m.length ≤ p k) → ∀ M : AM, M[p k]? = some b0 → Step P nt ops o (fr (depG p acc dd ++ bs)) M (fun _ m' => m' = M.set (p k) b)
def AWg : List Oper → List (List Nat) → List Ent → (List Ent → Prop) → Prop
  | [], _, acc, Q => Q acc
  | o :: rest, D, acc, Q => ∃ e, EntOk P nt m ops bs o (D.headD []) acc e ∧ AWg rest D.tail (e :: acc) Q
end
section
variable {P : Program} {nt : Nat} {t : Fm} {m m0 : AM} {ops : Array Oper} {l : List Oper} {bs : List (Nat × Value)} {o : Oper} {rest : List Oper} {dd : List Nat} {D : List (List Nat)} {acc : List Ent} {Q : List Ent → Prop} {d : Nat} {v : Value}
theorem AWg.val (hd : o.dst = some d) (h : ∀ p : Nat → Nat, (∀ k, m.length ≤ p k) → ∀ N : AM, Step P nt ops o (fr (depG p acc dd ++ bs)) (m ++ N) (fun t' m' => t' d = some v ∧ m' = m ++ N)) (hr : AWg P nt m ops bs rest D (.val d v :: acc) Q) : AWg P nt m ops bs (o :: rest) (dd :: D) acc Q := ⟨.val d v, ⟨hd, h⟩, hr⟩
theorem AWg.ptr {b : Option Blk} (hd : o.dst = some d) (h : ∀ p : Nat → Nat, (∀ k, m.length ≤ p k) → ∀ N : AM, Step P nt ops o (fr (depG p acc dd ++ bs)) (m ++ N) (fun t' m' => t' d = some (.pointer (some ⟨(m ++ N).length, 0, none⟩)) ∧ m' = (m ++ N) ++ [b])) (hr : AWg P nt m ops bs rest D (.mk d (fun a => .pointer (some ⟨a, 0, none⟩)) b :: acc) Q) : AWg P nt m ops bs (o :: rest) (dd :: D) acc Q := ⟨.mk d (fun a => .pointer (some ⟨a, 0, none⟩)) b, ⟨hd, h⟩, hr⟩
theorem AWg.new (f : Nat → Value) {b : Option Blk} (hd : o.dst = some d) (h : ∀ p : Nat → Nat, (∀ k, m.length ≤ p k) → ∀ N : AM, Step P nt ops o (fr (depG p acc dd ++ bs)) (m ++ N) (fun t' m' => t' d = some (f (m ++ N).length) ∧ m' = (m ++ N) ++ [b])) (hr : AWg P nt m ops bs rest D (.mk d f b :: acc) Q) : AWg P nt m ops bs (o :: rest) (dd :: D) acc Q := ⟨.mk d f b, ⟨hd, h⟩, hr⟩
theorem AWg.fill (k : Nat) {d0 : Nat} {f0 : Nat → Value} {b b0 : Option Blk} (hd : o.dst = none) (h1 : fillOf k acc = none) (h2 : k < acc.length) (h3 : acc.length - 1 - k ∈ dd) (h4 : acc[acc.length - 1 - k]? = some (.mk d0 f0 b0))
    (h : ∀ p : Nat → Nat, (∀ k, m.length ≤ p k) → ∀ M : AM, M[p k]? = some b0 → Step P nt ops o (fr (depG p acc dd ++ bs)) M (fun _ m' => m' = M.set (p k) b)) (hr : AWg P nt m ops bs rest D (.fill k b :: acc) Q) : AWg P nt m ops bs (o :: rest) (dd :: D) acc Q := ⟨.fill k b, ⟨hd, h1, h2, h3, d0, f0, b0, h4, h⟩, hr⟩
section
variable {T : Nat} {pos : String} {af : Array Edge} {ty : TypeId} {b b0 : Option Blk}
end
theorem AWg.nil (h : Q acc) : AWg P nt m ops bs [] D acc Q := h
theorem AWg.get : ∀ {rest : List Oper} {D : List (List Nat)} {acc : List Ent} {Q : List Ent → Prop}, AWg P nt m ops bs rest D acc Q → ∃ a1 : List Ent, a1.length = rest.length ∧ Q (a1.reverse ++ acc) ∧ ∀ i o, rest[i]? = some o → ∃ e, a1[i]? = some e ∧ EntOk P nt m ops bs o (D.getD i []) ((a1.take i).reverse ++ acc) e
  | [], _, acc, Q, h => ⟨[], rfl, h, fun i o ho => by simp at ho⟩
  | o :: rest, D, acc, Q, h => by
    obtain ⟨e, h1, h2⟩ := h
    obtain ⟨a1, g1, g2, g3⟩ := AWg.get h2
    refine ⟨e :: a1, by simp [g1], by rw [List.reverse_cons, List.append_assoc]; exact g2, fun i o' ho => ?_⟩
    cases i with
    | zero =>
      simp only [List.getElem?_cons_zero, Option.some.injEq] at ho
      subst ho
      refine ⟨e, rfl, ?_⟩
      rw [List.take_zero, List.reverse_nil, List.nil_append]
      cases D <;> exact h1
    | succ i =>
      simp only [List.getElem?_cons_succ] at ho ⊢
      obtain ⟨e', k1, k2⟩ := g3 i o' ho
      refine ⟨e', k1, ?_⟩
      rw [List.take_succ_cons, List.reverse_cons, List.append_assoc]
      have : D.tail.getD i [] = D.getD (i + 1) [] := by cases D <;> simp
      rw [this] at k2
      exact k2
end
end Go.Proofs.YtedbjmgchfgabaaDoor.Abs
namespace Go.Proofs.YtedbjmgchfgabaaDoor.Abs
set_option linter.unusedSimpArgs false
set_option linter.unusedVariables false
open Go.RowKit
open Go.Proofs.YtedbjmgchfgabaaDoor.Sim
/-- A slice that names a whole row of one's own: n elements of s cells each. -/
def Row (M : AM) (b0 s : Nat) (u : Value) (c : List Value) (n : Nat) : Prop :=
  (u = .slice none 0 0 ∧ c = [] ∧ n = 0) ∨ ∃ (a : Nat) (kd : Kind) (sz : Nat), b0 ≤ a ∧ u = .slice (some ⟨a, 0, none⟩) n n ∧ M[a]? = some (some { cells := c, kind := kd, size := sz }) ∧ c.length = n * s ∧ (kd = .own ∨ kd = .grow ∧ sz = s)
theorem Row.len {M : AM} {b0 s : Nat} {u : Value} {c : List Value} {n : Nat} (h : Row M b0 s u c n) : c.length = n * s := by
  rcases h with ⟨_, rfl, rfl⟩ | ⟨a, kd, sz, _, _, _, h, _⟩
  · simp
  · exact h
theorem Row.nil {M : AM} {b0 s : Nat} : Row M b0 s (.slice none 0 0) [] 0 := .inl ⟨rfl, rfl, rfl⟩
theorem Row.low {M : AM} {b0 b1 s : Nat} {u : Value} {c : List Value} {n : Nat} (h : Row M b0 s u c n) (hb : b1 ≤ b0) : Row M b1 s u c n := by
  rcases h with h | ⟨a, kd, sz, h1, h2⟩
  · exact .inl h
  · exact .inr ⟨a, kd, sz, by omega, h2⟩
theorem Row.old {M : AM} {b0 s : Nat} {u : Value} {c : List Value} {n : Nat} (h : Row M b0 s u c n) (T : AM) : Row (M ++ T) b0 s u c n := by
  rcases h with h | ⟨a, kd, sz, h1, h2, h3, h4⟩
  · exact .inl h
  · exact .inr ⟨a, kd, sz, h1, h2, get_old _ h3, h4⟩
theorem Row.sl {M : AM} {b0 s : Nat} {u : Value} {c : List Value} {n : Nat} (h : Row M b0 s u c n) (hM : 0 < M.length) : ∃ a, Sl u a 0 n ∧ a < M.length ∧ (0 < n → RdL M a 0 c) := by
  rcases h with ⟨rfl, rfl, rfl⟩ | ⟨a, kd, sz, h1, rfl, h3, h4, _⟩
  · exact ⟨0, .inl ⟨rfl, rfl⟩, hM, fun h => absurd h (by omega)⟩
  · exact ⟨a, Sl.mk (Nat.le_refl _), (List.getElem?_eq_some_iff.1 h3).1, fun _ => ⟨_, h3, fun j v hj => by simpa using hj⟩⟩
/-- The block is the only one that an append may take. -/
def NotOf (u : Value) (j : Nat) : Prop := ∀ n c, u ≠ .slice (some ⟨j, 0, none⟩) n c
theorem NotOf.row {M : AM} {b0 s : Nat} {u : Value} {c : List Value} {n j : Nat} (h : Row M b0 s u c n) (hj : j < b0) : NotOf u j := by
  intro n' c' e
  rcases h with ⟨h, _⟩ | ⟨a, kd, sz, h1, h2, _⟩
  · rw [e] at h; cases h
  · rw [e] at h2
    simp only [Value.slice.injEq, Option.some.injEq, Addr.mk.injEq] at h2
    omega
/-- What lies ahead is as it was. -/
theorem pre_keep {m0 M M' : AM} (h : ∃ N, M = m0 ++ N) (hl : M.length ≤ M'.length) (hk : ∀ j, j < m0.length → M'[j]? = M[j]?) : ∃ N, M' = m0 ++ N := by
  obtain ⟨N, rfl⟩ := h
  refine ⟨M'.drop m0.length, ?_⟩
  rw [List.length_append] at hl
  have e : M'.take m0.length = m0 := by
    apply List.ext_getElem?
    intro j
    by_cases hj : j < m0.length
    · rw [List.getElem?_take, if_pos hj, hk j hj, List.getElem?_append_left hj]
    · rw [List.getElem?_eq_none (by rw [List.length_take]; omega), List.getElem?_eq_none (by omega)]
  have h2 := List.take_append_drop m0.length M'
  rw [e] at h2
  exact h2.symm
section
variable {P : Program} {nt : Nat} {ops : Array Oper} {t : Fm} {m : AM} {K : Fm → AM → Prop} {d T : Nat} {p : String} {af : Array Edge}
theorem acells_sl {m : AM} {s n a o : Nat} {v : Value} {new : List Value} (hs : Sl v a o n) (hr : 0 < n → RdL m a o new) (hn : new.length = n * s) (h0 : 0 < s) : acells (m ++ [none]) s n v = some new ∧ aSliceLen v = some n := by
  rcases hs with ⟨rfl, rfl⟩ | ⟨c, hc, rfl⟩ | ⟨rfl, o', k, rfl⟩
  · obtain rfl : new = [] := List.eq_nil_of_length_eq_zero (by simpa using hn)
    exact ⟨by simp [acells], rfl⟩
  · refine ⟨?_, rfl⟩
    by_cases hz : n = 0
    · subst hz
      obtain rfl : new = [] := List.eq_nil_of_length_eq_zero (by simpa using hn)
      simp [acells]
    · obtain ⟨b, r1, r2⟩ := hr (by omega)
      have hr' : (m ++ [none])[a]? = some (some b) := get_old _ r1
      have hns : 0 < n * s := Nat.mul_pos (by omega) h0
      have hlast := r2 (n * s - 1) new[n * s - 1] (List.getElem?_eq_getElem (by omega))
      have hlen := (List.getElem?_eq_some_iff.1 hlast).1
      have htake : (b.cells.drop o).take (n * s) = new := by
        apply List.ext_getElem?
        intro j
        by_cases hj : j < n * s
        · rw [List.getElem?_take, if_pos hj, List.getElem?_drop, r2 j new[j] (List.getElem?_eq_getElem (by omega)), List.getElem?_eq_getElem (by omega)]
        · rw [List.getElem?_take, if_neg hj, List.getElem?_eq_none (by omega)]
      simp only [acells, hr']
      rw [if_neg hz, if_pos ⟨Nat.le_refl _, by omega⟩, htake]
  · obtain rfl : new = [] := List.eq_nil_of_length_eq_zero (by simpa using hn)
    exact ⟨by simp [acells], rfl⟩
/-- APPEND. -/
theorem Step.appRow {x y : Operand} {X Y e e' : TypeId} {by_ s a o n xl b0 : Nat} {z : Array Value} {c new : List Value} {u yv : Value} (hx : evo t x = some u) (hy : evo t y = some yv) (hr : Row m b0 s u c n) (hs : Sl yv a o xl) (hrd : 0 < xl → RdL m a o new) (hE : elemB P X = some (e, s, by_, z)) (hY : P.underlying Y = some (.slice e'))
    (hn : new.length = xl * s) (hn1 : new.all (·.oneCell') = true) (h0 : Nat.blt 0 s = true) (hb : (n + xl) * by_ ≤ 1099511627776 ∧ n + xl ≤ 1099511627776) (hlt : Nat.blt d nt = true) (hbm : b0 ≤ m.length)
    (hK : ∀ u' M', Row M' b0 s u' (c ++ new) (n + xl) → m.length ≤ M'.length → (∀ j, j < m.length → NotOf u j → M'[j]? = m[j]?) → K (put t d u') M') :
    Step P nt ops ⟨some d, .call ⟨.builtin .append, #[x, y], #[X, Y]⟩, T, p, af, none⟩ t m K := by
  have h0 : 0 < s := Nat.le_of_ble_eq_true h0
  obtain ⟨hc1, hc2⟩ := acells_sl hs hrd hn h0
  have fin : ∀ v m', aloud P ⟨some d, .call ⟨.builtin .append, #[x, y], #[X, Y]⟩, T, p, af, none⟩ (evD t) (m ++ [none]) m.length = some (v, m') → K (put t d v) m' → Step P nt ops ⟨some d, .call ⟨.builtin .append, #[x, y], #[X, Y]⟩, T, p, af, none⟩ t m K :=
    fun v m' h hk => .l rfl rfl hlt rfl (by simp [Op.operands, Call.operands, hx, hy]) (loud_of_aloud rfl h hk)
  have hnone : ¬ ((!(new.all (·.oneCell')) || s == 0) = true) := by simp [hn1]; omega
  have set1 : ∀ (M : AM) (b : Blk), M.length = m.length → (M ++ [none]).set m.length (some b) = M ++ [some b] := fun M b h => by
    rw [List.set_append_right _ _ (by omega), h]
    simp
  rcases hr with ⟨rfl, rfl, rfl⟩ | ⟨q, kd, sz, hq0, rfl, hq, hcl, hkd⟩
  · by_cases hx0 : xl = 0
    · subst hx0
      obtain rfl : new = [] := List.eq_nil_of_length_eq_zero (by simpa using hn)
      refine fin (.slice none 0 0) (m ++ [none]) ?_ (hK _ _ Row.nil (by simp) fun j hj _ => List.getElem?_append_left hj)
      simp only [aloud, evD_of hx, evD_of hy, aappend, hE, hY, hc1, hc2]
      rw [if_neg hnone, if_pos trivial]
    · refine fin (.slice (some ⟨m.length, 0, none⟩) xl xl) (m ++ [some { cells := new, kind := .grow, size := s }]) ?_ (hK _ _ (.inr ⟨m.length, .grow, s, hbm, by rw [Nat.zero_add], by simp, by simpa using hn, .inr ⟨rfl, rfl⟩⟩) (by simp) fun j hj _ => List.getElem?_append_left hj)
      simp only [aloud, evD_of hx, evD_of hy, aappend, hE, hY, hc1, hc2]
      rw [if_neg hnone, if_neg hx0, if_pos (by simpa using hb), set1 m _ rfl]
  · have hg : (m ++ [none])[q]? = some (some { cells := c, kind := kd, size := sz }) := get_old _ hq
    have hql := (List.getElem?_eq_some_iff.1 hq).1
    by_cases hx0 : xl = 0
    · subst hx0
      obtain rfl : new = [] := List.eq_nil_of_length_eq_zero (by simpa using hn)
      refine fin (.slice (some ⟨q, 0, none⟩) n n) (m ++ [none]) ?_ (hK _ _ (.inr ⟨q, kd, sz, hq0, rfl, by rw [List.append_nil]; exact hg, by rw [List.append_nil]; exact hcl, hkd⟩) (by simp) fun j hj _ => List.getElem?_append_left hj)
      simp only [aloud, evD_of hx, evD_of hy, aappend, hE, hY, hc1, hc2]
      rw [if_neg hnone, if_pos trivial]
    · have hcn : (c ++ new).length = (n + xl) * s := by rw [List.length_append, hcl, hn, Nat.add_mul]
      rcases hkd with rfl | ⟨rfl, rfl⟩
      · refine fin (.slice (some ⟨m.length, 0, none⟩) (n + xl) (n + xl)) (m ++ [some { cells := c ++ new, kind := .grow, size := s }]) ?_ (hK _ _ (.inr ⟨m.length, .grow, s, hbm, rfl, by simp, hcn, .inr ⟨rfl, rfl⟩⟩) (by simp) fun j hj _ => List.getElem?_append_left hj)
        simp only [aloud, evD_of hx, evD_of hy, aappend, hE, hY, hc1, hc2]
        rw [if_neg hnone, if_neg hx0]
        simp only [hg]
        rw [if_neg (by omega), if_pos ⟨hb.1, hb.2, Nat.le_refl _⟩, if_pos (by omega), set1 m _ rfl]
        simp [List.take_of_length_le (show c.length ≤ n * s by omega)]
      · refine fin (.slice (some ⟨m.length, 0, none⟩) (n + xl) (n + xl)) ((m.set q none) ++ [some { cells := c ++ new, kind := .grow, size := sz }]) ?_ (hK _ _ (.inr ⟨m.length, .grow, sz, hbm, rfl, by simp, hcn, .inr ⟨rfl, rfl⟩⟩) (by simp) fun j hj hne => ?_)
        · simp only [aloud, evD_of hx, evD_of hy, aappend, hE, hY, hc1, hc2]
          rw [if_neg hnone, if_neg hx0]
          simp only [hg]
          rw [if_neg (by omega), if_pos ⟨hb.1, hb.2, Nat.le_refl _⟩, if_pos ⟨by omega, trivial⟩, List.set_append_left _ _ hql, set1 (m.set q none) _ (by simp)]
          simp [List.take_of_length_le (show c.length ≤ n * sz by omega)]
        · rw [List.getElem?_append_left (by simpa using hj), List.getElem?_set_ne]
          rintro rfl
          exact hne n n rfl
end
end Go.Proofs.YtedbjmgchfgabaaDoor.Abs
namespace Go.Proofs.YtedbjmgchfgabaaDoor.Abs
set_option linter.unusedSimpArgs false
set_option linter.unusedVariables false
open Go.RowKit
open Go.Proofs.YtedbjmgchfgabaaDoor.Sim
theorem NotOf.new {a j n c : Nat} (h : j < a) : NotOf (.slice (some ⟨a, 0, none⟩) n c) j := by
  intro n' c' e
  simp only [Value.slice.injEq, Option.some.injEq, Addr.mk.injEq] at e
  omega
theorem NotOf.nil {j : Nat} : NotOf (.slice none 0 0) j := fun n c e => by
  simp only [Value.slice.injEq] at e
  cases e.1
section
variable {P : Program} {nt : Nat} {ops : Array Oper} {t : Fm} {m : AM} {K : Fm → AM → Prop} {d T : Nat} {p : String} {af : Array Edge}
end
end Go.Proofs.YtedbjmgchfgabaaDoor.Abs
namespace Go.Proofs.YtedbjmgchfgabaaDoor.Abs
set_option linter.unusedSimpArgs false
set_option linter.unusedVariables false
open Go.RowKit
open Go.Proofs.YtedbjmgchfgabaaDoor.Sim
open Go.ChangeShapes Go.WideShapes Go.Deep
def RelSelf (v : Value) : Prop := ∃ c, v = .agg c ∧ ∀ R, Rel R (.agg c) (.agg c)
def Okarg3 (W : World) (a : AR) : Prop := Okarg W a ∨ RelSelf a.1
theorem top_call3 {P : Program} {f : FuncId} {W : World} (ars : List AR) (h : ∀ a ∈ ars, Okarg3 W a) (hc : ACall P f (mkVs 0 ars).toArray (ars.map mkB) (Ret (.bool true) (ars.map mkB))) :
    Calls P f (ars.map (·.1)).toArray W fun e w' => e = .returned (.bool true) ∧ Below W.heap.size W w' := by
  let R : Pl := fun i => (ars[i]?).bind mkP
  have hm : MRep W.heap.size R (ars.map mkB) W := by
    refine ⟨fun i hi => ?_, fun i b hi => ?_, fun i j b c p q hi hj hb _ _ _ _ => ?_⟩
    · simp only [List.length_map] at hi
      simp [R, List.getElem?_eq_none hi]
    · rw [List.getElem?_map] at hi
      cases ha : ars[i]? with
      | none => rw [ha] at hi; cases hi
      | some a =>
        rw [ha] at hi
        simp only [Option.map_some, Option.some.injEq] at hi
        obtain ⟨v, c⟩ := a
        rcases h _ (List.mem_of_getElem? ha) with (h1 | ⟨bb, o, n, cap, h1, h2, h3, h4, h5⟩) | ⟨l, h1, hl⟩
        · simp only at h1
          cases v with
          | slice x n cap => cases x with
            | none => simp [mkB] at hi
            | some x => simp [g0] at h1
          | _ => simp [mkB] at hi
        · simp only at h1
          subst h1
          simp only [mkB, Option.some.injEq] at hi
          subst hi
          refine ⟨⟨bb, o, cap - n⟩, by simp [R, ha, mkP], h3, ?_⟩
          refine ⟨fun e => by simp at e, fun j x hj => ⟨x, h4 j x hj, g0_rel (h5 x (List.mem_of_getElem? hj))⟩⟩
        · simp only at h1
          subst h1
          simp [mkB] at hi
    · rw [List.getElem?_map] at hi
      cases ha : ars[i]? with
      | none => rw [ha] at hi; cases hi
      | some a =>
        rw [ha] at hi
        simp only [Option.map_some, Option.some.injEq] at hi
        obtain ⟨v, c'⟩ := a
        cases v with
        | slice x n cap => cases x with
          | none => simp [mkB] at hi
          | some x => simp only [mkB, Option.some.injEq] at hi; subst hi; cases hb
        | _ => simp [mkB] at hi
  have hargs : Rels R (mkVs 0 ars).toArray (ars.map (·.1)).toArray := by
    refine ⟨by simp [mkVs_len], fun i hi => ?_⟩
    simp only [List.size_toArray, mkVs_len] at hi
    have ha : ars[i]? = some ars[i] := List.getElem?_eq_getElem hi
    have e1 : (mkVs 0 ars).toArray.getD i undef = mkV i ars[i].1 := by
      simp [mkVs_get, ha]
    have e2 : (ars.map (·.1)).toArray.getD i undef = ars[i].1 := by simp [hi]
    rw [e1, e2]
    generalize ars[i] = a at ha
    obtain ⟨v, c⟩ := a
    rcases h _ (List.mem_of_getElem? ha) with (h1 | ⟨bb, o, n, cap, h1, h2, h3, h4, h5⟩) | ⟨l, h1, hl⟩
    · simp only at h1 ⊢
      cases v with
      | slice x n cap => cases x with
        | none => exact g0_rel h1
        | some x => simp [g0] at h1
      | _ => exact g0_rel h1
    · simp only at h1 ⊢
      subst h1
      have := Rel.slice (R := R) i 0 n n ⟨bb, o, cap - n⟩ (by simp [R, ha, mkP]) (Nat.le_refl _)
      rw [show n + (cap - n) = cap by omega] at this
      simpa [mkV] using this
    · simp only at h1 ⊢
      subst h1
      exact hl R
  refine (hc W.heap.size R W _ (Nat.le_refl _) hm hargs).mono ?_
  rintro e w' ⟨v, v', R', m', rfl, k1, k2, rfl, rfl⟩
  cases k1
  exact ⟨rfl, k2.below hm (Nat.le_refl _)⟩
theorem RelSelf.rect (r : Rc) : RelSelf r.v := ⟨_, rfl, fun R => rel_aggI R [r.x, r.y, r.w, r.h]⟩
theorem RelSelf.kind (k : Kd) : RelSelf k.v := ⟨_, rfl, fun R => .agg _ _ rfl fun i hi => by
  simp at hi
  rcases (show i = 0 ∨ i = 1 ∨ i = 2 ∨ i = 3 ∨ i = 4 by omega) with rfl | rfl | rfl | rfl | rfl
  · exact .int _ _
  · exact .int _ _
  · exact .int _ _
  · exact .int _ _
  · exact .bool _⟩
def sv (l : List ByteArray) : List Value := l.map .string
def kb (y : List Int × Bool) : List Value := iv y.1 ++ [.bool y.2]
theorem g0_kb (y : List Int × Bool) : ∀ v ∈ kb y, g0 v = true := fun v hv => by
  rcases List.mem_append.1 hv with h | h
  · exact g0_iv _ v h
  · simp at h; subst h; rfl
def kindB (P : Program) (f : Field) : Bool := match P.underlying f.type with | some .bool => true | _ => false
def kindI (P : Program) (f : Field) : Bool := match P.underlying f.type with | some (.int .i64) => true | _ => false
def fieldsKB (P : Program) (fs : Array Field) (q : Nat) : Bool := (List.range q).all (fun j => match fs[j]? with | some f => kindI P f | none => false) && match fs[q]? with | some f => kindB P f | none => false
theorem fieldsKB_int {P : Program} {fs : Array Field} {q j : Nat} {f : Field} (h : fieldsKB P fs q = true) (hj : fs[j]? = some f) (hq : j < q) : P.underlying f.type = some (.int .i64) := by
  simp only [fieldsKB, Bool.and_eq_true] at h
  have := List.all_eq_true.1 h.1 j (List.mem_range.2 hq)
  rw [hj] at this
  simp only [kindI] at this
  split at this
  · assumption
  · cases this
theorem fieldsKB_bool {P : Program} {fs : Array Field} {q : Nat} {f : Field} (h : fieldsKB P fs q = true) (hj : fs[q]? = some f) : P.underlying f.type = some .bool := by
  simp only [fieldsKB, Bool.and_eq_true] at h
  have := h.2
  rw [hj] at this
  simp only [kindB] at this
  split at this
  · assumption
  · cases this
section
variable {H : Type} {enc : TypeId × Value → H} {P : Program} {w : World} {base : Nat} {spare : Nat → Bool} {held : Bool}
theorem arg_strs {r : Reach} {b0 : Nat} {T e : TypeId} {a : Option Addr} {n c : Nat} {d : DataW H} {p : List MemPlace} (ht : P.underlying T = some (.slice e)) (he : P.underlying e = some .string) (hce : P.cellsOf e = 1) (hok : Value.okWide P w r b0 T (.slice a n c)) (h : DataW.Trod enc P w base spare held T (.slice a n c) d p) :
    ∃ l : List ByteArray, l.length = n ∧ n ≤ maxLen ∧ Okarg w (.slice a n c, sv l) ∧ ∀ M : AM, ∀ i, M[i]? = some (mkB (.slice a n c, sv l)) → Strs M (mkV i (.slice a n c)) l := by
  obtain ⟨fuel, h⟩ := h
  rcases ok_slice ht hok with ⟨rfl, rfl, rfl⟩ | ⟨b, o, rfl, hle, hlt⟩
  · exact ⟨[], rfl, by unfold maxLen; omega, .inl rfl, fun M i hi => ⟨i, 0, .inl ⟨rfl, rfl⟩, (List.getElem?_eq_some_iff.1 hi).1, fun k hk => by simp at hk⟩⟩
  · rcases open_strs ht he hce h with ⟨hcs, _⟩ | ⟨x, l, cap, m, S, hcs, _, hl, hm, hmm, _, hcell⟩
    · simp [Value.cells] at hcs
    · simp [Value.cells] at hcs
      obtain ⟨rfl, rfl, rfl⟩ := hcs
      have hnm : n ≤ m := by rw [hmm]; split <;> omega
      refine ⟨(List.range n).map S, by simp, by omega, .inr ⟨b, o, n, c, rfl, hle, hlt, fun j x hj => ?_, fun x hx => ?_⟩, fun M i hM => ?_⟩
      · have hjl := (List.getElem?_eq_some_iff.1 hj).1
        simp [sv] at hjl
        have := (hcell j (by omega)).1
        rw [Addr.add_lit] at this
        rw [this]
        simpa [sv, hjl] using hj
      · simp [sv] at hx
        obtain ⟨k, _, rfl⟩ := hx
        rfl
      · simp only [mkB] at hM
        refine ⟨i, 0, by simpa [mkV] using Sl.mk (Nat.le_refl n), (List.getElem?_eq_some_iff.1 hM).1, fun k hk => ⟨_, hM, ?_⟩⟩
        simp at hk
        simp [sv, rowOf, hk]
theorem arg_kb {r : Reach} {b0 : Nat} {T e : TypeId} {fs : Array Field} {a : Option Addr} {n c : Nat} {d : DataW H} {p : List MemPlace} (ht : P.underlying T = some (.slice e)) (he : P.underlying e = some (.struct fs)) (hone : oneCellFields P fs = true) (hC : P.cellsOf e = fs.size)
    {q : Nat} (hq : fs.size = q + 1) (hi : fieldsKB P fs q = true) (hok : Value.okWide P w r b0 T (.slice a n c)) (h : DataW.Trod enc P w base spare held T (.slice a n c) d p) :
    ∃ F : Nat → List Int × Bool, (∀ k, (F k).1.length = q) ∧ n ≤ maxLen ∧ Okarg w (.slice a n c, (List.range n).flatMap fun k => kb (F k)) ∧ (∀ M : AM, ∀ i, M[i]? = some (mkB (.slice a n c, (List.range n).flatMap fun k => kb (F k))) → Sl (mkV i (.slice a n c)) i 0 n ∧ i < M.length ∧ ∀ k, k < n → RdL M i (0 + k * fs.size) (kb (F k))) := by
  obtain ⟨fuel, h⟩ := h
  rcases ok_slice ht hok with ⟨rfl, rfl, rfl⟩ | ⟨b, o, rfl, hle, hlt⟩
  · exact ⟨fun _ => (List.replicate q 0, false), fun _ => by simp, by unfold maxLen; omega, .inl rfl, fun M i hi => ⟨.inl ⟨rfl, rfl⟩, (List.getElem?_eq_some_iff.1 hi).1, fun k hk => by omega⟩⟩
  · rcases open_slice_fields ht he hone hC h with ⟨hcs, _⟩ | ⟨x, l, cap, m, D, Pl, hcs, _, hl, hm, hmm, _, hrow⟩
    · simp [Value.cells] at hcs
    · simp [Value.cells] at hcs
      obtain ⟨rfl, rfl, rfl⟩ := hcs
      have key : ∀ k : Nat, ∃ y : List Int × Bool, y.1.length = q ∧ (k < n → ∀ j v, (kb y)[j]? = some v → w.cell? ⟨b, o + (k * fs.size + j), none⟩ = some v) := fun k => by
        by_cases hk : k < n
        · obtain ⟨ys, nn, _, _, _, hf⟩ := hrow k (by rw [hmm]; split <;> omega)
          have key2 : ∀ j : Nat, ∃ z : Int, j < q → w.cell? ⟨b, o + (k * fs.size + j), none⟩ = some (.int .i64 z) := fun j => by
            by_cases hj : j < q
            · obtain ⟨v, y, h1, _, h3⟩ := hf j fs[j] (Array.getElem?_eq_getElem (by omega))
              obtain ⟨z, hz, _⟩ := DataW.trod_int (fieldsKB_int hi (Array.getElem?_eq_getElem (by omega)) hj) h3
              simp at hz
              subst hz
              rw [Addr.add_lit] at h1
              exact ⟨z, fun _ => h1⟩
            · exact ⟨0, fun h => absurd h hj⟩
          obtain ⟨g, hg⟩ := Classical.axiomOfChoice key2
          obtain ⟨v, y, h1, _, h3⟩ := hf q (fs[q]'(by omega)) (Array.getElem?_eq_getElem (by omega))
          obtain ⟨z, hz, _⟩ := DataW.trod_bool (fieldsKB_bool hi (Array.getElem?_eq_getElem (by omega))) h3
          simp at hz
          subst hz
          rw [Addr.add_lit] at h1
          refine ⟨((List.range q).map g, z), by simp, fun _ j v hj => ?_⟩
          unfold kb at hj
          rcases Nat.lt_trichotomy j q with h | rfl | h
          · rw [List.getElem?_append_left (by simpa [iv] using h), iv_get (by simpa using h)] at hj
            injection hj with hj
            rw [hg j h, ← hj]
            simp [h]
          · rw [List.getElem?_append_right (by simp [iv])] at hj
            simp [iv] at hj
            rw [← hj]; exact h1
          · rw [List.getElem?_eq_none (by simp [iv]; omega)] at hj
            cases hj
        · exact ⟨(List.replicate q 0, false), by simp, fun h => absurd h hk⟩
      obtain ⟨F, hF⟩ := Classical.axiomOfChoice key
      have hlenF : ∀ k, (kb (F k)).length = fs.size := fun k => by unfold kb; rw [List.length_append, iv_len, (hF k).1, hq]; rfl
      have get : ∀ q, ∀ k, k < q → ∀ j v, (kb (F k))[j]? = some v → ((List.range q).flatMap fun k => kb (F k))[k * fs.size + j]? = some v := by
        intro q
        induction q with
        | zero => intro k hk; omega
        | succ q ih =>
          intro k hk j v hj
          have hjl : j < fs.size := by
            have := (List.getElem?_eq_some_iff.1 hj).1
            rwa [hlenF] at this
          have hql : ((List.range q).flatMap fun k => kb (F k)).length = q * fs.size := by
            clear ih hk hj
            induction q with
            | zero => simp
            | succ q ih2 => rw [List.range_succ, List.flatMap_append, List.length_append, ih2]; simp [hlenF, Nat.add_mul]
          rw [List.range_succ, List.flatMap_append]
          rcases Nat.lt_succ_iff_lt_or_eq.1 hk with h' | h'
          · have h2 : k * fs.size + fs.size ≤ q * fs.size := by
              have := Nat.mul_le_mul_right fs.size (show k + 1 ≤ q by omega)
              rw [Nat.add_mul] at this; omega
            rw [List.getElem?_append_left (by rw [hql]; omega)]
            exact ih k h' j v hj
          · subst h'
            rw [List.getElem?_append_right (by rw [hql]; omega), hql, Nat.add_sub_cancel_left]
            simpa using hj
      have tot : ∀ q, ((List.range q).flatMap fun k => kb (F k)).length = q * fs.size := fun q => by
        induction q with
        | zero => simp
        | succ q ih2 => rw [List.range_succ, List.flatMap_append, List.length_append, ih2]; simp [hlenF, Nat.add_mul]
      refine ⟨F, fun k => (hF k).1, by omega, .inr ⟨b, o, n, c, rfl, hle, hlt, fun j x hj => ?_, fun x hx => ?_⟩, fun M i hM => ?_⟩
      · have hjl := (List.getElem?_eq_some_iff.1 hj).1
        simp only at hjl hj
        rw [tot] at hjl
        have hs : 0 < fs.size := by
          rcases Nat.eq_zero_or_pos fs.size with h0 | h0
          · rw [h0] at hjl; omega
          · exact h0
        have hk : j / fs.size < n := (Nat.div_lt_iff_lt_mul hs).2 hjl
        have hr : j % fs.size < fs.size := Nat.mod_lt _ hs
        have e : j = j / fs.size * fs.size + j % fs.size := by rw [Nat.mul_comm]; exact (Nat.div_add_mod j fs.size).symm
        obtain ⟨v, hv⟩ : ∃ v, (kb (F (j / fs.size)))[j % fs.size]? = some v := ⟨_, List.getElem?_eq_getElem (by rw [hlenF]; exact hr)⟩
        have h1 := get n (j / fs.size) hk (j % fs.size) v hv
        rw [← e] at h1
        rw [h1] at hj
        injection hj with hj
        have h2 := (hF (j / fs.size)).2 hk (j % fs.size) v hv
        rw [← e] at h2
        rw [h2, hj]
      · obtain ⟨k, _, hk⟩ := List.mem_flatMap.1 hx
        exact g0_kb _ x hk
      · simp only [mkB] at hM
        refine ⟨Sl.mk (Nat.le_refl _), (List.getElem?_eq_some_iff.1 hM).1, fun k hk => ⟨_, hM, fun j v hj => ?_⟩⟩
        rw [Nat.zero_add]
        exact get n k hk j v hj
def kv (l : List Kd) : List Value := l.flatMap Kd.cells
theorem arg_kinds {r : Reach} {b0 : Nat} {T e : TypeId} {fs : Array Field} {a : Option Addr} {n c : Nat} {d : DataW H} {p : List MemPlace} (ht : P.underlying T = some (.slice e)) (he : P.underlying e = some (.struct fs)) (hone : oneCellFields P fs = true) (hC : P.cellsOf e = fs.size)
    (hq : fs.size = 4 + 1) (hi : fieldsKB P fs 4 = true) (hok : Value.okWide P w r b0 T (.slice a n c)) (h : DataW.Trod enc P w base spare held T (.slice a n c) d p) :
    ∃ l : List Kd, l.length = n ∧ n ≤ maxLen ∧ Okarg w (.slice a n c, kv l) ∧ ∀ M : AM, ∀ i, M[i]? = some (mkB (.slice a n c, kv l)) → Kds M (mkV i (.slice a n c)) l := by
  obtain ⟨F, h1, h2, h3, h4⟩ := arg_kb ht he hone hC hq hi hok h
  have key : ∀ k, ∃ x : Kd, kb (F k) = x.cells := fun k => by
    have hk := h1 k
    generalize F k = y at hk ⊢
    obtain ⟨l, b⟩ := y
    simp only at hk
    match l, hk with
    | [x, y, z, u], _ => exact ⟨⟨x, y, z, u, b⟩, rfl⟩
  obtain ⟨G, hG⟩ := Classical.axiomOfChoice key
  have e : ((List.range n).flatMap fun k => kb (F k)) = kv ((List.range n).map G) := by
    unfold kv
    rw [List.flatMap_map]
    congr 1
    funext k
    exact hG k
  rw [e] at h3 h4
  refine ⟨(List.range n).map G, by simp, h2, h3, fun M i hM => ?_⟩
  obtain ⟨k1, k2, k3⟩ := h4 M i hM
  refine ⟨i, 0, by simpa using k1, k2, fun k hk => ?_⟩
  simp at hk
  have := k3 k hk
  rw [hq, hG k] at this
  have eg : ((List.range n).map G).getD k default = G k := by simp [hk]
  rw [eg]
  exact this
end
end Go.Proofs.YtedbjmgchfgabaaDoor.Abs
namespace Go.Proofs.YtedbjmgchfgabaaDoor.Abs
set_option linter.unusedSimpArgs false
set_option linter.unusedVariables false
open Go.RowKit
open Go.Proofs.YtedbjmgchfgabaaDoor.Sim
open Go.Proofs
theorem un21i : Tryd.prog.underlying 21 = some (.int .i32) := by kernel_rfl
theorem letter (b : UInt8) (h : 48 ≤ b.toNat ∧ b.toNat ≤ 57) : UInt8.ofNat (b.toNat + 49) = 97 + b - 48 := by
  apply UInt8.toNat_inj.1
  rw [UInt8.toNat_sub, UInt8.toNat_add, UInt8.toNat_ofNat']
  have e1 : (97 : UInt8).toNat = 97 := rfl
  have e2 : (48 : UInt8).toNat = 48 := rfl
  rw [e1, e2]
  omega
theorem el22 : elemB Tryd.prog 22 = some (9, 1, 16, #[.string ByteArray.empty]) := by kernel_rfl
theorem un22 : Tryd.prog.underlying 22 = some (.slice 9) := by kernel_rfl
theorem bs22 {m : AM} {k : Nat} {x : ByteArray} : abuildSlice Tryd.prog m k 22 1 [(0, .string x)] = some (.slice (some ⟨k, 0, none⟩) 1 1, m.set k (some { cells := [.string x] })) := by kernel_rfl
theorem row_pre' {m M M' : AM} {s : Nat} {u : Value} {c : List Value} {n : Nat} (hp : ∃ N, M = m ++ N) (hr : Row M m.length s u c n) (hl : M.length ≤ M'.length) (hk : ∀ j, j < M.length → NotOf u j → M'[j]? = M[j]?) : ∃ N, M' = m ++ N :=
  pre_keep hp hl fun j hj => hk j (by obtain ⟨N, e⟩ := hp; rw [e, List.length_append]; omega) (NotOf.row hr hj)
theorem join_len (c : UInt8) : ∀ (l : List (List UInt8)) (k : Nat), (∀ x ∈ l, x.length ≤ k) → (Lib.join l [c]).length ≤ l.length * (k + 1) ∧ l.length ≤ (Lib.join l [c]).length + 1 ∧ (l ≠ [] → (Lib.join l [c]).length + 1 ≤ l.length * (k + 1))
  | [], k, _ => by simp [Lib.join_nil]
  | [x], k, h => by
    rw [Lib.join_one]
    have := h x (by simp)
    simp
    omega
  | x :: y :: r, k, h => by
    have ej : Lib.join (x :: y :: r) [c] = x ++ c :: Lib.join (y :: r) [c] := by simp [Lib.join, List.intercalate]
    have ih := join_len c (y :: r) k (fun z hz => h z (List.mem_cons_of_mem _ hz))
    have hx := h x (by simp)
    rw [ej]
    simp only [List.length_append, List.length_cons] at ih ⊢
    have e : (r.length + 1 + 1) * (k + 1) = (r.length + 1) * (k + 1) + (k + 1) := by rw [Nat.succ_mul]
    have := ih.2.2 (by simp)
    omega
def packS (s : ByteArray) : ByteArray := ⟨(pkL 100 s.data.toList).toArray⟩
theorem Ren.tupSI {ρ : Nat → Nat} {n : Nat} (a : ByteArray) (b : Int) : Ren ρ n (.tuple #[.string a, .int .i64 b]) (.tuple #[.string a, .int .i64 b]) := .tuple _ _ rfl fun i hi => by
  simp at hi
  rcases (show i = 0 ∨ i = 1 by omega) with rfl | rfl
  · exact .string _
  · exact .int _ _
set_option maxHeartbeats 8000000 in
set_option maxRecDepth 100000 in
theorem Pack_ok {m : AM} {sv0 : Value} {B : Brd} (hs : Strs m sv0 B) (hv : skinB B = true) : ACall Tryd.prog 17 #[sv0] m (Ret (.tuple #[.string (joinB (B.map packS) ⟨#[47]⟩), .int .i64 0]) m) := by
  refine ACall.drop (Ren.tupSI _ _) ?_
  have hin := skin_in hv
  have hB : B.length ≤ 48 := hin.1.2
  have hv1 := fun T => Valid_ok (hs.old T)
  rw [hv] at hv1
  obtain ⟨A, O, sl, la, rd⟩ := id hs
  refine ACall.start Tryd.func17 rfl rfl ?_
  (repeat (first | (with_reducible refine AWo.cons ?_) | ((with_reducible refine Step.id ?_); first | ((with_reducible apply Step.move); exact rfl; exact rfl) | ((with_reducible apply Step.assign); exact rfl; exact rfl) | ((with_reducible apply Step.len); exact rfl; (focus (assumption)); (focus (decide +kernel)); exact rfl) | ((with_reducible apply Step.not); exact rfl; exact rfl) | ((with_reducible apply Step.callR fit); exact rfl; exact Tryd.func28; exact rfl; exact rfl; exact (hv1 _))) | (with_reducible refine AWo.nil ?_) | ((with_reducible apply AW.seq)) | ((with_reducible apply Then.n)) | ((with_reducible apply AW.regL)) | ((with_reducible apply AW.block)) | ((with_reducible apply AW.skip)) | ((with_reducible apply AW.condF); exact rfl; (focus (rfl)))))
  refine AW.loopW (fun n t M => ∃ (y : Nat) (u : Value), n = B.length - y ∧ y ≤ B.length ∧ (∃ N, M = m ++ N) ∧ Row M m.length 1 u (sv ((B.take y).map packS)) y ∧
    t = fr [(4, u), (13, sv0), (14, .int .i64 (B.length : Nat)), (15, .int .i64 (y : Nat))])
    ⟨_, _, (by repeat (first | exact trivial | (refine And.intro rfl ?_))), 0, _, rfl, Nat.zero_le _, ⟨_, rfl⟩, Row.nil, rfl⟩ ?_
  rintro n t M ⟨y, u, rfl, hy, hp, hrow, rfl⟩
  rcases Nat.lt_or_ge y B.length with hlt | hge
  · have hrw := skinRow hv (show y < bh B from hlt)
    have rsy : Rd M A (O + y) (.string (rowOf B y)) := by obtain ⟨N, rfl⟩ := hp; exact (rd y hlt).old _
    have hsz : (rowOf B y).data.toList.length = (rowOf B y).size := Array.length_toList
    have hw48 : (rowOf B y).size ≤ 48 := by rw [hrw.1]; exact hin.2.2
    have etk : (B.take (y + 1)).map packS = (B.take y).map packS ++ [packS (rowOf B y)] := by rw [take_snoc B y ByteArray.empty hlt, List.map_append]; rfl
    generalize rowOf B y = s at *
    refine AW.rebase ?_
    rw [List.append_nil]
    (repeat (first | (with_reducible refine AWo.cons ?_) | ((with_reducible refine Step.id ?_); first | ((with_reducible apply Step.assign); exact rfl; exact rfl) | ((with_reducible apply Step.load); exact rfl; (focus (decide +kernel)); exact rfl; (focus (assumption))) | ((with_reducible apply Step.ix1); exact rfl; (focus (assumption)); exact rfl; (focus (decide +kernel)); exact rfl; (focus (omega))) | ((with_reducible apply Step.lss); exact rfl; exact rfl; exact rfl)) | (with_reducible refine AWo.nil ?_) | ((with_reducible apply AW.seq)) | ((with_reducible apply Then.n)) | ((with_reducible apply AW.regL)) | ((with_reducible apply AW.block)) | ((with_reducible apply AW.skip)) | ((with_reducible apply AW.condT); exact rfl; (focus ((simp only [decide_eq_true_eq, decide_eq_false_iff_not, Bool.not_eq_true', Bool.not_eq_false', Bool.not_true, Bool.not_false]; first | assumption | omega))))))
    refine AW.loopW (fun n t M' => ∃ (i : Nat) (tx : ByteArray), n = s.size - i ∧ i ≤ s.size ∧ M' = M ∧ tx.data.toList ++ pkL 100 (s.data.toList.drop i) = pkL 100 s.data.toList ∧
      t = fr [(4, u), (6, .string s), (7, .string tx), (8, .int .i64 (i : Nat)), (13, sv0), (14, .int .i64 (B.length : Nat)), (15, .int .i64 (y : Nat))])
      ⟨_, _, (by repeat (first | exact trivial | (refine And.intro rfl ?_))), 0, _, rfl, Nat.zero_le _, rfl, by simp, rfl⟩ ?_
    rintro n t M' ⟨i, tx, rfl, hi, rfl, htx, rfl⟩
    rcases Nat.lt_or_ge i s.size with hil | hig
    · have hL : i < s.data.toList.length := by omega
      have bat : ∀ j, (h : j < s.size) → byteAt s j = (s.data.toList[j]'(by omega)).toNat := fun j h => by unfold byteAt; rw [getElem?_pos _ j h]; rfl
      have edr : s.data.toList.drop i = s.data.toList[i] :: s.data.toList.drop (i + 1) := List.drop_eq_getElem_cons hL
      have bi := bat i hil
      have hRl := runL_le s.data.toList[i] (s.data.toList.drop (i + 1))
      have hRa := runL_at s.data.toList[i] (s.data.toList.drop (i + 1))
      have hRe := runL_end s.data.toList[i] (s.data.toList.drop (i + 1))
      rw [List.length_drop] at hRl
      generalize hRR : runL s.data.toList[i] (s.data.toList.drop (i + 1)) = R at *
      (repeat (first | (with_reducible refine AWo.cons ?_) | ((with_reducible refine Step.id ?_); first | ((with_reducible apply Step.move); exact rfl; exact rfl) | ((with_reducible apply Step.assign); exact rfl; exact rfl) | ((with_reducible apply Step.lenS); exact rfl; exact un9; exact rfl) | ((with_reducible apply Step.lss); exact rfl; exact rfl; exact rfl)) | (with_reducible refine AWo.nil ?_) | ((with_reducible apply AW.seq)) | ((with_reducible apply Then.n)) | ((with_reducible apply AW.regL)) | ((with_reducible apply AW.block)) | ((with_reducible apply AW.skip)) | ((with_reducible apply AW.condT); exact rfl; (focus ((simp only [decide_eq_true_eq, decide_eq_false_iff_not, Bool.not_eq_true', Bool.not_eq_false', Bool.not_true, Bool.not_false]; first | assumption | omega))))))
      refine AW.loopW (fun n t M'' => ∃ k : Nat, n = R + 1 - k ∧ 1 ≤ k ∧ k ≤ R + 1 ∧ M'' = M' ∧ t = fr [(4, u), (6, .string s), (7, .string tx), (8, .int .i64 (i : Nat)), (9, .int .i64 (k : Nat)), (13, sv0), (14, .int .i64 (B.length : Nat)), (15, .int .i64 (y : Nat))])
        ⟨_, _, (by repeat (first | exact trivial | (refine And.intro rfl ?_))), 1, rfl, by omega, by omega, rfl, rfl⟩ ?_
      rintro n t M'' ⟨k, rfl, hk1, hk2, rfl, rfl⟩
      have e1 : (i : Int) + (k : Nat) = ((i + k : Nat) : Int) := by omega
      by_cases hkR : k ≤ R
      · have hik : i + k < s.size := by omega
        have hb1 : byteAt s (i + k) = byteAt s i := by
          have h1 := hRa (k - 1) (by omega)
          rw [List.getElem?_drop, show i + 1 + (k - 1) = i + k by omega, List.getElem?_eq_getElem (by omega)] at h1
          injection h1 with h1
          rw [bat _ hik, bi, h1]
        (repeat (first | (with_reducible refine AWo.cons ?_) | ((with_reducible refine Step.id ?_); first | ((with_reducible apply Step.gdT); exact rfl; exact rfl; (focus ((simp only [decide_eq_true_eq, decide_eq_false_iff_not, Bool.not_eq_true', Bool.not_eq_false', Bool.not_true, Bool.not_false]; first | assumption | omega)))) | ((with_reducible apply Step.move); exact rfl; exact rfl) | ((with_reducible apply Step.assign); exact rfl; exact rfl) | ((with_reducible apply Step.addE); exact rfl; exact rfl; (focus (assumption)); (focus (omega)); exact rfl) | ((with_reducible apply Step.strIx); exact rfl; exact rfl; exact un9; (focus (omega)); exact rfl) | ((with_reducible apply Step.lenS); exact rfl; exact un9; exact rfl) | ((with_reducible apply Step.add); exact rfl; exact rfl; (focus (omega)); exact rfl) | ((with_reducible apply Step.lss); exact rfl; exact rfl; exact rfl) | ((with_reducible apply Step.eql); exact rfl; exact rfl; exact rfl) | ((with_reducible apply Step.pickT); exact rfl; exact rfl; exact rfl; exact rfl; (focus ((simp only [decide_eq_true_eq, decide_eq_false_iff_not, Bool.not_eq_true', Bool.not_eq_false', Bool.not_true, Bool.not_false]; first | assumption | omega))))) | (with_reducible refine AWo.nil ?_) | ((with_reducible apply AW.seq)) | ((with_reducible apply Then.n)) | ((with_reducible apply AW.regL)) | ((with_reducible apply AW.block)) | ((with_reducible apply AW.drawL fit); (focus (decide +kernel))) | ((with_reducible apply InBlk.n)) | ((with_reducible apply AW.skip)) | ((with_reducible apply AW.condT); exact rfl; (focus ((simp only [decide_eq_true_eq, decide_eq_false_iff_not, Bool.not_eq_true', Bool.not_eq_false', Bool.not_true, Bool.not_false]; first | assumption | omega))))))
        exact ⟨_, _, by omega, (by repeat (first | exact trivial | (refine And.intro rfl ?_))), k + 1, rfl, by omega, by omega, rfl, rfl⟩
      · obtain rfl : k = R + 1 := by omega
        have hx : (i + (R + 1) < s.size ∧ byteAt s (i + (R + 1)) ≠ byteAt s i) ∨ ¬ i + (R + 1) < s.size := by
          by_cases hend : i + (R + 1) < s.size
          · refine .inl ⟨hend, fun h => ?_⟩
            rw [bat _ hend, bi] at h
            apply hRe
            rw [List.getElem?_drop, show i + 1 + R = i + (R + 1) by omega, List.getElem?_eq_getElem (by omega)]
            exact congrArg some (UInt8.toNat_inj.1 h)
          · exact .inr hend
        have hbb := hrw.2 i (by omega)
        have htl : tx.size ≤ 144 := by
          have h1 := congrArg List.length htx
          rw [List.length_append] at h1
          have h2 := pkL_len 100 s.data.toList (by omega)
          have h3 : tx.data.toList.length = tx.size := Array.length_toList
          omega
        have hpk : pkL 100 (s.data.toList.drop i) = (if 1 < R + 1 then Lib.decDigits (R + 1) else []) ++ (97 + s.data.toList[i] - 48) :: pkL 100 (s.data.toList.drop (i + (R + 1))) := by
          rw [edr]
          simp only [pkL, hRR]
          rw [List.drop_drop, show i + 1 + R = i + (R + 1) by omega, pkL_fuel 99 100 _ (by simp; omega) (by simp; omega)]
        have hle := letter s.data.toList[i] (by omega)
        rw [← bi] at hle
        have hdg : (digS (R + 1)).size ≤ 2 := by
          have := dig_len (n := R + 1) (by omega)
          show (Lib.decDigits (R + 1)).toArray.size ≤ 2
          simpa using this
        by_cases hR0 : R = 0
        · rcases hx with ⟨hend, hne⟩ | hend
          all_goals (repeat (first | (with_reducible refine AWo.cons ?_) | ((with_reducible refine Step.id ?_); first | ((with_reducible apply Step.gdT); exact rfl; exact rfl; (focus ((simp only [decide_eq_true_eq, decide_eq_false_iff_not, Bool.not_eq_true', Bool.not_eq_false', Bool.not_true, Bool.not_false]; first | assumption | omega)))) | ((with_reducible apply Step.gdF); exact rfl; exact rfl; (focus ((simp only [decide_eq_true_eq, decide_eq_false_iff_not, Bool.not_eq_true', Bool.not_eq_false', Bool.not_true, Bool.not_false]; first | assumption | omega)))) | ((with_reducible apply Step.move); exact rfl; exact rfl) | ((with_reducible apply Step.addE); exact rfl; exact rfl; (focus (assumption)); (focus (omega)); exact rfl) | ((with_reducible apply Step.strIx); exact rfl; exact rfl; exact un9; (focus (omega)); exact rfl) | ((with_reducible apply Step.lenS); exact rfl; exact un9; exact rfl) | ((with_reducible apply Step.lss); exact rfl; exact rfl; exact rfl) | ((with_reducible apply Step.gtr); exact rfl; exact rfl; exact rfl) | ((with_reducible apply Step.eql); exact rfl; exact rfl; exact rfl) | ((with_reducible apply Step.pickT); exact rfl; exact rfl; exact rfl; exact rfl; (focus ((simp only [decide_eq_true_eq, decide_eq_false_iff_not, Bool.not_eq_true', Bool.not_eq_false', Bool.not_true, Bool.not_false]; first | assumption | omega)))) | ((with_reducible apply Step.pickF); exact rfl; exact rfl; exact rfl; exact rfl; (focus ((simp only [decide_eq_true_eq, decide_eq_false_iff_not, Bool.not_eq_true', Bool.not_eq_false', Bool.not_true, Bool.not_false]; first | assumption | omega))))) | (with_reducible refine AWo.nil ?_) | ((with_reducible apply AW.seq)) | ((with_reducible apply Then.n)) | ((with_reducible apply AW.regL)) | ((with_reducible apply AW.drawL fit); (focus (decide +kernel))) | ((with_reducible apply AW.exit)) | ((with_reducible apply InBlk.hit)) | ((with_reducible apply Then.e)) | ((with_reducible apply AW.skip)) | ((with_reducible apply AW.condF); exact rfl; (focus (first | rfl | (simp only [decide_eq_true_eq, decide_eq_false_iff_not, Bool.not_eq_true', Bool.not_eq_false', Bool.not_true, Bool.not_false]; first | assumption | omega))))))
          all_goals ((with_reducible apply Step.addU); exact rfl; exact rfl; (focus (omega)); exact rfl)
          all_goals (repeat ((with_reducible refine AWo.cons ?_)))
          all_goals ((with_reducible apply Step.subU); exact rfl; exact rfl; (focus (omega)); exact rfl)
          all_goals (repeat ((with_reducible refine AWo.cons ?_)))
          all_goals ((with_reducible apply Step.u8R); exact rfl; exact un5'; exact un21i; (focus (omega)); exact rfl)
          all_goals (repeat ((with_reducible refine AWo.cons ?_)))
          all_goals ((with_reducible apply Step.runeS); exact rfl; exact un21i; exact un9; exact rfl)
          all_goals rw [show (97 : Int) + (byteAt s i : Nat) - 48 = ((byteAt s i + 49 : Nat) : Int) by omega, encode_small (by omega)]
          all_goals (repeat ((with_reducible refine AWo.cons ?_)))
          all_goals ((with_reducible apply Step.addS); exact rfl; exact rfl; exact un9; (focus (show tx.size + 1 ≤ 1000000; omega)); exact rfl)
          all_goals (repeat (first | (with_reducible refine AWo.cons ?_) | ((with_reducible refine Step.id ?_); first | ((with_reducible apply Step.move); exact rfl; exact rfl) | ((with_reducible apply Step.assign); exact rfl; exact rfl) | ((with_reducible apply Step.addE); exact rfl; exact rfl; (focus (assumption)); (focus (omega)); exact rfl)) | (with_reducible refine AWo.nil ?_) | ((with_reducible apply Then.n)) | ((with_reducible apply AW.regL)) | ((with_reducible apply InBlk.n))))
          all_goals exact ⟨_, _, by omega, (by repeat (first | exact trivial | (refine And.intro rfl ?_))), i + (R + 1), tx ++ ⟨#[UInt8.ofNat (byteAt s i + 49)]⟩, rfl, by omega, rfl, by rw [ByteArray.data_append, Array.toList_append, hle, ← htx, hpk, if_neg (by omega)]; simp, rfl⟩
        · have hit := fun m => itoa_ok (m := m) (R + 1) (by omega)
          rcases hx with ⟨hend, hne⟩ | hend
          all_goals (repeat (first | (with_reducible refine AWo.cons ?_) | ((with_reducible refine Step.id ?_); first | ((with_reducible apply Step.gdT); exact rfl; exact rfl; (focus ((simp only [decide_eq_true_eq, decide_eq_false_iff_not, Bool.not_eq_true', Bool.not_eq_false', Bool.not_true, Bool.not_false]; first | assumption | omega)))) | ((with_reducible apply Step.gdF); exact rfl; exact rfl; (focus ((simp only [decide_eq_true_eq, decide_eq_false_iff_not, Bool.not_eq_true', Bool.not_eq_false', Bool.not_true, Bool.not_false]; first | assumption | omega)))) | ((with_reducible apply Step.move); exact rfl; exact rfl) | ((with_reducible apply Step.addE); exact rfl; exact rfl; (focus (assumption)); (focus (omega)); exact rfl) | ((with_reducible apply Step.strIx); exact rfl; exact rfl; exact un9; (focus (omega)); exact rfl) | ((with_reducible apply Step.lenS); exact rfl; exact un9; exact rfl) | ((with_reducible apply Step.lss); exact rfl; exact rfl; exact rfl) | ((with_reducible apply Step.gtr); exact rfl; exact rfl; exact rfl) | ((with_reducible apply Step.eql); exact rfl; exact rfl; exact rfl) | ((with_reducible apply Step.pickT); exact rfl; exact rfl; exact rfl; exact rfl; (focus ((simp only [decide_eq_true_eq, decide_eq_false_iff_not, Bool.not_eq_true', Bool.not_eq_false', Bool.not_true, Bool.not_false]; first | assumption | omega)))) | ((with_reducible apply Step.pickF); exact rfl; exact rfl; exact rfl; exact rfl; (focus ((simp only [decide_eq_true_eq, decide_eq_false_iff_not, Bool.not_eq_true', Bool.not_eq_false', Bool.not_true, Bool.not_false]; first | assumption | omega)))) | ((with_reducible apply Step.callR fit); exact rfl; exact Tryd.func44; exact rfl; exact rfl; exact (hit _))) | (with_reducible refine AWo.nil ?_) | ((with_reducible apply AW.seq)) | ((with_reducible apply Then.n)) | ((with_reducible apply AW.regL)) | ((with_reducible apply AW.drawL fit); (focus (decide +kernel))) | ((with_reducible apply AW.exit)) | ((with_reducible apply InBlk.hit)) | ((with_reducible apply Then.e)) | ((with_reducible apply AW.condT); exact rfl; (focus ((simp only [decide_eq_true_eq, decide_eq_false_iff_not, Bool.not_eq_true', Bool.not_eq_false', Bool.not_true, Bool.not_false]; first | assumption | omega)))) | ((with_reducible apply AW.condF); exact rfl; (focus (first | rfl | (simp only [decide_eq_true_eq, decide_eq_false_iff_not, Bool.not_eq_true', Bool.not_eq_false', Bool.not_true, Bool.not_false]; first | assumption | omega))))))
          all_goals ((with_reducible apply Step.addS); exact rfl; exact rfl; exact un9; (focus (omega)); exact rfl)
          all_goals (repeat (first | (with_reducible refine AWo.cons ?_) | ((with_reducible refine Step.id ?_); first | ((with_reducible apply Step.move); exact rfl; exact rfl) | ((with_reducible apply Step.assign); exact rfl; exact rfl) | ((with_reducible apply Step.strIx); exact rfl; exact rfl; exact un9; (focus (omega)); exact rfl)) | (with_reducible refine AWo.nil ?_) | ((with_reducible apply AW.seq)) | ((with_reducible apply Then.n)) | ((with_reducible apply AW.regL))))
          all_goals ((with_reducible apply Step.addU); exact rfl; exact rfl; (focus (omega)); exact rfl)
          all_goals (repeat ((with_reducible refine AWo.cons ?_)))
          all_goals ((with_reducible apply Step.subU); exact rfl; exact rfl; (focus (omega)); exact rfl)
          all_goals (repeat ((with_reducible refine AWo.cons ?_)))
          all_goals ((with_reducible apply Step.u8R); exact rfl; exact un5'; exact un21i; (focus (omega)); exact rfl)
          all_goals (repeat ((with_reducible refine AWo.cons ?_)))
          all_goals ((with_reducible apply Step.runeS); exact rfl; exact un21i; exact un9; exact rfl)
          all_goals rw [show (97 : Int) + (byteAt s i : Nat) - 48 = ((byteAt s i + 49 : Nat) : Int) by omega, encode_small (by omega)]
          all_goals (repeat ((with_reducible refine AWo.cons ?_)))
          all_goals ((with_reducible apply Step.addS); exact rfl; exact rfl; exact un9; (focus (rw [ByteArray.size_append]; show tx.size + (digS (R + 1)).size + 1 ≤ 1000000; omega)); exact rfl)
          all_goals (repeat (first | (with_reducible refine AWo.cons ?_) | ((with_reducible refine Step.id ?_); first | ((with_reducible apply Step.move); exact rfl; exact rfl) | ((with_reducible apply Step.assign); exact rfl; exact rfl) | ((with_reducible apply Step.addE); exact rfl; exact rfl; (focus (assumption)); (focus (omega)); exact rfl)) | (with_reducible refine AWo.nil ?_) | ((with_reducible apply Then.n)) | ((with_reducible apply AW.regL)) | ((with_reducible apply InBlk.n))))
          all_goals exact ⟨_, _, by omega, (by repeat (first | exact trivial | (refine And.intro rfl ?_))), i + (R + 1), tx ++ digS (R + 1) ++ ⟨#[UInt8.ofNat (byteAt s i + 49)]⟩, rfl, by omega, rfl, by rw [ByteArray.data_append, Array.toList_append, ByteArray.data_append, Array.toList_append, hle, ← htx, hpk, if_pos (by omega)]; simp [digS], rfl⟩
    · obtain rfl : i = s.size := by omega
      have hml : m.length ≤ M'.length := by obtain ⟨N, e⟩ := hp; rw [e, List.length_append]; omega
      have etx : tx = packS s := by
        rw [List.drop_of_length_le (by omega)] at htx
        have h1 : pkL 100 [] = [] := rfl
        rw [h1, List.append_nil] at htx
        unfold packS
        rw [← htx]
        all_goals (rcases tx with ⟨d⟩; simp)
      subst etx
      refine AW.rebase ?_
      (repeat (first | (with_reducible refine AWo.cons ?_) | ((with_reducible refine Step.id ?_); first | ((with_reducible apply Step.move); exact rfl; exact rfl) | ((with_reducible apply Step.lenS); exact rfl; exact un9; exact rfl) | ((with_reducible apply Step.lss); exact rfl; exact rfl; exact rfl) | ((with_reducible apply Step.buildS 0); exact rfl; exact rfl; exact (fun _ _ => bs22); exact rfl; (focus (first | (simp only [List.nil_append, List.cons_append, List.set_cons_zero, List.set_cons_succ, iv_set, bv_set, iv_rep, bv_rep]; done) | (simp only [List.nil_append, List.cons_append, List.set_cons_zero, List.set_cons_succ, iv_set, bv_set, iv_rep, bv_rep]; rfl) | rfl)))) | (with_reducible refine AWo.nil ?_) | ((with_reducible apply AW.seq)) | ((with_reducible apply Then.n)) | ((with_reducible apply AW.regL)) | ((with_reducible apply AW.exit)) | ((with_reducible apply InBlk.hit)) | ((with_reducible apply Then.e)) | ((with_reducible apply AW.condF); exact rfl; (focus ((simp only [decide_eq_true_eq, decide_eq_false_iff_not, Bool.not_eq_true', Bool.not_eq_false', Bool.not_true, Bool.not_false]; first | assumption | omega))))))
      ((with_reducible apply Step.appRow (n := y) (xl := 1) (b0 := m.length) (new := [.string (packS s)])); exact rfl; exact rfl; exact (hrow.old _); exact (Sl.mk (Nat.le_refl _)); exact (fun _ => RdL.new rfl rfl); exact el22; exact un22; exact rfl; exact rfl; exact rfl; (focus (omega)); exact rfl; (focus (rw [List.length_append]; omega)))
      intro u' Ma hr hl hk
      have hpa := row_pre' (by obtain ⟨N, rfl⟩ := hp; exact ⟨_, List.append_assoc _ _ _⟩) (hrow.old _) hl hk
      (repeat (first | (with_reducible refine AWo.cons ?_) | ((with_reducible refine Step.id ?_); first | ((with_reducible apply Step.move); exact rfl; exact rfl) | ((with_reducible apply Step.assign); exact rfl; exact rfl) | ((with_reducible apply Step.add); exact rfl; exact rfl; (focus (omega)); exact rfl)) | (with_reducible refine AWo.nil ?_) | ((with_reducible apply Then.n)) | ((with_reducible apply AW.regL)) | ((with_reducible apply InBlk.n))))
      exact ⟨_, _, by omega, (by repeat (first | exact trivial | (refine And.intro rfl ?_))), y + 1, u', rfl, by omega, hpa, by rw [etk]; unfold sv; rw [List.map_append]; exact hr, rfl⟩
  · obtain rfl : y = B.length := by omega
    have hB1 : 1 ≤ B.length := hin.1.1
    have etk : (B.take B.length).map packS = B.map packS := by rw [List.take_of_length_le (Nat.le_refl _)]
    rw [etk] at hrow
    rcases hrow with ⟨_, _, h0⟩ | ⟨a, kd, sz, ha, rfl, hcell, hlen, _⟩
    · omega
    · have hpl : ∀ x ∈ (B.map packS).map (·.data.toList), x.length ≤ 144 := fun x hx => by
        obtain ⟨z, hz, rfl⟩ := List.mem_map.1 hx
        obtain ⟨s, hs', rfl⟩ := List.mem_map.1 hz
        obtain ⟨y, hy', rfl⟩ := List.getElem_of_mem hs'
        have h1 := skinRow hv (show y < bh B from hy')
        have h2 : rowOf B y = B[y] := by unfold rowOf; simp [hy']
        rw [h2] at h1
        have h3 : B[y].data.toList.length = B[y].size := Array.length_toList
        have h4 := pkL_len 100 B[y].data.toList (by omega)
        have h5 : (packS B[y]).data.toList.length = (pkL 100 B[y].data.toList).length := by simp [packS]
        omega
      have hjl := (join_len 47 ((B.map packS).map (·.data.toList)) 144 hpl).1
      rw [List.length_map, List.length_map] at hjl
      have key := fun M' => join_ok (m := M ++ M') (a := a) (o := 0) (c := B.length) (l := B.map packS) ⟨#[47]⟩ (by simp) (by simp; omega) (fun j hj => Rd.old _ ⟨_, hcell, by
        rw [Nat.zero_add]
        unfold sv
        rw [List.getElem?_map, List.getElem?_eq_getElem hj]
        rfl⟩) (by simp; omega) (by show (Lib.join _ [47]).length ≤ _; omega)
      rw [List.length_map] at key
      refine AW.rebase ?_
      (repeat (first | (with_reducible refine AWo.cons ?_) | ((with_reducible refine Step.id ?_); first | ((with_reducible apply Step.move); exact rfl; exact rfl) | ((with_reducible apply Step.assign); exact rfl; exact rfl) | ((with_reducible apply Step.lss); exact rfl; exact rfl; exact rfl) | ((with_reducible apply Step.callR fit); exact rfl; exact Tryd.func45; exact rfl; exact rfl; exact (key _))) | (with_reducible refine AWo.nil ?_) | ((with_reducible apply AW.seq)) | ((with_reducible apply Then.n)) | ((with_reducible apply AW.regL)) | ((with_reducible apply AW.exit)) | ((with_reducible apply InBlk.hit)) | ((with_reducible apply Then.e)) | ((with_reducible apply AW.condF); exact rfl; (focus ((simp only [decide_eq_true_eq, decide_eq_false_iff_not, Bool.not_eq_true', Bool.not_eq_false', Bool.not_true, Bool.not_false]; first | assumption | omega))))))
      (refine AW.ret ?_; (repeat (first | refine Then.r ?_ | refine InBlk.r ?_)))
      exact ⟨_, rfl, rfl, by obtain ⟨N, rfl⟩ := hp; exact ⟨N, by simp⟩⟩
end Go.Proofs.YtedbjmgchfgabaaDoor.Abs
namespace Go.Proofs.YtedbjmgchfgabaaDoor.Abs
set_option linter.unusedSimpArgs false
set_option linter.unusedVariables false
open Go.Proofs
/-- The text of a row, read from a state (the row so far, the number so far): what is read, or nothing. -/
def unS : List UInt8 → List UInt8 → Nat → Option (List UInt8 × Nat)
  | [], r, n => some (r, n)
  | c :: l, r, n => if 48 ≤ c.toNat ∧ c.toNat ≤ 57 then (if n ≤ 48 then unS l r (10 * n + (c.toNat - 48)) else none)
    else if 97 ≤ c.toNat ∧ c.toNat ≤ 106 then (if n ≤ 48 then unS l (r ++ List.replicate (max n 1) (48 + c - 97)) 0 else none) else none
theorem dig_is : ∀ n, 1 < n → n ≤ 48 → (n < 10 ∧ Lib.decDigits n = [UInt8.ofNat (48 + n)]) ∨ (10 ≤ n ∧ Lib.decDigits n = [UInt8.ofNat (48 + n / 10), UInt8.ofNat (48 + n % 10)]) := by
  intro n h1 h2
  by_cases h : n < 10
  · left
    refine ⟨h, ?_⟩
    rw [Lib.decDigits, dif_pos h]
  · right
    refine ⟨by omega, ?_⟩
    rw [Lib.decDigits, dif_neg h, Lib.decDigits, dif_pos (by omega)]
    rfl
theorem unS_letter (b : UInt8) (hb : 48 ≤ b.toNat ∧ b.toNat ≤ 57) (l r : List UInt8) {n : Nat} (hn : n ≤ 48) : unS ((97 + b - 48) :: l) r n = unS l (r ++ List.replicate (max n 1) b) 0 := by
  have e : (97 + b - 48).toNat = b.toNat + 49 := by
    rw [← letter b hb, UInt8.toNat_ofNat']
    omega
  have e2 : 48 + (97 + b - 48) - 97 = b := by
    apply UInt8.toNat_inj.1
    rw [UInt8.toNat_sub, UInt8.toNat_add, e]
    have e1 : (97 : UInt8).toNat = 97 := rfl
    have e2 : (48 : UInt8).toNat = 48 := rfl
    rw [e1, e2]
    omega
  simp only [unS, e]
  rw [if_neg (by omega), if_pos (by omega), if_pos hn, e2]
theorem unS_run (b : UInt8) (hb : 48 ≤ b.toNat ∧ b.toNat ≤ 57) (l r : List UInt8) {k : Nat} (hk : k < 48) :
    unS ((if 1 < k + 1 then Lib.decDigits (k + 1) else []) ++ (97 + b - 48) :: l) r 0 = unS l (r ++ List.replicate (k + 1) b) 0 := by
  by_cases h0 : k = 0
  · subst h0
    rw [if_neg (by omega), List.nil_append, unS_letter b hb l r (by omega)]
    rfl
  · rw [if_pos (by omega)]
    have hu : ∀ x, x < 100 → (UInt8.ofNat (48 + x)).toNat = 48 + x := fun x hx => by rw [UInt8.toNat_ofNat']; omega
    rcases dig_is (k + 1) (by omega) (by omega) with ⟨h1, h2⟩ | ⟨h1, h2⟩
    · rw [h2]
      show unS (UInt8.ofNat (48 + (k + 1)) :: (97 + b - 48) :: l) r 0 = _
      rw [unS, hu _ (by omega), if_pos (by omega), if_pos (by omega), unS_letter b hb l r (by omega)]
      rw [show max (10 * 0 + (48 + (k + 1) - 48)) 1 = k + 1 by omega]
    · rw [h2]
      show unS (UInt8.ofNat (48 + (k + 1) / 10) :: UInt8.ofNat (48 + (k + 1) % 10) :: (97 + b - 48) :: l) r 0 = _
      rw [unS, hu _ (by omega), if_pos (by omega), if_pos (by omega), unS, hu _ (by omega), if_pos (by omega), if_pos (by omega), unS_letter b hb l r (by omega)]
      rw [show max (10 * (10 * 0 + (48 + (k + 1) / 10 - 48)) + (48 + (k + 1) % 10 - 48)) 1 = k + 1 by omega]
theorem unS_pkL : ∀ (f : Nat) (l r : List UInt8), l.length ≤ f → l.length ≤ 48 → (∀ b ∈ l, 48 ≤ b.toNat ∧ b.toNat ≤ 57) → unS (pkL f l) r 0 = some (r ++ l, 0)
  | 0, [], r, _, _, _ => by simp [pkL, unS]
  | _ + 1, [], r, _, _, _ => by simp [pkL, unS]
  | 0, _ :: _, _, h, _, _ => by simp at h
  | f + 1, b :: l, r, hf, hl, hb => by
    have hr := runL_le b l
    simp only [List.length_cons] at hf hl
    simp only [pkL]
    rw [unS_run b (hb b (by simp)) _ r (by omega), unS_pkL f _ _ (by simp; omega) (by simp; omega) (fun c hc => hb c (List.mem_cons_of_mem _ (List.mem_of_mem_drop hc))), List.append_assoc, List.replicate_succ]
    have := runL_eq b l
    rw [← this, List.cons_append, List.take_append_drop]
/-- No text of a row holds the separator, and none is longer than its row. -/
theorem pkL_bytes : ∀ (f : Nat) (l : List UInt8), l.length ≤ 48 → (∀ b ∈ l, 48 ≤ b.toNat ∧ b.toNat ≤ 57) → (pkL f l).length ≤ l.length ∧ ∀ c ∈ pkL f l, c ≠ 47
  | 0, l, _, _ => by simp [pkL]
  | _ + 1, [], _, _ => by simp [pkL]
  | f + 1, b :: l, hl, hb => by
    have hr := runL_le b l
    simp only [List.length_cons] at hl
    have ih := pkL_bytes f (l.drop (runL b l)) (by simp; omega) (fun c hc => hb c (List.mem_cons_of_mem _ (List.mem_of_mem_drop hc)))
    have h9 : (97 + b - 48) ≠ 47 := by
      have := hb b (by simp)
      rw [← letter b this]
      intro e
      have := congrArg UInt8.toNat e
      rw [UInt8.toNat_ofNat'] at this
      have e2 : (47 : UInt8).toNat = 47 := rfl
      rw [e2] at this
      omega
    have hu : ∀ x, x < 100 → UInt8.ofNat (48 + x) ≠ 47 := fun x hx e => by
      have := congrArg UInt8.toNat e
      rw [UInt8.toNat_ofNat'] at this
      have e2 : (47 : UInt8).toNat = 47 := rfl
      rw [e2] at this
      omega
    rw [List.length_drop] at ih
    have hd : (if 1 < runL b l + 1 then Lib.decDigits (runL b l + 1) else []).length ≤ runL b l ∧ ∀ c ∈ (if 1 < runL b l + 1 then Lib.decDigits (runL b l + 1) else []), c ≠ 47 := by
      split
      · rename_i h1
        rcases dig_is (runL b l + 1) h1 (by omega) with ⟨h1, h2⟩ | ⟨h1, h2⟩
        · rw [h2]
          refine ⟨by simp; omega, fun c hc => ?_⟩
          rw [List.mem_singleton] at hc
          rw [hc]
          exact hu _ (by omega)
        · rw [h2]
          refine ⟨by simp; omega, fun c hc => ?_⟩
          simp only [List.mem_cons, List.not_mem_nil, or_false] at hc
          rcases hc with rfl | rfl
          · exact hu _ (by omega)
          · exact hu _ (by omega)
      · simp
    simp only [pkL, List.length_append, List.length_cons]
    refine ⟨by omega, fun c hc => ?_⟩
    rcases List.mem_append.1 hc with h | h
    · exact hd.2 c h
    · rcases List.mem_cons.1 h with rfl | h
      · exact h9
      · exact ih.2 c h
end Go.Proofs.YtedbjmgchfgabaaDoor.Abs
namespace Go.Proofs
set_option linter.unusedSimpArgs false
set_option linter.unusedVariables false
open Go.Shelf
def splitD_ren : Go.Shelf.Ren := ⟨fun | 146 => 46 | 221 => 76 | 268 => 99 | 138 => 100 | 143 => 101 | 195 => 117 | 197 => 108 | 218 => 118 | 219 => 119 | 260 => 136 | 217 => 143 | 225 => 144 | 224 => 145 | 267 => 146 | 266 => 157 | 314 => 158 | n => n, fun | 9 => 9 | 31 => 22 | 3 => 3 | 4 => 4 | 0 => 0 | 105 => 177 | 21 => 21 | 5 => 5 | 46 => 175 | 119 => 216 | 139 => 219 | 138 => 218 | 146 => 221 | 51 => 204 | n => n, fun | 1 => 1 | 3 => 2 | 4 => 3 | n => n⟩
theorem splitD : Go.Proofs.Lays.n146 Tryd.prog splitD_ren := {
  mixed := by kernel_rfl
  f138 := Tryd.func100.trans (congrArg some (by kernel_rfl))
  f143 := Tryd.func101.trans (congrArg some (by kernel_rfl))
  f146 := Tryd.func46.trans (congrArg some (by kernel_rfl))
  f195 := Tryd.func117.trans (congrArg some (by kernel_rfl))
  f197 := Tryd.func108.trans (congrArg some (by kernel_rfl))
  f217 := Tryd.func143.trans (congrArg some (by kernel_rfl))
  f218 := Tryd.func118.trans (congrArg some (by kernel_rfl))
  f219 := Tryd.func119.trans (congrArg some (by kernel_rfl))
  f221 := Tryd.func76.trans (congrArg some (by kernel_rfl))
  f224 := Tryd.func145.trans (congrArg some (by kernel_rfl))
  f225 := Tryd.func144.trans (congrArg some (by kernel_rfl))
  f260 := Tryd.func136.trans (congrArg some (by kernel_rfl))
  f266 := Tryd.func157.trans (congrArg some (by kernel_rfl))
  f267 := Tryd.func146.trans (congrArg some (by kernel_rfl))
  f268 := Tryd.func99.trans (congrArg some (by kernel_rfl))
  f314 := Tryd.func158.trans (congrArg some (by kernel_rfl))
  t0 := Tryd.underlying0
  a0 := Tryd.isAgg0
  z0 := Tryd.sizeOf0
  v0 := Tryd.zeroValue0
  t3 := Tryd.underlying3
  a3 := Tryd.isAgg3
  z3 := Tryd.sizeOf3
  v3 := Tryd.zeroValue3
  t4 := Tryd.underlying4
  a4 := Tryd.isAgg4
  z4 := Tryd.sizeOf4
  v4 := Tryd.zeroValue4
  t5 := Tryd.underlying5
  a5 := Tryd.isAgg5
  z5 := Tryd.sizeOf5
  v5 := Tryd.zeroValue5
  t9 := Tryd.underlying9
  a9 := Tryd.isAgg9
  z9 := Tryd.sizeOf9
  v9 := Tryd.zeroValue9
  t21 := Tryd.underlying21
  a21 := Tryd.isAgg21
  z21 := Tryd.sizeOf21
  v21 := Tryd.zeroValue21
  t31 := Tryd.underlying22
  a31 := Tryd.isAgg22
  z31 := Tryd.sizeOf22
  v31 := Tryd.zeroValue22
  t46 := Tryd.underlying175
  a46 := Tryd.isAgg175
  z46 := Tryd.sizeOf175
  v46 := Tryd.zeroValue175
  t51 := Tryd.underlying204
  a51 := Tryd.isAgg204
  z51 := Tryd.sizeOf204
  v51 := Tryd.zeroValue204
  t105 := Tryd.underlying177
  a105 := Tryd.isAgg177
  z105 := Tryd.sizeOf177
  v105 := Tryd.zeroValue177
  t119 := Tryd.underlying216
  a119 := Tryd.isAgg216
  z119 := Tryd.sizeOf216
  t138 := Tryd.underlying218
  a138 := Tryd.isAgg218
  z138 := Tryd.sizeOf218
  v138 := Tryd.zeroValue218
  t139 := Tryd.underlying219
  a139 := Tryd.isAgg219
  z139 := Tryd.sizeOf219
  v139 := Tryd.zeroValue219
  t146 := Tryd.underlying221
  a146 := Tryd.isAgg221
  z146 := Tryd.sizeOf221
  v146 := Tryd.zeroValue221
  g1 := by kernel_rfl
  g3 := by kernel_rfl
  g4 := by kernel_rfl }
end Go.Proofs
namespace Go.Proofs.YtedbjmgchfgabaaDoor.Abs
set_option linter.unusedSimpArgs false
set_option linter.unusedVariables false
open Go.RowKit
open Go.Proofs.YtedbjmgchfgabaaDoor.Sim
open Go.Proofs
section
variable {P : Program}
/-- A call whose result is a new row of ground cells. -/
theorem ACall.of_alloc {f : FuncId} {args : Array Value} {m : AM} {c : List Value} {ty : TypeId} {n : Nat} (hg : args.all g1 = true) (hc : ∀ v ∈ c, g1 v = true ∧ v.oneCell' = true) (hn : n ≤ c.length)
    (h : ∀ w, Calls P f args w fun e w' => e = .returned (.slice (some ⟨w.heap.size, 0, none⟩) n c.length) ∧ w' = w.alloc (.cells c.toArray ty)) :
    ACall P f args m (Ret (.slice (some ⟨m.length, 0, none⟩) n c.length) (m ++ [some { cells := c }])) := by
  intro base R w args' hb hm hargs
  have he : args' = args := ext_getD hargs.1.symm fun i hi => g1_eq (all_getD hg (by rw [hargs.1]; exact hi)) (hargs.2 i (by rw [hargs.1]; exact hi))
  subst he
  refine (h w).mono ?_
  rintro e w' ⟨rfl, rfl⟩
  have hR : R m.length = none := hm.none_ _ (Nat.le_refl _)
  have hbl : Below w.heap.size w (w.alloc (.cells c.toArray ty)) := (Below.refl _ _).alloc (Nat.le_refl _) _
  have key := (hm.pad 1).put (w' := w.alloc (.cells c.toArray ty)) m.length (by simp) (by simp) hR { cells := c } ⟨w.heap.size, 0, 0⟩ hbl.block rfl
    ⟨by simp, c.toArray, ty, heap_alloc_new w _, hb, by simp, fun _ => rfl, fun j v hj => ⟨v, by simpa using hj, g1_rel (hc v (List.mem_of_getElem? hj)).1, (hc v (List.mem_of_getElem? hj)).2⟩⟩
  have e1 : (m ++ List.replicate 1 none).set m.length (some { cells := c }) = m ++ [some ({ cells := c } : Blk)] := by simp
  rw [e1] at key
  obtain ⟨k1, k2⟩ := key
  refine ⟨_, _, R.put m.length ⟨w.heap.size, 0, 0⟩, _, rfl, ?_, ⟨k1, k2, rfl, rfl, rfl, hbl.size, fun k hk _ => hbl.block k hk, fun k ho => ?_⟩, rfl, rfl⟩
  · exact Rel.slice (R := R.put m.length ⟨w.heap.size, 0, 0⟩) m.length 0 n c.length ⟨w.heap.size, 0, 0⟩ (Pl.put_same _ _ _) hn
  · obtain ⟨j, b, q, q1, q2, q3, q4⟩ := ho
    by_cases e : j = m.length
    · subst e
      rw [Pl.put_same] at q3
      injection q3 with q3
      subst q3
      exact .inl (by rw [← q4]; exact Nat.le_refl _)
    · rw [Pl.put_other _ _ e] at q3
      refine .inr ⟨j, b, q, ?_, q2, q3, q4⟩
      have hj : j < m.length := by
        have := (List.getElem?_eq_some_iff.1 q1).1
        simp at this
        omega
      rwa [List.getElem?_append_left hj] at q1
end
theorem index_join (c : UInt8) : ∀ (x y : List UInt8), c ∉ x → Lib.index (x ++ c :: y) [c] = x.length := by
  intro x y h
  rw [Lib.index_one]
  induction x with
  | nil => simp [Lib.indexByte]
  | cons b x ih =>
    have h1 : b ≠ c := fun e => h (by simp [e])
    have h2 : c ∉ x := fun e => h (by simp [e])
    have ih := ih h2
    simp only [List.cons_append, Lib.indexByte]
    rw [if_neg (by simpa using h1), ih, if_neg (by simp)]
    simp
theorem splitK_join (c : UInt8) : ∀ (l : List (List UInt8)), (∀ x ∈ l, c ∉ x) → l ≠ [] → Lib.splitK [c] 0 (l.length - 1) (Lib.join l [c]) = l
  | [], _, h => (h rfl).elim
  | [x], _, _ => by rw [Lib.join_one]; rfl
  | x :: y :: r, h, _ => by
    have ej : Lib.join (x :: y :: r) [c] = x ++ c :: Lib.join (y :: r) [c] := by simp [Lib.join, List.intercalate]
    have hi := index_join c x (Lib.join (y :: r) [c]) (h x (by simp))
    have ih := splitK_join c (y :: r) (fun z hz => h z (List.mem_cons_of_mem _ hz)) (by simp)
    rw [ej]
    show Lib.splitK [c] 0 ((y :: r).length - 1 + 1) _ = _
    unfold Lib.splitK
    rw [hi, if_neg (by simp)]
    have e1 : (x ++ c :: Lib.join (y :: r) [c]).take ((x.length : Int).toNat + 0) = x := by simp
    have e2 : (x ++ c :: Lib.join (y :: r) [c]).drop ((x.length : Int).toNat + [c].length) = Lib.join (y :: r) [c] := by
      rw [Int.toNat_natCast, List.drop_append]
      simp
    rw [e1, e2, ih]
theorem count_join (c : UInt8) : ∀ (l : List (List UInt8)), (∀ x ∈ l, c ∉ x) → l ≠ [] → (Lib.join l [c]).count c = l.length - 1
  | [], _, h => (h rfl).elim
  | [x], h, _ => by rw [Lib.join_one]; exact List.count_eq_zero.2 (h x (by simp))
  | x :: y :: r, h, _ => by
    have ej : Lib.join (x :: y :: r) [c] = x ++ c :: Lib.join (y :: r) [c] := by simp [Lib.join, List.intercalate]
    have ih := count_join c (y :: r) (fun z hz => h z (List.mem_cons_of_mem _ hz)) (by simp)
    rw [ej, List.count_append, List.count_cons_self, List.count_eq_zero.2 (h x (by simp)), ih]
    simp
theorem split_joinB (L : List ByteArray) (h : ∀ x ∈ L, (47 : UInt8) ∉ x.data.toList) (hne : L ≠ []) :
    Lib.countB (joinB L ⟨#[47]⟩) ⟨#[47]⟩ = L.length - 1 ∧ Lib.splitB ⟨#[47]⟩ 0 (L.length - 1) (joinB L ⟨#[47]⟩) = L := by
  have hm : ∀ x ∈ L.map (·.data.toList), (47 : UInt8) ∉ x := fun x hx => by
    obtain ⟨y, hy, rfl⟩ := List.mem_map.1 hx
    exact h y hy
  have hne' : L.map (·.data.toList) ≠ [] := by simpa using hne
  have ed : (joinB L ⟨#[47]⟩).data.toList = Lib.join (L.map (·.data.toList)) [47] := by
    unfold joinB
    simp
  refine ⟨?_, ?_⟩
  · show Lib.count (joinB L ⟨#[47]⟩).data.toList [47] = _
    rw [Lib.count_one, ed, count_join 47 _ hm hne', List.length_map]
  · have key := Lib.splitB_data ⟨#[47]⟩ 0 (L.length - 1) (joinB L ⟨#[47]⟩)
    rw [ed] at key
    have k2 := splitK_join 47 (L.map (·.data.toList)) hm hne'
    rw [List.length_map] at k2
    have k3 : (Lib.splitB ⟨#[47]⟩ 0 (L.length - 1) (joinB L ⟨#[47]⟩)).map (·.data.toList) = L.map (·.data.toList) := key.trans k2
    have inj : ∀ (a b : List ByteArray), a.map (·.data.toList) = b.map (·.data.toList) → a = b := by
      intro a
      induction a with
      | nil => intro b hb; cases b with | nil => rfl | cons _ _ => simp at hb
      | cons x a ih =>
        intro b hb
        cases b with
        | nil => simp at hb
        | cons y b =>
          simp only [List.map_cons, List.cons.injEq] at hb
          obtain ⟨h1, h2⟩ := hb
          rw [ih b h2]
          congr 1
          rcases x with ⟨⟨x⟩⟩
          rcases y with ⟨⟨y⟩⟩
          simp at h1
          rw [h1]
    exact inj _ _ k3
theorem hi9' : (Tryd.prog.info? (splitD_ren.t 9)).map (fun i => (i.zero, i.size, i.bytes)) = some (some (.string ByteArray.empty), 1, 16) := by kernel_rfl
set_option maxRecDepth 100000 in
theorem genSplit_ok {m : AM} (L : List ByteArray) (h : ∀ x ∈ L, (47 : UInt8) ∉ x.data.toList) (hne : L ≠ []) (hs : (joinB L ⟨#[47]⟩).size < 4000000000) :
    ACall Tryd.prog 76 #[.string (joinB L ⟨#[47]⟩), .string ⟨#[47]⟩, .int .i64 0, .int .i64 (-1)] m (Ret (.slice (some ⟨m.length, 0, none⟩) L.length L.length) (m ++ [some { cells := sv L }])) := by
  obtain ⟨h1, h2⟩ := split_joinB L h hne
  have hL : 0 < L.length := List.length_pos_iff.2 hne
  have hcl := Lib.countB_le ⟨#[47]⟩ (by decide) _ (joinB L ⟨#[47]⟩) (Nat.le_refl _)
  have esv : sv L = L.map Value.string := rfl
  have key := ACall.of_alloc (P := Tryd.prog) (f := 76) (m := m) (args := #[.string (joinB L ⟨#[47]⟩), .string ⟨#[47]⟩, .int .i64 0, .int .i64 (-1)]) (c := sv L) (ty := splitD_ren.t 9) (n := L.length) (by simp [g1, g0]) (fun v hv => by
      rw [esv] at hv
      obtain ⟨x, _, rfl⟩ := List.mem_map.1 hv
      exact ⟨rfl, rfl⟩) (by rw [esv, List.length_map]; exact Nat.le_refl _) (fun w => by
      have c := Any.strings_genSplit_core (P := Tryd.prog) (ρ := splitD_ren) { splitD with } hi9' (joinB L ⟨#[47]⟩) ⟨#[47]⟩ 0 (-1) L.length w (by omega) (by decide) (Nat.zero_le _)
        (fun x c _ => (Any.strings_Index_one { splitD with } x 47 _).mono fun e w' ⟨he, hw⟩ => ⟨by
          rw [he]
          show _ = Ending.returned (Value.int .i64 (Lib.index x.data.toList [47]))
          rw [Lib.index_one], hw⟩)
        ((Any.strings_Count_one { splitD with } (joinB L ⟨#[47]⟩) 47 w).mono fun e w' ⟨he, hw⟩ => ⟨by
          rw [he]
          show _ = Ending.returned (Value.int .i64 ((Lib.count (joinB L ⟨#[47]⟩).data.toList [47] : Nat) : Int))
          rw [Lib.count_one]
          rfl, hw⟩)
        (by decide) (by decide) (by rw [if_pos (by decide), h1]; omega)
      have e1 : Lib.cellsOf (Lib.splitB ⟨#[47]⟩ 0 (L.length - 1) (joinB L ⟨#[47]⟩)) L.length = (sv L).toArray := by rw [h2]; exact Lib.cellsOf_full L
      have e2 : (Lib.splitB ⟨#[47]⟩ 0 (L.length - 1) (joinB L ⟨#[47]⟩)).length = L.length := by rw [h2]
      have e3 : (sv L).length = L.length := by rw [esv, List.length_map]
      rw [e1, e2] at c
      rw [e3]
      have e4 : splitD_ren.f 221 = 76 := by kernel_rfl
      rw [e4] at c
      exact c)
  have e3 : (sv L).length = L.length := by rw [esv, List.length_map]
  rw [e3] at key
  exact key
set_option maxRecDepth 100000 in
theorem Split_ok {m : AM} (L : List ByteArray) (h : ∀ x ∈ L, (47 : UInt8) ∉ x.data.toList) (hne : L ≠ []) (hs : (joinB L ⟨#[47]⟩).size < 4000000000) :
    ACall Tryd.prog 46 #[.string (joinB L ⟨#[47]⟩), .string ⟨#[47]⟩] m (Ret (.slice (some ⟨m.length, 0, none⟩) L.length L.length) (m ++ [some { cells := sv L }])) := by
  refine ACall.start Tryd.func46 rfl rfl ?_
  (repeat (first | (with_reducible refine AWo.cons ?_) | ((with_reducible refine Step.id ?_); first | ((with_reducible apply Step.move); exact rfl; exact rfl) | ((with_reducible apply Step.assign); exact rfl; exact rfl) | ((with_reducible apply Step.callM fit); exact rfl; exact Tryd.func76; exact rfl; exact rfl; exact (genSplit_ok L h hne hs))) | (with_reducible refine AWo.nil ?_) | ((with_reducible apply AW.seq)) | ((with_reducible apply Then.n)) | ((with_reducible apply AW.regL))))
  (refine AW.ret ?_; (repeat (first | refine Then.r ?_ | refine InBlk.r ?_)))
  exact ⟨_, rfl, by simp, by simp⟩
end Go.Proofs.YtedbjmgchfgabaaDoor.Abs
namespace Go.Proofs.YtedbjmgchfgabaaDoor.Abs
set_option linter.unusedSimpArgs false
set_option linter.unusedVariables false
open Go.RowKit
open Go.Proofs.YtedbjmgchfgabaaDoor.Sim
open Go.Proofs
theorem unS_len : ∀ (l r : List UInt8) (n : Nat) (q : List UInt8 × Nat), unS l r n = some q → r.length ≤ q.1.length
  | [], r, n, q, h => by simp only [unS] at h; injection h with h; subst h; exact Nat.le_refl _
  | c :: l, r, n, q, h => by
    simp only [unS] at h
    split at h
    · split at h
      · exact unS_len l r _ q h
      · cases h
    · split at h
      · split at h
        · have := unS_len l _ _ q h
          rw [List.length_append] at this
          omega
        · cases h
      · cases h
theorem el96 : elemB Tryd.prog 96 = some (5, 1, 1, #[.int .u8 0]) := by kernel_rfl
theorem bs96 {m : AM} {k : Nat} {x : Int} : abuildSlice Tryd.prog m k 96 1 [(0, .int .u8 x)] = some (.slice (some ⟨k, 0, none⟩) 1 1, m.set k (some { cells := [.int .u8 x] })) := by kernel_rfl
theorem sv_get (B : Brd) {y : Nat} (h : y < B.length) : (sv B)[y]? = some (.string (rowOf B y)) := by
  unfold sv rowOf
  rw [getD_in _ _ h]
  simp [h]
theorem row_strs {M : AM} {b0 n : Nat} {u : Value} {B : Brd} (h : Row M b0 1 u (sv B) n) (hn : n = B.length) (hM : 0 < M.length) : Strs M u B := by
  subst hn
  obtain ⟨a, h1, h2, h3⟩ := Row.sl h hM
  refine ⟨a, 0, h1, h2, fun y hy => ?_⟩
  have := (h3 (by omega)).at_ y (sv_get B hy)
  exact this
theorem mk_list (s : ByteArray) : (⟨s.data.toList.toArray⟩ : ByteArray) = s := by rcases s with ⟨d⟩; simp
set_option maxHeartbeats 8000000 in
set_option maxRecDepth 100000 in
theorem Unpack_ok {m : AM} {B : Brd} (hv : skinB B = true) : ACall Tryd.prog 18 #[.string (joinB (B.map packS) ⟨#[47]⟩)] m (More (fun M w => ∃ u, w = .tuple #[u, .int .i64 0] ∧ Strs M u B) m) := by
  have hin := skin_in hv
  have hB : B.length ≤ 48 := hin.1.2
  have hB1 : 1 ≤ B.length := hin.1.1
  have hrows : ∀ y, y < B.length → (rowOf B y).data.toList.length ≤ 48 ∧ 1 ≤ (rowOf B y).data.toList.length ∧ ∀ b ∈ (rowOf B y).data.toList, 48 ≤ b.toNat ∧ b.toNat ≤ 57 := fun y hy => by
    have h1 := skinRow hv (show y < bh B from hy)
    have hsz : (rowOf B y).data.toList.length = (rowOf B y).size := Array.length_toList
    refine ⟨by rw [hsz, h1.1]; exact hin.2.2, by rw [hsz, h1.1]; exact hin.2.1, fun b hb => ?_⟩
    obtain ⟨j, hj, rfl⟩ := List.getElem_of_mem hb
    have h2 := h1.2 j (by rw [← h1.1, ← hsz]; exact hj)
    have e : byteAt (rowOf B y) j = ((rowOf B y).data.toList[j]).toNat := by unfold byteAt; rw [getElem?_pos _ j (by rw [← hsz]; exact hj)]; rfl
    rw [e] at h2
    exact h2
  have hget : ∀ y, (h : y < B.length) → (B.map packS)[y]? = some (packS (rowOf B y)) := fun y h => by
    rw [List.getElem?_map, List.getElem?_eq_getElem h]
    unfold rowOf
    simp [h]
  have hmem : ∀ x ∈ B.map packS, x.data.toList.length ≤ 48 ∧ (47 : UInt8) ∉ x.data.toList := fun x hx => by
    obtain ⟨y, hy, rfl⟩ := List.getElem_of_mem hx
    have hy' : y < B.length := by simpa using hy
    have h1 := hget y hy'
    rw [List.getElem?_eq_getElem hy] at h1
    injection h1 with h1
    rw [h1]
    obtain ⟨h2, _, h3⟩ := hrows y hy'
    have h4 := pkL_bytes 100 (rowOf B y).data.toList h2 h3
    have e : (packS (rowOf B y)).data.toList = pkL 100 (rowOf B y).data.toList := by simp [packS]
    rw [e]
    exact ⟨by omega, fun h => h4.2 _ h rfl⟩
  have hTs : (joinB (B.map packS) ⟨#[47]⟩).size ≤ 2351 := by
    have h1 := (join_len 47 ((B.map packS).map (·.data.toList)) 48 (fun x hx => by obtain ⟨z, hz, rfl⟩ := List.mem_map.1 hx; exact (hmem z hz).1)).2.2 (by simp; intro e; rw [e] at hB1; simp at hB1)
    rw [List.length_map, List.length_map] at h1
    have h2 : (joinB (B.map packS) ⟨#[47]⟩).size = (Lib.join ((B.map packS).map (·.data.toList)) [47]).length := by
      unfold joinB
      show (Lib.join _ _).toArray.size = _
      simp
    omega
  have hsp := fun M => Split_ok (m := M) (B.map packS) (fun x hx => (hmem x hx).2) (by simp; intro e; rw [e] at hB1; simp at hB1) (by omega)
  have hpk := fun (M : AM) (u : Value) (h : Strs M u B) => Pack_ok h hv
  rw [List.length_map] at hsp
  generalize joinB (B.map packS) ⟨#[47]⟩ = TX at *
  have hcs : ∀ y, y < B.length → (sv (B.map packS))[y]? = some (.string (packS (rowOf B y))) := fun y h => by unfold sv; rw [List.getElem?_map, hget y h]; rfl
  refine ACall.start Tryd.func18 rfl rfl ?_
  (repeat (first | (with_reducible refine AWo.cons ?_) | ((with_reducible refine Step.id ?_); first | ((with_reducible apply Step.move); exact rfl; exact rfl) | ((with_reducible apply Step.assign); exact rfl; exact rfl) | ((with_reducible apply Step.lenS); exact rfl; exact un9; exact rfl) | ((with_reducible apply Step.gtr); exact rfl; exact rfl; exact rfl) | ((with_reducible apply Step.len); exact rfl; (focus (exact Sl.mk (by omega))); (focus (decide +kernel)); exact rfl) | ((with_reducible apply Step.callM fit); exact rfl; exact Tryd.func46; exact rfl; exact rfl; exact (hsp _))) | (with_reducible refine AWo.nil ?_) | ((with_reducible apply AW.seq)) | ((with_reducible apply Then.n)) | ((with_reducible apply AW.regL)) | ((with_reducible apply AW.block)) | ((with_reducible apply AW.skip)) | ((with_reducible apply AW.condF); exact rfl; (focus ((simp only [decide_eq_true_eq, decide_eq_false_iff_not, Bool.not_eq_true', Bool.not_eq_false', Bool.not_true, Bool.not_false]; first | assumption | omega))))))
  rw [List.append_nil]
  refine AW.loopW (fun n t M => ∃ (y : Nat) (u : Value), n = B.length - y ∧ y ≤ B.length ∧ (∃ N, M = (m ++ [some { cells := sv (B.map packS) }]) ++ N) ∧ Row M (m.length + 1) 1 u (sv (B.take y)) y ∧
    t = fr [(0, .string TX), (4, u), (17, .slice (some ⟨m.length, 0, none⟩) B.length B.length), (18, .int .i64 (B.length : Nat)), (19, .int .i64 (y : Nat))])
    ⟨_, _, (by repeat (first | exact trivial | (refine And.intro rfl ?_))), 0, _, rfl, Nat.zero_le _, ⟨[], by simp⟩, Row.nil, rfl⟩ ?_
  rintro n t M ⟨y, u, rfl, hy, hp, hrow, rfl⟩
  have hml : m.length + 1 ≤ M.length := by obtain ⟨N, e⟩ := hp; rw [e]; simp <;> omega
  rcases Nat.lt_or_ge y B.length with hlt | hge
  · have rsy : Rd M m.length y (.string (packS (rowOf B y))) := by
      obtain ⟨N, rfl⟩ := hp
      exact Rd.old _ ⟨_, by rw [List.getElem?_append_right (Nat.le_refl _)]; simp; rfl, hcs y hlt⟩
    obtain ⟨hl48, hl1, hlb⟩ := hrows y hlt
    have hun := unS_pkL 100 (rowOf B y).data.toList [] (by omega) hl48 hlb
    have etk : B.take (y + 1) = B.take y ++ [rowOf B y] := take_snoc B y ByteArray.empty hlt
    have epk : (packS (rowOf B y)).data.toList = pkL 100 (rowOf B y).data.toList := by simp [packS]
    rw [← epk, List.nil_append] at hun
    have hps : (packS (rowOf B y)).data.toList.length ≤ 48 := (hmem _ (List.mem_of_getElem? (hget y hlt))).1
    generalize packS (rowOf B y) = s at *
    have hmk := mk_list (rowOf B y)
    generalize (rowOf B y).data.toList = l at *
    generalize rowOf B y = rowy at *
    have hsz : s.data.toList.length = s.size := Array.length_toList
    refine AW.rebase ?_
    rw [List.append_nil]
    (repeat (first | (with_reducible refine AWo.cons ?_) | ((with_reducible refine Step.id ?_); first | ((with_reducible apply Step.move); exact rfl; exact rfl) | ((with_reducible apply Step.assign); exact rfl; exact rfl) | ((with_reducible apply Step.load); exact rfl; (focus (decide +kernel)); exact rfl; (focus (assumption))) | ((with_reducible apply Step.ix1z); exact rfl; (focus (exact Sl.mk (by omega))); exact rfl; (focus (decide +kernel)); exact rfl; (focus (omega))) | ((with_reducible apply Step.lss); exact rfl; exact rfl; exact rfl)) | (with_reducible refine AWo.nil ?_) | ((with_reducible apply AW.seq)) | ((with_reducible apply Then.n)) | ((with_reducible apply AW.regL)) | ((with_reducible apply AW.block)) | ((with_reducible apply AW.skip)) | ((with_reducible apply AW.condT); exact rfl; (focus ((simp only [decide_eq_true_eq, decide_eq_false_iff_not, Bool.not_eq_true', Bool.not_eq_false', Bool.not_true, Bool.not_false]; first | assumption | omega))))))
    ((with_reducible apply Step.toBytes); exact rfl; exact un9; exact un96'; exact un5'; exact rfl)
    (repeat (first | (with_reducible refine AWo.cons ?_) | ((with_reducible refine Step.id ?_); first | ((with_reducible apply Step.move); exact rfl; exact rfl) | ((with_reducible apply Step.len); exact rfl; (focus (exact Sl.mk (by omega))); (focus (decide +kernel)); exact rfl)) | (with_reducible refine AWo.nil ?_) | ((with_reducible apply Then.n)) | ((with_reducible apply AW.block))))
    refine AW.loopW (fun nn t M' => ∃ (x n : Nat) (r : List UInt8) (ru : Value), nn = s.size - x ∧ x ≤ s.size ∧ n ≤ 1000 ∧ (∃ N, M' = (M ++ [some { cells := by8 s.data.toList, kind := .str, size := 1 }]) ++ N) ∧ Row M' (M.length + 1) 1 ru (by8 r) r.length ∧ unS (s.data.toList.drop x) r n = some (l, 0) ∧
      t = fr [(0, .string TX), (4, u), (7, ru), (8, .int .i64 (n : Nat)), (17, .slice (some ⟨m.length, 0, none⟩) B.length B.length), (18, .int .i64 (B.length : Nat)), (19, .int .i64 (y : Nat)), (24, .slice (some ⟨M.length, 0, none⟩) s.size s.size), (25, .int .i64 (s.size : Nat)), (26, .int .i64 (x : Nat))])
      ⟨_, _, (by repeat (first | exact trivial | (refine And.intro rfl ?_))), 0, 0, [], _, rfl, Nat.zero_le _, by omega, ⟨[], by simp⟩, Row.nil, hun, rfl⟩ ?_
    rintro nn t M' ⟨x, n, r, ru, rfl, hx, hn, hp', hrr, hux, rfl⟩
    have hr48 := unS_len _ _ _ _ hux
    simp only at hr48
    have hM'l : M.length + 1 ≤ M'.length := by obtain ⟨N, e⟩ := hp'; rw [e]; simp <;> omega
    rcases Nat.lt_or_ge x s.size with hxl | hxg
    · have hxL : x < s.data.toList.length := by omega
      have r8 : Rd M' M.length x (.int .u8 ((s.data.toList[x].toNat : Nat) : Int)) := by
        obtain ⟨N, rfl⟩ := hp'
        refine Rd.old _ ⟨_, by rw [List.getElem?_append_right (Nat.le_refl _)]; simp; rfl, by8_get hxL⟩
      rw [List.drop_eq_getElem_cons hxL] at hux
      generalize hcx : s.data.toList[x] = c at *
      have hc256 := c.toNat_lt
      simp only [unS] at hux
      split at hux
      · rename_i hdig
        split at hux
        · rename_i hn48
          have e8 : (c.toNat : Int) - 48 = ((c.toNat - 48 : Nat) : Int) := by omega
          have e9 : (10 : Int) * (n : Nat) = ((10 * n : Nat) : Int) := by omega
          have e10 : ((10 * n : Nat) : Int) + ((c.toNat - 48 : Nat) : Int) = ((10 * n + (c.toNat - 48) : Nat) : Int) := by omega
          generalize c.toNat = k at *
          (repeat (first | (with_reducible refine AWo.cons ?_) | ((with_reducible refine Step.id ?_); first | ((with_reducible apply Step.gdT); exact rfl; exact rfl; (focus ((simp only [decide_eq_true_eq, decide_eq_false_iff_not, Bool.not_eq_true', Bool.not_eq_false', Bool.not_true, Bool.not_false]; first | assumption | omega)))) | ((with_reducible apply Step.move); exact rfl; exact rfl) | ((with_reducible apply Step.assign); exact rfl; exact rfl) | ((with_reducible apply Step.load); exact rfl; (focus (decide +kernel)); exact rfl; (focus (assumption))) | ((with_reducible apply Step.ix1z); exact rfl; (focus (exact Sl.mk (by omega))); exact rfl; (focus (decide +kernel)); exact rfl; (focus (omega))) | ((with_reducible apply Step.mulE); exact rfl; exact rfl; (focus (assumption)); (focus (omega)); exact rfl) | ((with_reducible apply Step.lss); exact rfl; exact rfl; exact rfl) | ((with_reducible apply Step.leq); exact rfl; exact rfl; exact rfl) | ((with_reducible apply Step.geq); exact rfl; exact rfl; exact rfl) | ((with_reducible apply Step.pickT); exact rfl; exact rfl; exact rfl; exact rfl; (focus ((simp only [decide_eq_true_eq, decide_eq_false_iff_not, Bool.not_eq_true', Bool.not_eq_false', Bool.not_true, Bool.not_false]; first | assumption | omega))))) | (with_reducible refine AWo.nil ?_) | ((with_reducible apply AW.seq)) | ((with_reducible apply Then.n)) | ((with_reducible apply AW.regL)) | ((with_reducible apply AW.block)) | ((with_reducible apply AW.skip)) | ((with_reducible apply AW.condT); exact rfl; (focus ((simp only [decide_eq_true_eq, decide_eq_false_iff_not, Bool.not_eq_true', Bool.not_eq_false', Bool.not_true, Bool.not_false]; first | assumption | omega))))))
          ((with_reducible apply Step.subU); exact rfl; exact rfl; (focus (omega)); exact rfl)
          rw [e8]
          (repeat ((with_reducible refine AWo.cons ?_)))
          ((with_reducible apply Step.u8I); exact rfl; exact un5'; exact un3; (focus (omega)); exact rfl)
          (repeat (first | (with_reducible refine AWo.cons ?_) | ((with_reducible refine Step.id ?_); first | ((with_reducible apply Step.move); exact rfl; exact rfl) | ((with_reducible apply Step.assign); exact rfl; exact rfl) | ((with_reducible apply Step.addE); exact rfl; exact rfl; (focus (assumption)); (focus (omega)); exact rfl) | ((with_reducible apply Step.add); exact rfl; exact rfl; (focus (omega)); exact rfl)) | (with_reducible refine AWo.nil ?_) | ((with_reducible apply Then.n)) | ((with_reducible apply AW.regL)) | ((with_reducible apply InBlk.n))))
          exact ⟨_, _, by omega, (by repeat (first | exact trivial | (refine And.intro rfl ?_))), x + 1, 10 * n + (k - 48), r, ru, rfl, by omega, by omega, hp', hrr, hux, rfl⟩
        · cases hux
      · rename_i hdig
        split at hux
        · rename_i hlet
          split at hux
          · rename_i hn48
            have emax : max (n : Int) 1 = ((max n 1 : Nat) : Int) := by omega
            have hr2 := unS_len _ _ _ _ hux
            simp only [List.length_append, List.length_replicate] at hr2
            have eb : (48 : Int) + (c.toNat : Nat) - 97 = (((48 + c - 97 : UInt8).toNat : Nat) : Int) := by
              have e : (48 + c - 97 : UInt8).toNat = c.toNat - 49 := by
                rw [UInt8.toNat_sub, UInt8.toNat_add]
                have e1 : (97 : UInt8).toNat = 97 := rfl
                have e2 : (48 : UInt8).toNat = 48 := rfl
                rw [e1, e2]
                omega
              rw [e]
              omega
            generalize (48 + c - 97 : UInt8) = b at *
            generalize c.toNat = k at *
            have hmx : max n 1 ≤ 48 := by omega
            generalize max n 1 = cnt at *
            (repeat (first | (with_reducible refine AWo.cons ?_) | ((with_reducible refine Step.id ?_); first | ((with_reducible apply Step.gdT); exact rfl; exact rfl; (focus ((simp only [decide_eq_true_eq, decide_eq_false_iff_not, Bool.not_eq_true', Bool.not_eq_false', Bool.not_true, Bool.not_false]; first | assumption | omega)))) | ((with_reducible apply Step.gdF); exact rfl; exact rfl; (focus ((simp only [decide_eq_true_eq, decide_eq_false_iff_not, Bool.not_eq_true', Bool.not_eq_false', Bool.not_true, Bool.not_false]; first | assumption | omega)))) | ((with_reducible apply Step.move); exact rfl; exact rfl) | ((with_reducible apply Step.assign); exact rfl; exact rfl) | ((with_reducible apply Step.load); exact rfl; (focus (decide +kernel)); exact rfl; (focus (assumption))) | ((with_reducible apply Step.ix1z); exact rfl; (focus (exact Sl.mk (by omega))); exact rfl; (focus (decide +kernel)); exact rfl; (focus (omega))) | ((with_reducible apply Step.lss); exact rfl; exact rfl; exact rfl) | ((with_reducible apply Step.leq); exact rfl; exact rfl; exact rfl) | ((with_reducible apply Step.geq); exact rfl; exact rfl; exact rfl) | ((with_reducible apply Step.max); exact rfl; exact rfl; exact rfl) | ((with_reducible apply Step.pickT); exact rfl; exact rfl; exact rfl; exact rfl; (focus ((simp only [decide_eq_true_eq, decide_eq_false_iff_not, Bool.not_eq_true', Bool.not_eq_false', Bool.not_true, Bool.not_false]; first | assumption | omega)))) | ((with_reducible apply Step.pickF); exact rfl; exact rfl; exact rfl; exact rfl; (focus ((simp only [decide_eq_true_eq, decide_eq_false_iff_not, Bool.not_eq_true', Bool.not_eq_false', Bool.not_true, Bool.not_false]; first | assumption | omega))))) | (with_reducible refine AWo.nil ?_) | ((with_reducible apply AW.seq)) | ((with_reducible apply Then.n)) | ((with_reducible apply AW.regL)) | ((with_reducible apply AW.block)) | ((with_reducible apply AW.skip)) | ((with_reducible apply AW.condT); exact rfl; (focus ((simp only [decide_eq_true_eq, decide_eq_false_iff_not, Bool.not_eq_true', Bool.not_eq_false', Bool.not_true, Bool.not_false]; first | assumption | omega)))) | ((with_reducible apply AW.condF); exact rfl; (focus (rfl)))))
            rw [emax]
            refine AW.loopW (fun nn t M'' => ∃ (j : Nat) (ru : Value), nn = cnt - j ∧ j ≤ cnt ∧ (∃ N, M'' = (M ++ [some { cells := by8 s.data.toList, kind := .str, size := 1 }]) ++ N) ∧ Row M'' (M.length + 1) 1 ru (by8 (r ++ List.replicate j b)) (r.length + j) ∧
              t = fr [(0, .string TX), (4, u), (7, ru), (10, .int .u8 (k : Nat)), (17, .slice (some ⟨m.length, 0, none⟩) B.length B.length), (18, .int .i64 (B.length : Nat)), (19, .int .i64 (y : Nat)), (24, .slice (some ⟨M.length, 0, none⟩) s.size s.size), (25, .int .i64 (s.size : Nat)), (26, .int .i64 (x : Nat)), (59, .int .i64 (cnt : Nat)), (60, .int .i64 (j : Nat))])
              ⟨_, _, (by repeat (first | exact trivial | (refine And.intro rfl ?_))), 0, _, rfl, Nat.zero_le _, hp', by simpa using hrr, rfl⟩ ?_
            rintro nn t M'' ⟨j, ru', rfl, hj, hp'', hrr'', rfl⟩
            have hM''l : M.length + 1 ≤ M''.length := by obtain ⟨N, e⟩ := hp''; rw [e]; simp <;> omega
            rcases Nat.lt_or_ge j cnt with hjl | hjg
            · refine AW.rebase ?_
              (repeat (first | (with_reducible refine AWo.cons ?_) | ((with_reducible refine Step.id ?_); first | ((with_reducible apply Step.move); exact rfl; exact rfl) | ((with_reducible apply Step.lss); exact rfl; exact rfl; exact rfl)) | (with_reducible refine AWo.nil ?_) | ((with_reducible apply AW.seq)) | ((with_reducible apply Then.n)) | ((with_reducible apply AW.regL)) | ((with_reducible apply AW.block)) | ((with_reducible apply AW.skip)) | ((with_reducible apply AW.condT); exact rfl; (focus ((simp only [decide_eq_true_eq, decide_eq_false_iff_not, Bool.not_eq_true', Bool.not_eq_false', Bool.not_true, Bool.not_false]; first | assumption | omega))))))
              ((with_reducible apply Step.addU); exact rfl; exact rfl; (focus (omega)); exact rfl)
              (repeat ((with_reducible refine AWo.cons ?_)))
              ((with_reducible apply Step.subU); exact rfl; exact rfl; (focus (omega)); exact rfl)
              rw [eb]
              (repeat (first | (with_reducible refine AWo.cons ?_) | ((with_reducible refine Step.id ?_); ((with_reducible apply Step.buildS 0); exact rfl; exact rfl; exact (fun _ _ => bs96); exact rfl; (focus (first | (simp only [List.nil_append, List.cons_append, List.set_cons_zero, List.set_cons_succ, iv_set, bv_set, iv_rep, bv_rep]; done) | (simp only [List.nil_append, List.cons_append, List.set_cons_zero, List.set_cons_succ, iv_set, bv_set, iv_rep, bv_rep]; rfl) | rfl))))))
              ((with_reducible apply Step.appRow (n := r.length + j) (xl := 1) (b0 := M.length + 1) (new := [.int .u8 (b.toNat : Nat)])); exact rfl; exact rfl; exact (hrr''.old _); exact (Sl.mk (Nat.le_refl _)); exact (fun _ => RdL.new rfl rfl); exact el96; exact un96'; exact rfl; exact rfl; exact rfl; (focus (omega)); exact rfl; (focus (rw [List.length_append]; omega)))
              intro u' Ma hr hl hk
              have hpa : ∃ N, Ma = (M ++ [some { cells := by8 s.data.toList, kind := .str, size := 1 }]) ++ N := pre_keep (by obtain ⟨N, rfl⟩ := hp''; exact ⟨_, List.append_assoc _ _ _⟩) hl fun j hj => hk j (by rw [List.length_append]; simp at hj; omega) (NotOf.row hrr'' (by simpa using hj))
              (repeat (first | (with_reducible refine AWo.cons ?_) | ((with_reducible refine Step.id ?_); first | ((with_reducible apply Step.move); exact rfl; exact rfl) | ((with_reducible apply Step.assign); exact rfl; exact rfl) | ((with_reducible apply Step.add); exact rfl; exact rfl; (focus (omega)); exact rfl)) | (with_reducible refine AWo.nil ?_) | ((with_reducible apply Then.n)) | ((with_reducible apply AW.regL)) | ((with_reducible apply InBlk.n))))
              refine ⟨_, _, by omega, (by repeat (first | exact trivial | (refine And.intro rfl ?_))), j + 1, u', rfl, by omega, hpa, ?_, rfl⟩
              have e : by8 (r ++ List.replicate (j + 1) b) = by8 (r ++ List.replicate j b) ++ [.int .u8 (b.toNat : Nat)] := by
                rw [List.replicate_succ', ← List.append_assoc, by8_app]
                rfl
              rw [e, show r.length + (j + 1) = r.length + j + 1 by omega]
              exact hr
            · obtain rfl : j = cnt := by omega
              (repeat (first | (with_reducible refine AWo.cons ?_) | ((with_reducible refine Step.id ?_); first | ((with_reducible apply Step.move); exact rfl; exact rfl) | ((with_reducible apply Step.assign); exact rfl; exact rfl) | ((with_reducible apply Step.add); exact rfl; exact rfl; (focus (omega)); exact rfl) | ((with_reducible apply Step.lss); exact rfl; exact rfl; exact rfl)) | (with_reducible refine AWo.nil ?_) | ((with_reducible apply AW.seq)) | ((with_reducible apply Then.n)) | ((with_reducible apply AW.regL)) | ((with_reducible apply AW.exit)) | ((with_reducible apply InBlk.n)) | ((with_reducible apply InBlk.hit)) | ((with_reducible apply Then.e)) | ((with_reducible apply AW.condF); exact rfl; (focus ((simp only [decide_eq_true_eq, decide_eq_false_iff_not, Bool.not_eq_true', Bool.not_eq_false', Bool.not_true, Bool.not_false]; first | assumption | omega))))))
              exact ⟨_, _, by omega, (by repeat (first | exact trivial | (refine And.intro rfl ?_))), x + 1, 0, r ++ List.replicate j b, ru', rfl, by omega, by omega, hp'', by rw [List.length_append, List.length_replicate]; exact hrr'', hux, rfl⟩
          · cases hux
        · cases hux
    · obtain rfl : x = s.size := by omega
      rw [List.drop_of_length_le (by omega)] at hux
      simp only [unS, Option.some.injEq, Prod.mk.injEq] at hux
      obtain ⟨rfl, rfl⟩ := hux
      obtain ⟨a, sla, hal, hrd⟩ := Row.sl hrr (by omega)
      have hrd := hrd (by omega)
      have hrow' : Row M' (m.length + 1) 1 u (sv (B.take y)) y := by obtain ⟨N, rfl⟩ := hp'; exact (hrow.old _).old _
      refine AW.rebase ?_
      (repeat (first | (with_reducible refine AWo.cons ?_) | ((with_reducible refine Step.id ?_); first | ((with_reducible apply Step.move); exact rfl; exact rfl) | ((with_reducible apply Step.lss); exact rfl; exact rfl; exact rfl)) | (with_reducible refine AWo.nil ?_) | ((with_reducible apply AW.seq)) | ((with_reducible apply Then.n)) | ((with_reducible apply AW.regL)) | ((with_reducible apply AW.exit)) | ((with_reducible apply InBlk.hit)) | ((with_reducible apply Then.e)) | ((with_reducible apply AW.condF); exact rfl; (focus ((simp only [decide_eq_true_eq, decide_eq_false_iff_not, Bool.not_eq_true', Bool.not_eq_false', Bool.not_true, Bool.not_false]; first | assumption | omega))))))
      ((with_reducible apply Step.toStr); exact rfl; exact sla; exact rfl; exact (hrd.old _); exact un96'; exact un5'; exact un9; exact rfl)
      rw [hmk]
      (repeat (first | (with_reducible refine AWo.cons ?_) | ((with_reducible refine Step.id ?_); ((with_reducible apply Step.buildS 0); exact rfl; exact rfl; exact (fun _ _ => bs22); exact rfl; (focus (first | (simp only [List.nil_append, List.cons_append, List.set_cons_zero, List.set_cons_succ, iv_set, bv_set, iv_rep, bv_rep]; done) | (simp only [List.nil_append, List.cons_append, List.set_cons_zero, List.set_cons_succ, iv_set, bv_set, iv_rep, bv_rep]; rfl) | rfl))))))
      ((with_reducible apply Step.appRow (n := y) (xl := 1) (b0 := m.length + 1) (new := [.string rowy])); exact rfl; exact rfl; exact (hrow'.old _); exact (Sl.mk (Nat.le_refl _)); exact (fun _ => RdL.new rfl rfl); exact el22; exact un22; exact rfl; exact rfl; exact rfl; (focus (omega)); exact rfl; (focus (rw [List.length_append]; omega)))
      intro u' Ma hr hl hk
      have hpa : ∃ N, Ma = (m ++ [some { cells := sv (B.map packS) }]) ++ N := pre_keep (by obtain ⟨N, rfl⟩ := hp; obtain ⟨N', rfl⟩ := hp'; exact ⟨_, by rw [List.append_assoc, List.append_assoc, List.append_assoc]⟩) hl fun j hj => hk j (by rw [List.length_append]; simp at hj; omega) (NotOf.row hrow' (by simpa using hj))
      (repeat (first | (with_reducible refine AWo.cons ?_) | ((with_reducible refine Step.id ?_); first | ((with_reducible apply Step.move); exact rfl; exact rfl) | ((with_reducible apply Step.assign); exact rfl; exact rfl) | ((with_reducible apply Step.add); exact rfl; exact rfl; (focus (omega)); exact rfl)) | (with_reducible refine AWo.nil ?_) | ((with_reducible apply Then.n)) | ((with_reducible apply AW.regL)) | ((with_reducible apply InBlk.n))))
      exact ⟨_, _, by omega, (by repeat (first | exact trivial | (refine And.intro rfl ?_))), y + 1, u', rfl, by omega, hpa, by rw [etk]; unfold sv; rw [List.map_append]; exact hr, rfl⟩
  · obtain rfl : y = B.length := by omega
    rw [List.take_of_length_le (Nat.le_refl _)] at hrow
    have hst := row_strs hrow rfl (by omega)
    have hpk2 := fun T => hpk _ u (hst.old T)
    refine AW.rebase ?_
    (repeat (first | (with_reducible refine AWo.cons ?_) | ((with_reducible refine Step.id ?_); first | ((with_reducible apply Step.gdT); exact rfl; exact rfl; (focus (rfl))) | ((with_reducible apply Step.move); exact rfl; exact rfl) | ((with_reducible apply Step.assign); exact rfl; exact rfl) | ((with_reducible apply Step.neqS); exact rfl; exact rfl; exact un9; exact rfl) | ((with_reducible apply Step.lss); exact rfl; exact rfl; exact rfl) | ((with_reducible apply Step.neq); exact rfl; exact rfl; exact rfl) | ((with_reducible apply Step.extract); exact rfl; exact rfl; exact rfl) | ((with_reducible apply Step.pickF); exact rfl; exact rfl; exact rfl; exact rfl; (focus (rfl))) | ((with_reducible apply Step.callR fit); exact rfl; exact Tryd.func17; exact rfl; exact rfl; exact (hpk2 _))) | (with_reducible refine AWo.nil ?_) | ((with_reducible apply AW.seq)) | ((with_reducible apply Then.n)) | ((with_reducible apply AW.regL)) | ((with_reducible apply AW.exit)) | ((with_reducible apply InBlk.hit)) | ((with_reducible apply Then.e)) | ((with_reducible apply AW.skip)) | ((with_reducible apply AW.condF); exact rfl; (focus (first | (simp only [decide_eq_true_eq, decide_eq_false_iff_not, Bool.not_eq_true', Bool.not_eq_false', Bool.not_true, Bool.not_false]; first | assumption | omega) | (simp; done))))))
    (refine AW.ret ?_; (repeat (first | refine Then.r ?_ | refine InBlk.r ?_)))
    obtain ⟨N, hN⟩ := hp
    exact ⟨_, rfl, some { cells := sv (B.map packS) } :: N, by rw [hN]; simp, u, rfl, hst.old _⟩
end Go.Proofs.YtedbjmgchfgabaaDoor.Abs
namespace Go.Proofs.YtedbjmgchfgabaaDoor.Abs
set_option linter.unusedSimpArgs false
set_option linter.unusedVariables false
open Go.RowKit
open Go.Proofs.YtedbjmgchfgabaaDoor.Sim
open Go.Proofs
/-- How many of the bytes have a grade of 1 to i. -/
def usS (l : List UInt8) : Nat → Int
  | 0 => 0
  | i + 1 => usS l i + (hist l).getD (i + 1) 0
theorem usS_eq (l : List UInt8) : ∀ i, i ≤ 9 → usS l i = ((l.countP (fun b => decide (49 ≤ b.toNat ∧ b.toNat ≤ 48 + i)) : Nat) : Int)
  | 0, _ => by
    have : l.countP (fun b => decide (49 ≤ b.toNat ∧ b.toNat ≤ 48 + 0)) = 0 := List.countP_eq_zero.2 fun b _ => by simp; omega
    rw [this]
    rfl
  | i + 1, h => by
    simp only [usS]
    rw [usS_eq l i (by omega), hist_get l (by omega)]
    have key : ∀ l : List UInt8, l.countP (fun b => decide (49 ≤ b.toNat ∧ b.toNat ≤ 48 + (i + 1))) = l.countP (fun b => decide (49 ≤ b.toNat ∧ b.toNat ≤ 48 + i)) + l.countP (fun b => decide (b.toNat = 48 + (i + 1))) := by
      intro l
      induction l with
      | nil => rfl
      | cons b l ih =>
        simp only [List.countP_cons, ih]
        by_cases h1 : b.toNat = 48 + (i + 1)
        · rw [if_pos (by simp; omega), if_neg (by simp; omega), if_pos (by simpa using h1)]
          omega
        · by_cases h2 : 49 ≤ b.toNat ∧ b.toNat ≤ 48 + i
          · rw [if_pos (by simp; omega), if_pos (by simpa using h2), if_neg (by simpa using h1)]
            omega
          · rw [if_neg (by simp; omega), if_neg (by simpa using h2), if_neg (by simpa using h1)]
            omega
    rw [key l]
    omega
theorem rowc_count {B : Brd} {y : Nat} (hy : ∀ b ∈ (rowOf B y).data.toList, 48 ≤ b.toNat ∧ b.toNat ≤ 57) : ∀ k, k ≤ (rowOf B y).size → rowc B 1 y 0 k = ((rowOf B y).data.toList.take k).countP (fun b => decide (49 ≤ b.toNat ∧ b.toNat ≤ 48 + 9))
  | 0, _ => by simp [rowc]
  | k + 1, h => by
    have hsz : (rowOf B y).data.toList.length = (rowOf B y).size := Array.length_toList
    have ih := rowc_count hy k (by omega)
    have hk : k < (rowOf B y).data.toList.length := by omega
    have e : byteAt (rowOf B y) k = ((rowOf B y).data.toList[k]).toNat := by unfold byteAt; rw [getElem?_pos _ k (by omega)]; rfl
    have hb := hy _ (List.getElem_mem hk)
    rw [List.take_succ_eq_append_getElem hk, List.countP_append, List.countP_singleton, ← ih]
    simp only [rowc, gr, Nat.zero_add, e]
    generalize (rowOf B y).data.toList[k] = b at *
    by_cases h1 : 49 ≤ b.toNat
    · rw [if_pos (by omega), if_pos (by simp; omega)]
    · rw [if_neg (by omega), if_neg (by simp; omega)]
theorem cells_eq {B : Brd} (hv : skinB B = true) : ∀ y, y ≤ B.length → cnt B 1 0 0 (bw B) y = (bytesT B y).countP (fun b => decide (49 ≤ b.toNat ∧ b.toNat ≤ 48 + 9))
  | 0, _ => by unfold bytesT; simp [cnt]
  | y + 1, h => by
    have h1 := skinRow hv (show y < bh B from h)
    have hsz : (rowOf B y).data.toList.length = (rowOf B y).size := Array.length_toList
    have hb : ∀ b ∈ (rowOf B y).data.toList, 48 ≤ b.toNat ∧ b.toNat ≤ 57 := fun b hb => by
      obtain ⟨j, hj, rfl⟩ := List.getElem_of_mem hb
      have h2 := h1.2 j (by rw [← h1.1, ← hsz]; exact hj)
      have e : byteAt (rowOf B y) j = ((rowOf B y).data.toList[j]).toNat := by unfold byteAt; rw [getElem?_pos _ j (by rw [← hsz]; exact hj)]; rfl
      rw [e] at h2
      exact h2
    rw [bytesT_succ B (by omega), List.countP_append, ← cells_eq hv y (by omega)]
    simp only [cnt, Nat.zero_add]
    have := rowc_count hb (bw B) (by rw [h1.1]; exact Nat.le_refl _)
    rw [this, ← h1.1, ← hsz, List.take_length]
/-- No one of the first j kinds has more worth a cell than x. -/
def dB (K : List Kd) (x : Kd) : Nat → Bool
  | 0 => true
  | j + 1 => dB K x j && decide ((K.getD j default).worth * x.w * x.h ≤ x.worth * (K.getD j default).w * (K.getD j default).h)
theorem dB_all {K : List Kd} {x : Kd} : ∀ j, dB K x j = true → ∀ i, i < j → (K.getD i default).worth * x.w * x.h ≤ x.worth * (K.getD i default).w * (K.getD i default).h
  | 0, _, i, hi => by omega
  | j + 1, h, i, hi => by
    simp only [dB, Bool.and_eq_true, decide_eq_true_eq] at h
    rcases Nat.lt_succ_iff_lt_or_eq.1 hi with h1 | rfl
    · exact dB_all j h.1 i h1
    · exact h.2
theorem un59 : Tryd.prog.underlying 59 = some (.slice 3) := by kernel_rfl
set_option maxHeartbeats 16000000 in
set_option maxRecDepth 100000 in
theorem TopCertified_ok {m : AM} {sv0 kv : Value} {B : Brd} {K : List Kd} (hs : Strs m sv0 B) (hk : Kds m kv K) (hkl : K.length ≤ 9223372036854775807) :
    ACall Tryd.prog 5 #[sv0, kv] m (Ret (.bool true) m) := by
  have haw : ∀ M, ACall Tryd.prog 10 #[] M (Ret (.bool true) M) := fun M => awake_ok
  have hG := fun T => RGood_ok (hs.old T) (hk.old T)
  have O0 := fun T => of_ok (hk.old T) hkl
  cases hg : goodB B K with
  | false =>
    have hg' : goodB B (K.take 14) = false := by rw [good_take]; exact hg
    rw [hg] at hG
    refine ACall.start Tryd.func5 rfl rfl ?_
    (repeat (first | (with_reducible refine AWo.cons ?_) | ((with_reducible refine Step.id ?_); first | ((with_reducible apply Step.gdT); exact rfl; exact rfl; (focus (rfl))) | ((with_reducible apply Step.move); exact rfl; exact rfl) | ((with_reducible apply Step.assign); exact rfl; exact rfl) | ((with_reducible apply Step.eql); exact rfl; exact rfl; exact rfl) | ((with_reducible apply Step.not); exact rfl; exact rfl) | ((with_reducible apply Step.extract); exact rfl; exact rfl; exact rfl) | ((with_reducible apply Step.pickT); exact rfl; exact rfl; exact rfl; exact rfl; (focus (rfl))) | ((with_reducible apply Step.callR fit); exact rfl; exact Tryd.func8; exact rfl; exact rfl; exact (hG _)) | ((with_reducible apply Step.callG fit (k := 0)); exact rfl; exact rfl; exact Tryd.func13; exact rfl; exact rfl; exact (O0 _); (focus (first | (simp only [List.nil_append, List.cons_append, List.set_cons_zero, List.set_cons_succ, iv_set, bv_set, iv_rep, bv_rep]; done) | (simp only [List.nil_append, List.cons_append, List.set_cons_zero, List.set_cons_succ, iv_set, bv_set, iv_rep, bv_rep]; rfl) | rfl))) | ((with_reducible apply Step.callR fit); exact rfl; exact Tryd.func12; exact rfl; exact rfl; exact (Best_no (hs.old _) (kds_at (l := K.take 14) rfl) hg')) | ((with_reducible apply Step.callR fit); exact rfl; exact Tryd.func10; exact rfl; exact rfl; exact (haw _))) | (with_reducible refine AWo.nil ?_) | ((with_reducible apply AW.seq)) | ((with_reducible apply Then.n)) | ((with_reducible apply AW.regL)) | ((with_reducible apply AW.condT); exact rfl; (focus (rfl)))))
    (refine AW.retD (l := [(4, _)]) (by repeat (first | exact trivial | (refine And.intro ⟨rfl, by (exact .bool _)⟩ ?_))) ?_; (repeat (first | refine Then.r ?_ | refine InBlk.r ?_)))
    exact ⟨_, rfl, rfl, rfl⟩
  | true =>
    have et := good_len hg
    rw [et] at O0
    rw [hg] at hG
    have hgb : boardB B = true := by simp only [goodB, Bool.and_eq_true] at hg; exact hg.1
    have hKb : kindsB K = true := by simp only [goodB, Bool.and_eq_true] at hg; exact hg.2
    have hv : skinB B = true := by simp only [boardB, Bool.and_eq_true] at hgb; exact hgb.1
    have hin := good_in hgb
    have hB16 : B.length ≤ 16 := hin.2.1
    have hk12 : K.length ≤ 12 := by simp only [kindsB, Bool.and_eq_true, decide_eq_true_eq] at hKb; exact hKb.1
    have hok : (wholeR B).ok (bw B) (bh B) := by
      simp only [R4.ok, wholeR]
      omega
    have hbm : 0 ≤ bestM B K ∧ bestM B K ≤ 256000000 := by rw [best_V hg]; exact V_in hg hok
    have hpk := fun T => Pack_ok (hs.old T) hv
    have hup := fun M => Unpack_ok (m := M) hv
    have hbt := bytesT_len hv B.length (Nat.le_refl _)
    have hus := usS_eq (bytesT B B.length) 9 (Nat.le_refl _)
    rw [← cells_eq hv B.length (Nat.le_refl _)] at hus
    have husl : ∀ i, i ≤ 9 → 0 ≤ usS (bytesT B B.length) i ∧ usS (bytesT B B.length) i ≤ 48 * B.length := fun i hi => by
      have h1 := List.countP_le_length (p := fun b : UInt8 => decide (49 ≤ b.toNat ∧ b.toNat ≤ 48 + i)) (l := bytesT B B.length)
      rw [usS_eq _ _ hi]
      omega
    have hdear : ∀ i, i < K.length → dB K (K.getD i default) K.length = true → ¬ (usS (bytesT B B.length) 9 * (K.getD i default).worth < bestM B K * (K.getD i default).w * (K.getD i default).h) := fun i hi hd h => by
      have hx := kinds_get hKb hi
      have := dearest_bound hg hx (fun y hy => by
        obtain ⟨j, hj, rfl⟩ := List.getElem_of_mem hy
        have := dB_all _ hd j hj
        rwa [getD_in _ _ hj] at this)
      rw [hus, Int.mul_assoc, Int.mul_comm] at h
      have e : bh B = B.length := rfl
      rw [e] at this
      omega
    have hkx : ∀ i, i < K.length → kdB (K.getD i default) = true := fun i hi => kinds_get hKb hi
    generalize joinB (B.map packS) ⟨#[47]⟩ = TX at *
    obtain ⟨l, rl, rw1, rpw⟩ := rdg_plan hg
    have hlen2 : (planM B K).length ≤ 1000000 := by have := planM_le hg; omega
    have tb := table_bound hg
    have t64 := table_I64 hg
    have tl : (boardT B K).length = total (bw B) (bh B) := (bestT_ok hin.2.2.2 hin.2.1).len
    have S0 : ∀ M, (∃ N, M = m ++ N) → Strs M sv0 B := fun M ⟨N, e⟩ => by rw [e]; exact hs.old _
    have K0 : ∀ M, (∃ N, M = m ++ N) → Kds M kv K := fun M ⟨N, e⟩ => by rw [e]; exact hk.old _
    have O := fun M h T => of_ok ((K0 M h).old T) hkl
    rw [et] at O
    refine ACall.drop (.bool _) ?_
    refine ACall.start Tryd.func5 rfl rfl ?_
    (repeat (first | (with_reducible refine AWo.cons ?_) | ((with_reducible refine Step.id ?_); first | ((with_reducible apply Step.move); exact rfl; exact rfl) | ((with_reducible apply Step.assign); exact rfl; exact rfl) | ((with_reducible apply Step.not); exact rfl; exact rfl) | ((with_reducible apply Step.extract); exact rfl; exact rfl; exact rfl) | ((with_reducible apply Step.callR fit); exact rfl; exact Tryd.func8; exact rfl; exact rfl; exact (hG _)) | ((with_reducible apply Step.callR fit); exact rfl; exact Tryd.func17; exact rfl; exact rfl; exact (hpk _))) | (with_reducible refine AWo.nil ?_) | ((with_reducible apply AW.seq)) | ((with_reducible apply Then.n)) | ((with_reducible apply AW.regL)) | ((with_reducible apply AW.skip)) | ((with_reducible apply AW.condF); exact rfl; (focus (rfl)))))
    ((with_reducible apply Step.callX fit); exact rfl; exact Tryd.func18; exact rfl; exact rfl; exact (hup _))
    rintro _ M1 ⟨N1, hN1⟩ ⟨u, rfl, hu⟩
    have hm1 : ∃ N, M1 = m ++ N := ⟨_, by rw [hN1, List.append_assoc]⟩
    clear hN1 hup hpk hG O0
    (repeat (first | (with_reducible refine AWo.cons ?_) | ((with_reducible refine Step.id ?_); first | ((with_reducible apply Step.gdT); exact rfl; exact rfl; (focus (rfl))) | ((with_reducible apply Step.move); exact rfl; exact rfl) | ((with_reducible apply Step.assign); exact rfl; exact rfl) | ((with_reducible apply Step.neq); exact rfl; exact rfl; exact rfl) | ((with_reducible apply Step.extract); exact rfl; exact rfl; exact rfl) | ((with_reducible apply Step.pickF); exact rfl; exact rfl; exact rfl; exact rfl; (focus (rfl))) | ((with_reducible apply Step.callG fit (k := 0)); exact rfl; exact rfl; exact Tryd.func13; exact rfl; exact rfl; exact (O M1 hm1 _); (focus (first | (simp only [List.nil_append, List.cons_append, List.set_cons_zero, List.set_cons_succ, iv_set, bv_set, iv_rep, bv_rep]; done) | (simp only [List.nil_append, List.cons_append, List.set_cons_zero, List.set_cons_succ, iv_set, bv_set, iv_rep, bv_rep]; rfl) | rfl))) | ((with_reducible apply Step.callG fit (k := 1)); exact rfl; exact rfl; exact Tryd.func13; exact rfl; exact rfl; exact (O M1 hm1 _); (focus (first | (simp only [List.nil_append, List.cons_append, List.set_cons_zero, List.set_cons_succ, iv_set, bv_set, iv_rep, bv_rep]; done) | (simp only [List.nil_append, List.cons_append, List.set_cons_zero, List.set_cons_succ, iv_set, bv_set, iv_rep, bv_rep]; rfl) | rfl))) | ((with_reducible apply Step.callR fit); exact rfl; exact Tryd.func12; exact rfl; exact rfl; exact (Best_ok (hu.old _) (kds_at (l := K) rfl) hg))) | (with_reducible refine AWo.nil ?_) | ((with_reducible apply AW.seq)) | ((with_reducible apply Then.n)) | ((with_reducible apply AW.regL)) | ((with_reducible apply AW.skip)) | ((with_reducible apply AW.condF); exact rfl; (focus (rfl)))))
    ((with_reducible apply Step.callX fit); exact rfl; exact Tryd.func19; exact rfl; exact rfl; exact (Plan_ok (hu.old _) (kds_at (k := 1) (l := K) rfl) hg))
    rintro _ M2 ⟨N2, hN2⟩ ⟨pw, rfl, hpw⟩
    have hm2 : ∃ N, M2 = m ++ N := by obtain ⟨N, e⟩ := hm1; exact ⟨_, by rw [hN2, e, List.append_assoc, List.append_assoc]⟩
    have hu2 : Strs M2 u B := by rw [hN2]; exact (hu.old _).old _
    have np := Nds.of_pl hpw
    obtain ⟨A9, O9, sl9, la9, _⟩ := id np
    obtain ⟨q9, c9, rfl⟩ := sl9.shape
    clear hN2 hpw
    have R1 := fun T => Read_ok (m := M2 ++ (gb (kvc K) 5 :: T)) (ps := planM B K) (hu2.old _) (kds_at (k := 0) (l := K) rfl) (PN.of_nds (np.old _)) hlen2
    rw [rl] at R1
    simp only [rw1] at R1
    (repeat (first | (with_reducible refine AWo.cons ?_) | ((with_reducible refine Step.id ?_); first | ((with_reducible apply Step.move); exact rfl; exact rfl) | ((with_reducible apply Step.assign); exact rfl; exact rfl) | ((with_reducible apply Step.extract); exact rfl; exact rfl; exact rfl) | ((with_reducible apply Step.callG fit (k := 0)); exact rfl; exact rfl; exact Tryd.func13; exact rfl; exact rfl; exact (O M2 hm2 _); (focus (first | (simp only [List.nil_append, List.cons_append, List.set_cons_zero, List.set_cons_succ, iv_set, bv_set, iv_rep, bv_rep]; done) | (simp only [List.nil_append, List.cons_append, List.set_cons_zero, List.set_cons_succ, iv_set, bv_set, iv_rep, bv_rep]; rfl) | rfl)))) | (with_reducible refine AWo.nil ?_) | ((with_reducible apply AW.seq)) | ((with_reducible apply Then.n)) | ((with_reducible apply AW.regL))))
    ((with_reducible apply Step.callX fit); exact rfl; exact Tryd.func20; exact rfl; exact rfl; exact (R1 _))
    rintro _ M3 ⟨N3, hN3⟩ ⟨u3, rfl, _⟩
    have hm3 : ∃ N, M3 = m ++ N := by obtain ⟨N, e⟩ := hm2; exact ⟨_, by rw [hN3, e, List.append_assoc, List.append_assoc]⟩
    have hu3 : Strs M3 u B := by rw [hN3]; exact (hu2.old _).old _
    clear hN3 R1 np sl9 la9
    (repeat (first | (with_reducible refine AWo.cons ?_) | ((with_reducible refine Step.id ?_); first | ((with_reducible apply Step.move); exact rfl; exact rfl) | ((with_reducible apply Step.assign); exact rfl; exact rfl) | ((with_reducible apply Step.extract); exact rfl; exact rfl; exact rfl) | ((with_reducible apply Step.callG fit (k := 0)); exact rfl; exact rfl; exact Tryd.func13; exact rfl; exact rfl; exact (O M3 hm3 _); (focus (first | (simp only [List.nil_append, List.cons_append, List.set_cons_zero, List.set_cons_succ, iv_set, bv_set, iv_rep, bv_rep]; done) | (simp only [List.nil_append, List.cons_append, List.set_cons_zero, List.set_cons_succ, iv_set, bv_set, iv_rep, bv_rep]; rfl) | rfl)))) | (with_reducible refine AWo.nil ?_) | ((with_reducible apply AW.seq)) | ((with_reducible apply Then.n)) | ((with_reducible apply AW.regL))))
    ((with_reducible apply Step.callX fit); exact rfl; exact Tryd.func21; exact rfl; exact rfl; exact (Prove_ok (hu3.old _) (kds_at (k := 0) (l := K) rfl) hg))
    rintro _ M4 ⟨N4, hN4⟩ ⟨q4, rfl, hq4⟩
    have hm4 : ∃ N, M4 = m ++ N := by obtain ⟨N, e⟩ := hm3; exact ⟨_, by rw [hN4, e, List.append_assoc, List.append_assoc]⟩
    have hu4 : Strs M4 u B := by rw [hN4]; exact (hu3.old _).old _
    clear hN4 hu3
    have C1 := fun T => Check_ok (m := M4 ++ (gb (kvc K) 5 :: T)) (t := boardT B K) (tv := .slice (some ⟨q4, 0, none⟩) (total (bw B) (bh B)) (total (bw B) (bh B))) (hu4.old _) (kds_at (k := 0) (l := K) rfl)
      ⟨q4, 0, by rw [tl]; exact Sl.mk (Nat.le_refl _), by have := (List.getElem?_eq_some_iff.1 hq4).1; rw [List.length_append]; omega, fun k hk => Rd.old _ ⟨_, hq4, by rw [Nat.zero_add]; exact iv_get hk⟩⟩ t64
    rw [tb] at C1
    have G1 := fun T => Grades_ok (hu4.old T) hv
    (repeat (first | (with_reducible refine AWo.cons ?_) | ((with_reducible refine Step.id ?_); first | ((with_reducible apply Step.gdT); exact rfl; exact rfl; (focus (first | rfl | (simp; done)))) | ((with_reducible apply Step.move); exact rfl; exact rfl) | ((with_reducible apply Step.assign); exact rfl; exact rfl) | ((with_reducible apply Step.neq); exact rfl; exact rfl; exact rfl) | ((with_reducible apply Step.not); exact rfl; exact rfl) | ((with_reducible apply Step.extract); exact rfl; exact rfl; exact rfl) | ((with_reducible apply Step.pickF); exact rfl; exact rfl; exact rfl; exact rfl; (focus (first | rfl | (simp; done)))) | ((with_reducible apply Step.callG fit (k := 0)); exact rfl; exact rfl; exact Tryd.func13; exact rfl; exact rfl; exact (O M4 hm4 _); (focus (first | (simp only [List.nil_append, List.cons_append, List.set_cons_zero, List.set_cons_succ, iv_set, bv_set, iv_rep, bv_rep]; done) | (simp only [List.nil_append, List.cons_append, List.set_cons_zero, List.set_cons_succ, iv_set, bv_set, iv_rep, bv_rep]; rfl) | rfl))) | ((with_reducible apply Step.callR fit); exact rfl; exact Tryd.func22; exact rfl; exact rfl; exact (C1 _))) | (with_reducible refine AWo.nil ?_) | ((with_reducible apply AW.seq)) | ((with_reducible apply Then.n)) | ((with_reducible apply AW.regL)) | ((with_reducible apply AW.skip)) | ((with_reducible apply AW.condF); exact rfl; (focus ((simp; done))))))
    ((with_reducible apply Step.callX fit); exact rfl; exact Tryd.func23; exact rfl; exact rfl; exact (G1 _))
    rintro _ M5 ⟨N5, hN5⟩ ⟨u5, rfl, hi5⟩
    have hm5 : ∃ N, M5 = m ++ N := by obtain ⟨N, e⟩ := hm4; exact ⟨_, by rw [hN5, e, List.append_assoc, List.append_assoc]⟩
    clear hN5 hu4 hu2 hu C1 G1 hq4
    obtain ⟨A5, O5, sl5, la5, rd5⟩ := hi5
    rw [hist_len] at sl5 rd5
    rcases sl5 with ⟨_, h0⟩ | ⟨c5, hc5, rfl⟩ | ⟨h0, _⟩
    · omega
    · have hk5 := K0 M5 hm5
      obtain ⟨AK, OK, slk, lak, rdk⟩ := id hk5
      obtain ⟨qk, ck, rfl⟩ := slk.shape
      (repeat (first | (with_reducible refine AWo.cons ?_) | ((with_reducible refine Step.id ?_); first | ((with_reducible apply Step.gdT); exact rfl; exact rfl; (focus (rfl))) | ((with_reducible apply Step.move); exact rfl; exact rfl) | ((with_reducible apply Step.assign); exact rfl; exact rfl) | ((with_reducible apply Step.neq); exact rfl; exact rfl; exact rfl) | ((with_reducible apply Step.len); exact rfl; (focus (exact Sl.mk (by omega))); (focus (decide +kernel)); exact rfl) | ((with_reducible apply Step.extract); exact rfl; exact rfl; exact rfl) | ((with_reducible apply Step.pickF); exact rfl; exact rfl; exact rfl; exact rfl; (focus (rfl)))) | (with_reducible refine AWo.nil ?_) | ((with_reducible apply AW.seq)) | ((with_reducible apply Then.n)) | ((with_reducible apply AW.regL)) | ((with_reducible apply AW.skip)) | ((with_reducible apply AW.condF); exact rfl; (focus (rfl)))))
      ((with_reducible apply Step.slFrom (l := 1)); exact rfl; exact rfl; exact rfl; (focus (omega)); (focus (omega)); (focus (omega)); exact un59; exact sz3'; exact rfl)
      (repeat (first | (with_reducible refine AWo.cons ?_) | ((with_reducible refine Step.id ?_); first | ((with_reducible apply Step.move); exact rfl; exact rfl) | ((with_reducible apply Step.len); exact rfl; (focus (exact Sl.mk (by omega))); (focus (decide +kernel)); exact rfl)) | (with_reducible refine AWo.nil ?_) | ((with_reducible apply Then.n)) | ((with_reducible apply AW.block))))
      refine AW.loopW (fun n t M => ∃ i : Nat, n = 9 - i ∧ i ≤ 9 ∧ M = M5 ∧
        t = fr [(1, .slice qk K.length ck), (11, .int .i64 (bestM B K)), (22, .int .i64 (usS (bytesT B B.length) i)), (146, .slice (some ⟨A5, O5 + 1 * 1, none⟩) 9 (c5 - 1)), (147, .int .i64 9), (148, .int .i64 (i : Nat))])
        ⟨_, _, (by repeat (first | exact trivial | (refine And.intro rfl ?_))), 0, rfl, Nat.zero_le _, by rw [List.append_nil], rfl⟩ ?_
      rintro n t M ⟨i, rfl, hi, rfl, rfl⟩
      rcases Nat.lt_or_ge i 9 with hlt | hge
      · have r5 := rd5 (i + 1) (by omega)
        have e5 : O5 + (i + 1) = O5 + 1 * 1 + i := by omega
        rw [e5] at r5
        have h1 := husl i (by omega)
        have h2 := husl (i + 1) (by omega)
        have e6 : usS (bytesT B B.length) (i + 1) = usS (bytesT B B.length) i + (hist (bytesT B B.length)).getD (i + 1) 0 := rfl
        rw [e6] at h2
        refine AW.rebase ?_
        rw [List.append_nil]
        (repeat (first | (with_reducible refine AWo.cons ?_) | ((with_reducible refine Step.id ?_); first | ((with_reducible apply Step.move); exact rfl; exact rfl) | ((with_reducible apply Step.assign); exact rfl; exact rfl) | ((with_reducible apply Step.load); exact rfl; (focus (decide +kernel)); exact rfl; (focus (assumption))) | ((with_reducible apply Step.ix1); exact rfl; (focus (exact Sl.mk (by omega))); exact rfl; (focus (decide +kernel)); exact rfl; (focus (omega))) | ((with_reducible apply Step.add); exact rfl; exact rfl; (focus (omega)); exact rfl) | ((with_reducible apply Step.lss); exact rfl; exact rfl; exact rfl)) | (with_reducible refine AWo.nil ?_) | ((with_reducible apply AW.seq)) | ((with_reducible apply Then.n)) | ((with_reducible apply AW.regL)) | ((with_reducible apply AW.block)) | ((with_reducible apply InBlk.n)) | ((with_reducible apply AW.skip)) | ((with_reducible apply AW.condT); exact rfl; (focus ((simp only [decide_eq_true_eq, decide_eq_false_iff_not, Bool.not_eq_true', Bool.not_eq_false', Bool.not_true, Bool.not_false]; first | assumption | omega))))))
        exact ⟨_, _, by omega, (by repeat (first | exact trivial | (refine And.intro rfl ?_))), i + 1, rfl, by omega, rfl, rfl⟩
      · obtain rfl : i = 9 := by omega
        have h9 := husl 9 (by omega)
        generalize usS (bytesT B B.length) 9 = us at *
        generalize bestM B K = bm at *
        (repeat (first | (with_reducible refine AWo.cons ?_) | ((with_reducible refine Step.id ?_); first | ((with_reducible apply Step.move); exact rfl; exact rfl) | ((with_reducible apply Step.lss); exact rfl; exact rfl; exact rfl) | ((with_reducible apply Step.len); exact rfl; (focus (assumption)); (focus (decide +kernel)); exact rfl)) | (with_reducible refine AWo.nil ?_) | ((with_reducible apply AW.seq)) | ((with_reducible apply Then.n)) | ((with_reducible apply AW.regL)) | ((with_reducible apply AW.block)) | ((with_reducible apply AW.exit)) | ((with_reducible apply InBlk.hit)) | ((with_reducible apply Then.e)) | ((with_reducible apply AW.condF); exact rfl; (focus (rfl)))))
        refine AW.loopW (fun n t M => ∃ i : Nat, n = K.length - i ∧ i ≤ K.length ∧ (∃ N, M = m ++ N) ∧
          t = fr [(1, .slice qk K.length ck), (11, .int .i64 bm), (22, .int .i64 us), (156, .slice qk K.length ck), (157, .int .i64 (K.length : Nat)), (158, .int .i64 (i : Nat))])
          ⟨_, _, (by repeat (first | exact trivial | (refine And.intro rfl ?_))), 0, rfl, Nat.zero_le _, hm5, rfl⟩ ?_
        rintro n t M ⟨i, rfl, hi, hm, rfl⟩
        rcases Nat.lt_or_ge i K.length with hlt | hge
        · obtain ⟨A, O, sl, la, rd⟩ := K0 M hm
          have rk := rd i hlt
          have hx := hdear i hlt
          have hxi := kdB_in (hkx i hlt)
          generalize K.getD i default = x at *
          obtain ⟨xw, xh, xg, xo, xt⟩ := x
          simp only at hxi hx
          simp only [Kd.cells] at rk
          refine AW.rebase ?_
          have hKy := K0 M hm
          have hML : 0 < M.length := by omega
          (repeat (first | (with_reducible refine AWo.cons ?_) | ((with_reducible refine Step.id ?_); first | ((with_reducible apply Step.move); exact rfl; exact rfl) | ((with_reducible apply Step.assign); exact rfl; exact rfl) | ((with_reducible apply Step.loadL (n := 5)); exact rfl; (focus (decide +kernel)); (focus (decide +kernel)); exact rfl; (focus (exact RdL.old _ (by assumption))); exact rfl; exact rfl) | ((with_reducible apply Step.ix (s := 5)); exact rfl; (focus (assumption)); exact rfl; (focus (decide +kernel)); exact rfl; (focus (omega))) | ((with_reducible apply Step.lss); exact rfl; exact rfl; exact rfl) | ((with_reducible apply Step.len); exact rfl; (focus (assumption)); (focus (decide +kernel)); exact rfl) | ((with_reducible apply Step.alloc 0); exact rfl; exact ze33; exact rfl; (focus (first | (simp only [List.nil_append, List.cons_append, List.set_cons_zero, List.set_cons_succ, iv_set, bv_set, iv_rep, bv_rep]; done) | (simp only [List.nil_append, List.cons_append, List.set_cons_zero, List.set_cons_succ, iv_set, bv_set, iv_rep, bv_rep]; rfl) | rfl))) | ((with_reducible apply Step.storeA (k := 0) (n := 5)); exact rfl; exact rfl; exact rfl; exact rfl; (focus (decide +kernel)); exact rfl; (focus (kernel_rfl)); exact rfl; (focus (first | (simp only [List.nil_append, List.cons_append, List.set_cons_zero, List.set_cons_succ, iv_set, bv_set, iv_rep, bv_rep]; done) | (simp only [List.nil_append, List.cons_append, List.set_cons_zero, List.set_cons_succ, iv_set, bv_set, iv_rep, bv_rep]; rfl) | rfl)))) | (with_reducible refine AWo.nil ?_) | ((with_reducible apply AW.seq)) | ((with_reducible apply Then.n)) | ((with_reducible apply AW.regL)) | ((with_reducible apply AW.block)) | ((with_reducible apply AW.skip)) | ((with_reducible apply AW.condT); exact rfl; (focus ((simp only [decide_eq_true_eq, decide_eq_false_iff_not, Bool.not_eq_true', Bool.not_eq_false', Bool.not_true, Bool.not_false]; first | assumption | omega))))))
          refine AW.loopW (fun n t M' => ∃ j : Nat, n = K.length - j ∧ j ≤ K.length ∧ (∃ N, M' = (M ++ [some { cells := [.int .i64 xw, .int .i64 xh, .int .i64 xg, .int .i64 xo, .bool xt] }]) ++ N) ∧
            t = fr [(1, .slice qk K.length ck), (11, .int .i64 bm), (22, .int .i64 us), (26, .pointer (some ⟨M.length + 0, 0, none⟩)), (27, .bool (dB K ⟨xw, xh, xg, xo, xt⟩ j)), (156, .slice qk K.length ck), (157, .int .i64 (K.length : Nat)), (158, .int .i64 (i : Nat)), (162, .slice qk K.length ck), (163, .int .i64 (K.length : Nat)), (164, .int .i64 (j : Nat))])
            ⟨_, _, (by repeat (first | exact trivial | (refine And.intro rfl ?_))), 0, rfl, Nat.zero_le _, ⟨[], by rw [List.append_nil]; rfl⟩, rfl⟩ ?_
          rintro n t M' ⟨j, rfl, hj, hm', rfl⟩
          have rx : M'[M.length]? = some (some { cells := [.int .i64 xw, .int .i64 xh, .int .i64 xg, .int .i64 xo, .bool xt] }) := by
            obtain ⟨N, rfl⟩ := hm'
            exact get_old _ (by rw [List.getElem?_append_right (Nat.le_refl _)]; simp)
          have rx0 : Rd M' (M.length + 0) 0 (.int .i64 xw) := ⟨_, rx, rfl⟩
          have rx1 : Rd M' (M.length + 0) 1 (.int .i64 xh) := ⟨_, rx, rfl⟩
          have rx3 : Rd M' (M.length + 0) 3 (.int .i64 xo) := ⟨_, rx, rfl⟩
          rcases Nat.lt_or_ge j K.length with hjl | hjg
          · have hm2' : Kds M' (.slice qk K.length ck) K := by obtain ⟨N, rfl⟩ := hm'; exact (hKy.old _).old _
            obtain ⟨A', O', sl', la', rd'⟩ := hm2'
            have ry := rd' j hjl
            have hyi := kdB_in (hkx j hjl)
            have hsucc : dB K ⟨xw, xh, xg, xo, xt⟩ (j + 1) = (dB K ⟨xw, xh, xg, xo, xt⟩ j && decide ((K.getD j default).worth * xw * xh ≤ xo * (K.getD j default).w * (K.getD j default).h)) := rfl
            generalize K.getD j default = y at *
            obtain ⟨yw, yh, yg, yo, yt⟩ := y
            simp only at hyi hsucc
            simp only [Kd.cells] at ry
            have p1 := mul_in (a := xo) (b := yw) (m := 1000000) (n := 16) (by omega) (by omega) (by omega) (by omega)
            have p2 := mul_in (a := xo * yw) (b := yh) (m := 16000000) (n := 16) (by omega) (by omega) (by omega) (by omega)
            have p3 := mul_in (a := yo) (b := xw) (m := 1000000) (n := 16) (by omega) (by omega) (by omega) (by omega)
            have p4 := mul_in (a := yo * xw) (b := xh) (m := 16000000) (n := 16) (by omega) (by omega) (by omega) (by omega)
            refine AW.rebase ?_
            cases hd : dB K ⟨xw, xh, xg, xo, xt⟩ j with
            | true =>
              rw [hd, Bool.true_and] at hsucc
              (repeat (first | (with_reducible refine AWo.cons ?_) | ((with_reducible refine Step.id ?_); first | ((with_reducible apply Step.gdT); exact rfl; exact rfl; (focus (rfl))) | ((with_reducible apply Step.move); exact rfl; exact rfl) | ((with_reducible apply Step.assign); exact rfl; exact rfl) | ((with_reducible apply Step.load); exact rfl; (focus (decide +kernel)); exact rfl; (focus (first | exact Rd.new rfl rfl | exact Rd.old _ (by assumption)))) | ((with_reducible apply Step.loadL (n := 5)); exact rfl; (focus (decide +kernel)); (focus (decide +kernel)); exact rfl; (focus (exact RdL.old _ (by assumption))); exact rfl; exact rfl) | ((with_reducible apply Step.ix (s := 5)); exact rfl; (focus (assumption)); exact rfl; (focus (decide +kernel)); exact rfl; (focus (omega))) | ((with_reducible apply Step.field0); exact rfl; (focus (decide +kernel)); exact rfl) | ((with_reducible apply Step.field (k := 1)); exact rfl; (focus (decide +kernel)); exact rfl) | ((with_reducible apply Step.field (k := 3)); exact rfl; (focus (decide +kernel)); exact rfl) | ((with_reducible apply Step.add); exact rfl; exact rfl; (focus (omega)); exact rfl) | ((with_reducible apply Step.mul); exact rfl; exact rfl; (focus (omega)); exact rfl) | ((with_reducible apply Step.lss); exact rfl; exact rfl; exact rfl) | ((with_reducible apply Step.geq); exact rfl; exact rfl; exact rfl) | ((with_reducible apply Step.pickT); exact rfl; exact rfl; exact rfl; exact rfl; (focus (rfl))) | ((with_reducible apply Step.alloc 0); exact rfl; exact ze33; exact rfl; (focus (first | (simp only [List.nil_append, List.cons_append, List.set_cons_zero, List.set_cons_succ, iv_set, bv_set, iv_rep, bv_rep]; done) | (simp only [List.nil_append, List.cons_append, List.set_cons_zero, List.set_cons_succ, iv_set, bv_set, iv_rep, bv_rep]; rfl) | rfl))) | ((with_reducible apply Step.storeA (k := 0) (n := 5)); exact rfl; exact rfl; exact rfl; exact rfl; (focus (decide +kernel)); exact rfl; (focus (kernel_rfl)); exact rfl; (focus (first | (simp only [List.nil_append, List.cons_append, List.set_cons_zero, List.set_cons_succ, iv_set, bv_set, iv_rep, bv_rep]; done) | (simp only [List.nil_append, List.cons_append, List.set_cons_zero, List.set_cons_succ, iv_set, bv_set, iv_rep, bv_rep]; rfl) | rfl)))) | (with_reducible refine AWo.nil ?_) | ((with_reducible apply AW.seq)) | ((with_reducible apply Then.n)) | ((with_reducible apply AW.regL)) | ((with_reducible apply AW.block)) | ((with_reducible apply InBlk.n)) | ((with_reducible apply AW.skip)) | ((with_reducible apply AW.condT); exact rfl; (focus ((simp only [decide_eq_true_eq, decide_eq_false_iff_not, Bool.not_eq_true', Bool.not_eq_false', Bool.not_true, Bool.not_false]; first | assumption | omega))))))
              exact ⟨_, [(1, .slice qk K.length ck), (11, .int .i64 bm), (22, .int .i64 us), (26, .pointer (some ⟨M.length + 0, 0, none⟩)), (27, .bool (decide (yo * xw * xh ≤ xo * yw * yh))), (156, .slice qk K.length ck), (157, .int .i64 (K.length : Nat)), (158, .int .i64 (i : Nat)), (162, .slice qk K.length ck), (163, .int .i64 (K.length : Nat)), (164, .int .i64 ((j + 1 : Nat) : Int))], by omega, (by repeat (first | exact trivial | (refine And.intro rfl ?_))), j + 1, rfl, by omega, by obtain ⟨N, rfl⟩ := hm'; exact ⟨_, by rw [List.append_assoc]⟩, by rw [hsucc]⟩
            | false =>
              rw [hd, Bool.false_and] at hsucc
              (repeat (first | (with_reducible refine AWo.cons ?_) | ((with_reducible refine Step.id ?_); first | ((with_reducible apply Step.gdF); exact rfl; exact rfl; (focus (rfl))) | ((with_reducible apply Step.move); exact rfl; exact rfl) | ((with_reducible apply Step.assign); exact rfl; exact rfl) | ((with_reducible apply Step.loadL (n := 5)); exact rfl; (focus (decide +kernel)); (focus (decide +kernel)); exact rfl; (focus (exact RdL.old _ (by assumption))); exact rfl; exact rfl) | ((with_reducible apply Step.ix (s := 5)); exact rfl; (focus (assumption)); exact rfl; (focus (decide +kernel)); exact rfl; (focus (omega))) | ((with_reducible apply Step.add); exact rfl; exact rfl; (focus (omega)); exact rfl) | ((with_reducible apply Step.lss); exact rfl; exact rfl; exact rfl) | ((with_reducible apply Step.pickF); exact rfl; exact rfl; exact rfl; exact rfl; (focus (rfl))) | ((with_reducible apply Step.alloc 0); exact rfl; exact ze33; exact rfl; (focus (first | (simp only [List.nil_append, List.cons_append, List.set_cons_zero, List.set_cons_succ, iv_set, bv_set, iv_rep, bv_rep]; done) | (simp only [List.nil_append, List.cons_append, List.set_cons_zero, List.set_cons_succ, iv_set, bv_set, iv_rep, bv_rep]; rfl) | rfl))) | ((with_reducible apply Step.storeA (k := 0) (n := 5)); exact rfl; exact rfl; exact rfl; exact rfl; (focus (decide +kernel)); exact rfl; (focus (kernel_rfl)); exact rfl; (focus (first | (simp only [List.nil_append, List.cons_append, List.set_cons_zero, List.set_cons_succ, iv_set, bv_set, iv_rep, bv_rep]; done) | (simp only [List.nil_append, List.cons_append, List.set_cons_zero, List.set_cons_succ, iv_set, bv_set, iv_rep, bv_rep]; rfl) | rfl)))) | (with_reducible refine AWo.nil ?_) | ((with_reducible apply AW.seq)) | ((with_reducible apply Then.n)) | ((with_reducible apply AW.regL)) | ((with_reducible apply AW.block)) | ((with_reducible apply InBlk.n)) | ((with_reducible apply AW.skip)) | ((with_reducible apply AW.condT); exact rfl; (focus ((simp only [decide_eq_true_eq, decide_eq_false_iff_not, Bool.not_eq_true', Bool.not_eq_false', Bool.not_true, Bool.not_false]; first | assumption | omega))))))
              exact ⟨_, [(1, .slice qk K.length ck), (11, .int .i64 bm), (22, .int .i64 us), (26, .pointer (some ⟨M.length + 0, 0, none⟩)), (27, .bool false), (156, .slice qk K.length ck), (157, .int .i64 (K.length : Nat)), (158, .int .i64 (i : Nat)), (162, .slice qk K.length ck), (163, .int .i64 (K.length : Nat)), (164, .int .i64 ((j + 1 : Nat) : Int))], by omega, (by repeat (first | exact trivial | (refine And.intro rfl ?_))), j + 1, rfl, by omega, by obtain ⟨N, rfl⟩ := hm'; exact ⟨_, by rw [List.append_assoc]⟩, by rw [hsucc]⟩
          · obtain rfl : j = K.length := by omega
            have q1 := mul_in (a := bm) (b := xw) (m := 256000000) (n := 16) (by omega) (by omega) (by omega) (by omega)
            have q2 := mul_in (a := bm * xw) (b := xh) (m := 4096000000) (n := 16) (by omega) (by omega) (by omega) (by omega)
            have q3 := mul_in (a := us) (b := xo) (m := 768) (n := 1000000) (by omega) (by omega) (by omega) (by omega)
            have hmm : ∃ N, M' = m ++ N := by obtain ⟨N, rfl⟩ := hm'; obtain ⟨N', rfl⟩ := hm; exact ⟨_, by rw [List.append_assoc, List.append_assoc]⟩
            refine AW.rebase ?_
            cases hd : dB K ⟨xw, xh, xg, xo, xt⟩ K.length with
            | true =>
              have hx := hx hd
              (repeat (first | (with_reducible refine AWo.cons ?_) | ((with_reducible refine Step.id ?_); first | ((with_reducible apply Step.gdT); exact rfl; exact rfl; (focus (rfl))) | ((with_reducible apply Step.move); exact rfl; exact rfl) | ((with_reducible apply Step.load); exact rfl; (focus (decide +kernel)); exact rfl; (focus (exact Rd.old _ (by assumption)))) | ((with_reducible apply Step.field0); exact rfl; (focus (decide +kernel)); exact rfl) | ((with_reducible apply Step.field (k := 1)); exact rfl; (focus (decide +kernel)); exact rfl) | ((with_reducible apply Step.field (k := 3)); exact rfl; (focus (decide +kernel)); exact rfl) | ((with_reducible apply Step.add); exact rfl; exact rfl; (focus (omega)); exact rfl) | ((with_reducible apply Step.mul); exact rfl; exact rfl; (focus (omega)); exact rfl) | ((with_reducible apply Step.lss); exact rfl; exact rfl; exact rfl) | ((with_reducible apply Step.gtr); exact rfl; exact rfl; exact rfl) | ((with_reducible apply Step.pickT); exact rfl; exact rfl; exact rfl; exact rfl; (focus (rfl)))) | (with_reducible refine AWo.nil ?_) | ((with_reducible apply AW.seq)) | ((with_reducible apply Then.n)) | ((with_reducible apply AW.regL)) | ((with_reducible apply AW.exit)) | ((with_reducible apply InBlk.n)) | ((with_reducible apply InBlk.hit)) | ((with_reducible apply Then.e)) | ((with_reducible apply AW.skip)) | ((with_reducible apply AW.condF); exact rfl; (focus ((simp only [decide_eq_true_eq, decide_eq_false_iff_not, Bool.not_eq_true', Bool.not_eq_false', Bool.not_true, Bool.not_false]; first | assumption | omega))))))
              exact ⟨_, _, by omega, (by repeat (first | exact trivial | (refine And.intro rfl ?_))), i + 1, rfl, by omega, by rw [List.append_nil]; exact hmm, rfl⟩
            | false =>
              (repeat (first | (with_reducible refine AWo.cons ?_) | ((with_reducible refine Step.id ?_); first | ((with_reducible apply Step.gdF); exact rfl; exact rfl; (focus (rfl))) | ((with_reducible apply Step.move); exact rfl; exact rfl) | ((with_reducible apply Step.add); exact rfl; exact rfl; (focus (omega)); exact rfl) | ((with_reducible apply Step.lss); exact rfl; exact rfl; exact rfl) | ((with_reducible apply Step.pickF); exact rfl; exact rfl; exact rfl; exact rfl; (focus (rfl)))) | (with_reducible refine AWo.nil ?_) | ((with_reducible apply AW.seq)) | ((with_reducible apply Then.n)) | ((with_reducible apply AW.regL)) | ((with_reducible apply AW.exit)) | ((with_reducible apply InBlk.n)) | ((with_reducible apply InBlk.hit)) | ((with_reducible apply Then.e)) | ((with_reducible apply AW.skip)) | ((with_reducible apply AW.condF); exact rfl; (focus (first | rfl | (simp only [decide_eq_true_eq, decide_eq_false_iff_not, Bool.not_eq_true', Bool.not_eq_false', Bool.not_true, Bool.not_false]; first | assumption | omega))))))
              exact ⟨_, _, by omega, (by repeat (first | exact trivial | (refine And.intro rfl ?_))), i + 1, rfl, by omega, by rw [List.append_nil]; exact hmm, rfl⟩
        · obtain rfl : i = K.length := by omega
          (repeat (first | (with_reducible refine AWo.cons ?_) | ((with_reducible refine Step.id ?_); first | ((with_reducible apply Step.assign); exact rfl; exact rfl) | ((with_reducible apply Step.lss); exact rfl; exact rfl; exact rfl) | ((with_reducible apply Step.callR fit); exact rfl; exact Tryd.func10; exact rfl; exact rfl; exact (haw _))) | (with_reducible refine AWo.nil ?_) | ((with_reducible apply AW.seq)) | ((with_reducible apply Then.n)) | ((with_reducible apply AW.regL)) | ((with_reducible apply AW.exit)) | ((with_reducible apply InBlk.hit)) | ((with_reducible apply Then.e)) | ((with_reducible apply AW.condF); exact rfl; (focus ((simp only [decide_eq_true_eq, decide_eq_false_iff_not, Bool.not_eq_true', Bool.not_eq_false', Bool.not_true, Bool.not_false]; first | assumption | omega))))))
          (refine AW.ret ?_; (repeat (first | refine Then.r ?_ | refine InBlk.r ?_)))
          obtain ⟨N, rfl⟩ := hm
          exact ⟨_, rfl, rfl, _, rfl⟩
    · omega
end Go.Proofs.YtedbjmgchfgabaaDoor.Abs
